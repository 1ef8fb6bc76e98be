/- Any number as so many bytes, the number of any bytes, there and back (BitsFixed): for every input. -/
import Derived.Test.YtggfahgkjdkjmaaFnx6
import Derived.Test.YtggfahgkjdkjmaaPVar
import Derived.Test.YtggfahgkjdkjmaaPureBitsVars
import Derived.OpenShut
namespace Go.Proofs.Ytggfahgkjdkjmaa.Pure
open Go.RowKit Go.Proofs.Ytggfahgkjdkjmaa.Fn Go.Proofs.YtggfahgkjdkjmaaW.PrintWords Go.Proofs.YtggfahgkjdkjmaaW.PrintLast Go.Proofs.YtggfahgkjdkjmaaW.PrintMore Go.Proofs.Ytggfahgkjdkjmaa.MB Go.Proofs.Ytggfahgkjdkjmaa.PV

def fxs (n b : Nat) : List Int := (List.range b).map fun i => ((n / 2 ^ (8 * i) % 256 : Nat) : Int)
theorem fxs_length (n b : Nat) : (fxs n b).length = b := by simp [fxs]
theorem fxs_succ (n b : Nat) : fxs n (b + 1) = fxs n b ++ [((n / 2 ^ (8 * b) % 256 : Nat) : Int)] := by simp [fxs, List.range_succ]
theorem fxs_getD (n b i : Nat) (h : i < b) : (fxs n b).getD i 0 = ((n / 2 ^ (8 * i) % 256 : Nat) : Int) := by simp [fxs, List.getD_eq_getElem?_getD, h]
theorem fxs_rng (n b : Nat) : ∀ x ∈ fxs n b, 0 ≤ x ∧ x < 256 := by
  intro x hx
  obtain ⟨i, _, rfl⟩ := List.mem_map.1 hx
  omega
theorem shr_u64 (n m : Nat) (hm : m ≤ 64) : shr .u64 (n : Int) (m : Int) = ((n / 2 ^ m : Nat) : Int) := by
  unfold shr
  rw [show min ((m : Int)).toNat IntKind.u64.bits = m from by simp [IntKind.bits]; omega]
  simp
theorem shr_i64 (n m : Nat) (hm : m ≤ 64) : shr .i64 (n : Int) (m : Int) = ((n / 2 ^ m : Nat) : Int) := by
  unfold shr
  rw [show min ((m : Int)).toNat IntKind.i64.bits = m from by simp [IntKind.bits]; omega]
  simp
theorem w8 (i : Nat) (h : i ≤ 100) : wrap64 (8 * (i : Int)) = ((8 * i : Nat) : Int) := by unfold wrap64; omega
theorem w1 (i : Nat) (h : i ≤ 100) : wrap64 ((i : Int) + 1) = ((i + 1 : Nat) : Int) := by unfold wrap64; omega
theorem putfixed_loop (n b : Nat) (hb : b ≤ 8) (hn : n < 2 ^ 63) : ∀ (d i k : Nat), i + d = b → d < k → bits_PutFixed.l0 k (n : Int) (fxs n i ++ List.replicate d 0) (b : Int) (i : Int) = some (strOfNums (fxs n b), 0) := by
  intro d
  induction d with
  | zero =>
    intro i k hi hk
    obtain ⟨k, rfl⟩ : ∃ m, k = m + 1 := ⟨k - 1, by omega⟩
    rw [bits_PutFixed.l0, if_neg (by omega)]
    simp only [List.replicate_zero, List.append_nil]
    rw [show i = b from by omega]
  | succ d ih =>
    intro i k hi hk
    obtain ⟨k, rfl⟩ : ∃ m, k = m + 1 := ⟨k - 1, by omega⟩
    rw [bits_PutFixed.l0, if_pos (by omega), w8 i (by omega), w1 i (by omega), if_pos (by omega), if_pos (by omega), if_pos (by rw [List.length_append, fxs_length, List.length_replicate]; omega), wraps_u64 _ (by omega) (by omega), shr_u64 n _ (by omega)]
    have e : ((n / 2 ^ (8 * i) : Nat) : Int) % 256 = ((n / 2 ^ (8 * i) % 256 : Nat) : Int) := by omega
    have es : (fxs n i ++ List.replicate (d + 1) 0).set (i : Int).toNat ((n / 2 ^ (8 * i) % 256 : Nat) : Int) = fxs n (i + 1) ++ List.replicate d 0 := by
      rw [Int.toNat_natCast, List.set_append_right _ _ (by rw [fxs_length]; omega), fxs_length, Nat.sub_self, fxs_succ, List.append_assoc]
      rfl
    rw [e, es]
    exact ih (i + 1) k (by omega) (by omega)
theorem rputfixed_loop (n b : Nat) (hb : b ≤ 8) (hn : n < 2 ^ 63) : ∀ (d i k : Nat), i + d = b → d < k → postroadref01_PutFixed.l0 k (n : Int) (b : Int) (fxs n i) (i : Int) = some (strOfNums (fxs n b), 0) := by
  intro d
  induction d with
  | zero =>
    intro i k hi hk
    obtain ⟨k, rfl⟩ : ∃ m, k = m + 1 := ⟨k - 1, by omega⟩
    rw [postroadref01_PutFixed.l0, if_neg (by omega)]
    rw [show i = b from by omega]
  | succ d ih =>
    intro i k hi hk
    obtain ⟨k, rfl⟩ : ∃ m, k = m + 1 := ⟨k - 1, by omega⟩
    rw [postroadref01_PutFixed.l0, if_pos (by omega), w8 i (by omega), w1 i (by omega), if_pos (by omega), if_pos (by rw [fxs_length]; omega), shr_i64 n _ (by omega)]
    have hlt : n / 2 ^ (8 * i) < 2 ^ 63 := Nat.lt_of_le_of_lt (Nat.div_le_self _ _) hn
    have e : Go.bits .and .i64 ((n / 2 ^ (8 * i) : Nat) : Int) 255 % 256 = ((n / 2 ^ (8 * i) % 256 : Nat) : Int) := by
      rw [show (255 : Int) = ((255 : Nat) : Int) from rfl, and_i64 _ 255 hlt (by decide), show (255 : Nat) = 2 ^ 8 - 1 from rfl, Nat.and_two_pow_sub_one_eq_mod]
      omega
    rw [e, ← fxs_succ]
    exact ih (i + 1) k (by omega) (by omega)

def fvv (b : Nat → Nat) : Nat → Nat
  | 0 => 0
  | i + 1 => fvv b i + b i * 2 ^ (8 * i)
theorem fvv_lt (b : Nat → Nat) (hb : ∀ i, b i < 256) : ∀ i, fvv b i < 2 ^ (8 * i)
  | 0 => by simp [fvv]
  | i + 1 => by
    have h := fvv_lt b hb i
    have e : 2 ^ (8 * (i + 1)) = 256 * 2 ^ (8 * i) := by rw [Nat.mul_add, Nat.pow_add, Nat.mul_comm]
    have : b i * 2 ^ (8 * i) ≤ 255 * 2 ^ (8 * i) := Nat.mul_le_mul_right _ (by have := hb i; omega)
    unfold fvv
    omega
def bf (s : ByteArray) (i : Nat) : Nat := (bt s (i : Int)).toNat
theorem bf_lt (s : ByteArray) (i : Nat) : bf s i < 256 := by have := bt_range s (i : Int); unfold bf; omega
theorem bf_int (s : ByteArray) (i : Nat) : bt s (i : Int) = (bf s i : Int) := by have := bt_range s (i : Int); unfold bf; omega
theorem mul_lt_pow {c i : Nat} (hc : c < 256) : c * 2 ^ (8 * i) < 2 ^ (8 * (i + 1)) := by
  have e : 2 ^ (8 * (i + 1)) = 256 * 2 ^ (8 * i) := by rw [Nat.mul_add, Nat.pow_add, Nat.mul_comm]
  rw [e]
  exact Nat.mul_lt_mul_of_pos_right hc (Nat.two_pow_pos _)
theorem fixed_loop (s : ByteArray) (b : Nat) (hb : b ≤ 8) (hs : b ≤ s.size) : ∀ (d i k : Nat), i + d = b → d < k →
    bits_Fixed.l0 k s (fvv (bf s) i : Int) (b : Int) (i : Int) = if fvv (bf s) b / 9223372036854775808 = 0 then some ((fvv (bf s) b : Int), 0) else some (0, 10) := by
  intro d
  induction d with
  | zero =>
    intro i k hi hk
    obtain ⟨k, rfl⟩ : ∃ m, k = m + 1 := ⟨k - 1, by omega⟩
    rw [bits_Fixed.l0, if_neg (by omega), show i = b from by omega]
    by_cases h : fvv (bf s) b / 9223372036854775808 = 0
    · rw [if_pos (by omega), if_pos h, wrap64_cast _ (by omega)]
    · rw [if_neg (by omega), if_neg h]
  | succ d ih =>
    intro i k hi hk
    obtain ⟨k, rfl⟩ : ∃ m, k = m + 1 := ⟨k - 1, by omega⟩
    rw [bits_Fixed.l0, if_pos (by omega), if_pos (by omega), if_pos (by omega), w8 i (by omega), w1 i (by omega), if_pos (by omega), bf_int]
    have hc := bf_lt s i
    have h1 := mul_lt_pow (i := i) hc
    have h2 : 2 ^ (8 * (i + 1)) ≤ 2 ^ 64 := Nat.pow_le_pow_right (by decide) (by omega)
    have h3 := fvv_lt (bf s) (bf_lt s) i
    have h4 : 2 ^ (8 * i) ≤ 2 ^ 64 := Nat.pow_le_pow_right (by decide) (by omega)
    rw [wraps_u64 _ (by omega) (cast_lt_two_pow (Nat.lt_of_lt_of_le hc (by decide))), shl_u64 _ _ (by omega) (by omega), or_u64 _ _ (by omega) (by omega), or_shift h3]
    exact ih (i + 1) k (by omega) (by omega)
theorem rfixed_loop (s : ByteArray) (b : Nat) (hb : b ≤ 8) (hs : b ≤ s.size) (hlt : fvv (bf s) b < 2 ^ 63) : ∀ (d i k : Nat), i + d = b → d < k →
    postroadref01_Fixed.l0 k s (b : Int) (fvv (bf s) i : Int) (i : Int) = some ((fvv (bf s) b : Int), 0) := by
  have mono : ∀ i, i ≤ b → fvv (bf s) i ≤ fvv (bf s) b := by
    intro i hi
    induction b with
    | zero => rw [show i = 0 from by omega]; exact Nat.le_refl _
    | succ b ih =>
      rcases Nat.lt_or_ge b i with h | h
      · rw [show i = b + 1 from by omega]; exact Nat.le_refl _
      · have : fvv (bf s) b ≤ fvv (bf s) (b + 1) := Nat.le_add_right _ _
        exact Nat.le_trans (ih (by omega) (by omega) (by omega) h) this
  intro d
  induction d with
  | zero =>
    intro i k hi hk
    obtain ⟨k, rfl⟩ : ∃ m, k = m + 1 := ⟨k - 1, by omega⟩
    rw [postroadref01_Fixed.l0, if_neg (by omega), show i = b from by omega]
  | succ d ih =>
    intro i k hi hk
    obtain ⟨k, rfl⟩ : ∃ m, k = m + 1 := ⟨k - 1, by omega⟩
    rw [postroadref01_Fixed.l0, if_pos (by omega), if_pos (by omega), if_pos (by omega), w8 i (by omega), w1 i (by omega), if_pos (by omega), bf_int]
    have hc := bf_lt s i
    have h1 := mono (i + 1) (by omega)
    have h2 : fvv (bf s) (i + 1) = fvv (bf s) i + bf s i * 2 ^ (8 * i) := rfl
    rw [wrap64_cast _ (by omega), shl64 (by omega) (by omega), ← Int.natCast_add, ← h2, wrap64_cast _ (by omega)]
    exact ih (i + 1) k (by omega) (by omega)
/-- What a text's first bytes are as a number. -/
def fixed_ (s : ByteArray) (b : Int) : Int × Int :=
  if b < 1 ∨ 8 < b then (0, 1) else if (s.size : Int) < b then (0, 5) else if fvv (bf s) b.toNat / 9223372036854775808 = 0 then ((fvv (bf s) b.toNat : Int), 0) else (0, 10)
theorem top_byte (s : ByteArray) : fvv (bf s) 8 / 9223372036854775808 = bf s 7 / 128 := by
  have h := fvv_lt (bf s) (bf_lt s) 7
  have e : fvv (bf s) 8 = fvv (bf s) 7 + bf s 7 * 72057594037927936 := rfl
  omega
theorem fixed_f (s : ByteArray) (b : Int) (k : Nat) (hk : 15 ≤ k) : bits_Fixed.f k s b = some (fixed_ s b) := by
  obtain ⟨k, rfl⟩ : ∃ m, k = m + 1 := ⟨k - 1, by omega⟩
  unfold bits_Fixed.f fixed_
  by_cases h1 : b < 1
  · rw [if_pos h1, if_pos (Or.inl h1), bits_Fixed.j0, if_pos rfl]
  · rw [if_neg h1]
    by_cases h2 : 8 < b
    · rw [if_pos (Or.inr h2), bits_Fixed.j0, if_pos (decide_eq_true h2)]
    · rw [if_neg (by omega), bits_Fixed.j0, if_neg (by simp; omega)]
      by_cases h3 : (s.size : Int) < b
      · rw [if_pos h3, if_pos h3]
      · rw [if_neg h3, if_neg h3]
        obtain ⟨c, rfl⟩ := Int.eq_ofNat_of_zero_le (by omega : 0 ≤ b)
        have := fixed_loop s c (by omega) (by omega) c 0 k (by omega) (by omega)
        rw [show ((fvv (bf s) 0 : Nat) : Int) = 0 from rfl, show ((0 : Nat) : Int) = 0 from rfl] at this
        rw [this, Int.toNat_natCast]
        split <;> rfl
theorem rfixed_f (s : ByteArray) (b : Int) (k : Nat) (hk : 15 ≤ k) : postroadref01_Fixed.f k s b = some (fixed_ s b) := by
  obtain ⟨k, rfl⟩ : ∃ m, k = m + 2 := ⟨k - 2, by omega⟩
  unfold postroadref01_Fixed.f fixed_
  by_cases h1 : b < 1
  · rw [if_pos h1, if_pos (Or.inl h1), postroadref01_Fixed.j0, if_pos rfl]
  · rw [if_neg h1]
    by_cases h2 : 8 < b
    · rw [if_pos (Or.inr h2), postroadref01_Fixed.j0, if_pos (decide_eq_true h2)]
    · rw [if_neg (by omega), postroadref01_Fixed.j0, if_neg (by simp; omega)]
      by_cases h3 : (s.size : Int) < b
      · rw [if_pos h3, if_pos h3]
      · rw [if_neg h3, if_neg h3]
        obtain ⟨c, rfl⟩ := Int.eq_ofNat_of_zero_le (by omega : 0 ≤ b)
        rw [Int.toNat_natCast]
        have hlt := fvv_lt (bf s) (bf_lt s) c
        have go : fvv (bf s) c < 2 ^ 63 → postroadref01_Fixed.l0 k s (c : Int) 0 0 = some ((fvv (bf s) c : Int), 0) := fun h => by
          have := rfixed_loop s c (by omega) (by omega) h c 0 k (by omega) (by omega)
          rwa [show ((fvv (bf s) 0 : Nat) : Int) = 0 from rfl, show ((0 : Nat) : Int) = 0 from rfl] at this
        by_cases h4 : c = 8
        · subst h4
          rw [if_pos (show ((8 : Nat) : Int) = 8 from rfl), if_pos (by omega), top_byte, show (7 : Int) = ((7 : Nat) : Int) from rfl, bf_int, postroadref01_Fixed.j1]
          by_cases h5 : bf s 7 / 128 = 0
          · rw [if_neg (by simp; omega), if_pos h5, go (by have := top_byte s; omega)]
          · rw [if_pos (by simp; omega), if_neg h5]
        · have h6 : 2 ^ (8 * c) ≤ 2 ^ 56 := Nat.pow_le_pow_right (by decide) (by omega)
          rw [if_neg (by omega), postroadref01_Fixed.j1, if_neg (by decide), if_pos (by omega), go (by omega)]
/-- A number as so many bytes. -/
def putfixed_ (n b : Int) : ByteArray × Int := if b < 1 ∨ 8 < b ∨ n < 0 ∨ 0 < n.toNat / 2 ^ (8 * b.toNat) then (⟨#[]⟩, 1) else (strOfNums (fxs n.toNat b.toNat), 0)
theorem putfixed_f (n b : Int) (hn : n ≤ 9223372036854775807) (k : Nat) (hk : 15 ≤ k) : bits_PutFixed.f k n b = some (putfixed_ n b) := by
  obtain ⟨k, rfl⟩ : ∃ m, k = m + 1 := ⟨k - 1, by omega⟩
  unfold bits_PutFixed.f putfixed_
  by_cases h1 : b < 1
  · rw [if_pos h1, if_pos (Or.inl h1), bits_PutFixed.j0, if_pos rfl]
  · rw [if_neg h1]
    by_cases h2 : b > 8
    · rw [if_pos h2, if_pos (Or.inr (Or.inl h2)), bits_PutFixed.j0, if_pos rfl]
    · rw [if_neg h2]
      by_cases h3 : n < 0
      · rw [if_pos h3, if_pos (Or.inr (Or.inr (Or.inl h3))), bits_PutFixed.j0, if_pos rfl]
      · obtain ⟨c, rfl⟩ := Int.eq_ofNat_of_zero_le (by omega : 0 ≤ b)
        obtain ⟨m, rfl⟩ := Int.eq_ofNat_of_zero_le (by omega : 0 ≤ n)
        simp only [Int.toNat_natCast]
        have e1 : wrap64 (wrap64 (8 * (c : Int)) - 1) = ((8 * c - 1 : Nat) : Int) := by unfold wrap64; omega
        rw [if_neg h3, e1]
        clear e1
        rw [if_pos (by omega), wraps_u64 _ (by omega) (by omega), shr_u64 m _ (by omega)]
        have e2 : m / 2 ^ (8 * c) = m / 2 ^ (8 * c - 1) / 2 := by
          rw [Nat.div_div_eq_div_mul, ← Nat.pow_succ, Nat.succ_eq_add_one, Nat.sub_add_cancel (by omega)]
        rw [bits_PutFixed.j0, e2]
        generalize m / 2 ^ (8 * c - 1) = z
        by_cases h4 : 0 < z / 2
        · rw [if_pos (by simp; omega), if_pos (Or.inr (Or.inr (Or.inr h4)))]
        · have t1 : (((z : Nat) : Int) / 2 != 0) = false := by simp; omega
          rw [t1, if_neg (show ¬ (false = true) by decide), if_pos (show (0 : Int) ≤ (c : Int) by omega), if_pos (show ((c : Nat) : Int).toNat ≤ 281474976710656 by omega), if_neg (by omega)]
          exact putfixed_loop m c (by omega) (by omega) c 0 k (by omega) (by omega)
theorem rputfixed_f (n b : Int) (hn : n ≤ 9223372036854775807) (k : Nat) (hk : 15 ≤ k) : postroadref01_PutFixed.f k n b = some (putfixed_ n b) := by
  obtain ⟨k, rfl⟩ : ∃ m, k = m + 1 := ⟨k - 1, by omega⟩
  unfold postroadref01_PutFixed.f putfixed_
  by_cases h1 : b < 1
  · rw [if_pos h1, if_pos (Or.inl h1), postroadref01_PutFixed.j0, if_pos rfl]
  · rw [if_neg h1]
    by_cases h2 : b > 8
    · rw [if_pos h2, if_pos (Or.inr (Or.inl h2)), postroadref01_PutFixed.j0, if_pos rfl]
    · rw [if_neg h2]
      by_cases h3 : n < 0
      · rw [if_pos h3, if_pos (Or.inr (Or.inr (Or.inl h3))), postroadref01_PutFixed.j0, if_pos rfl]
      · obtain ⟨c, rfl⟩ := Int.eq_ofNat_of_zero_le (by omega : 0 ≤ b)
        obtain ⟨m, rfl⟩ := Int.eq_ofNat_of_zero_le (by omega : 0 ≤ n)
        simp only [Int.toNat_natCast]
        rw [if_neg h3]
        have go := rputfixed_loop m c (by omega) (by omega) c 0 k (by omega) (by omega)
        rw [show ((0 : Nat) : Int) = 0 from rfl, show fxs m 0 = [] from rfl] at go
        by_cases h5 : (c : Int) < 8
        · rw [if_pos h5, w8 c (by omega), if_pos (by omega), shr_i64 m _ (by omega), postroadref01_PutFixed.j0]
          by_cases h4 : 0 < m / 2 ^ (8 * c)
          · rw [if_pos (by simp only [decide_eq_true_eq]; omega), if_pos (Or.inr (Or.inr (Or.inr h4)))]
          · rw [if_neg (by simp only [decide_eq_true_eq]; omega), if_neg (by omega), go]
        · have h6 : c = 8 := by omega
          subst h6
          rw [if_neg h5, postroadref01_PutFixed.j0, if_neg (by decide), go, if_neg (by omega)]
theorem fvv_fxs (n b : Nat) (t : ByteArray) : ∀ i, i ≤ b → fvv (bf (strOfNums (fxs n b) ++ t)) i = n % 2 ^ (8 * i)
  | 0, _ => by simp [fvv, Nat.mod_one]
  | i + 1, h => by
    have ih := fvv_fxs n b t i (by omega)
    have hb : bf (strOfNums (fxs n b) ++ t) i = n / 2 ^ (8 * i) % 256 := by
      unfold bf
      rw [bt_append, size_strOfNums, fxs_length, if_pos (by omega), bt_strOfNums (fxs_rng n b), fxs_getD n b i (by omega)]
      rfl
    unfold fvv
    rw [ih, hb, Nat.mul_add, Nat.pow_add, Nat.mod_mul]
    rw [Nat.mul_comm (2 ^ (8 * i))]
theorem BitsFixed : postroadlaw01_BitsFixed.Pure := by
  intro n b s hn hb hs
  have bn := bounds_i64 hn
  refine ⟨16, ?_⟩
  unfold postroadlaw01_BitsFixed.f
  rw [putfixed_f n b bn.2 16 (by omega), rputfixed_f n b bn.2 16 (by omega), fixed_f s b 16 (by omega), rfixed_f s b 16 (by omega)]
  simp only [Option.bind_some, if_true, bne_self_eq_false]
  have hsz : (putfixed_ n b).1.size ≤ 8 := by
    unfold putfixed_
    split
    · show (0 : Nat) ≤ 8; omega
    · rw [size_strOfNums, fxs_length]; omega
  rw [postroadlaw01_BitsFixed.j0, if_neg (by decide), if_pos (by omega), fixed_f _ b 15 (by omega)]
  simp only [Option.bind_some]
  by_cases h : b < 1 ∨ 8 < b ∨ n < 0 ∨ 0 < n.toNat / 2 ^ (8 * b.toNat)
  · have : (putfixed_ n b).2 = 1 := by unfold putfixed_; rw [if_pos h]
    rw [this, if_neg (by decide), awake_f]
    rfl
  · have e : putfixed_ n b = (strOfNums (fxs n.toNat b.toNat), 0) := by unfold putfixed_; rw [if_neg h]
    rw [e]
    obtain ⟨c, rfl⟩ := Int.eq_ofNat_of_zero_le (by omega : 0 ≤ b)
    obtain ⟨m, rfl⟩ := Int.eq_ofNat_of_zero_le (by omega : 0 ≤ n)
    simp only [Int.toNat_natCast] at h ⊢
    have hm : m < 2 ^ (8 * c) := by
      have : m / 2 ^ (8 * c) = 0 := Nat.eq_zero_of_not_pos (fun hh => h (Or.inr (Or.inr (Or.inr hh))))
      exact (Nat.div_eq_zero_iff_lt (Nat.two_pow_pos _)).1 this
    have e2 : fixed_ (strOfNums (fxs m c) ++ s) (c : Int) = ((m : Int), 0) := by
      unfold fixed_
      rw [if_neg (by omega), if_neg (by rw [ByteArray.size_append, size_strOfNums, fxs_length]; omega), Int.toNat_natCast, fvv_fxs m c s c (Nat.le_refl _), Nat.mod_eq_of_lt hm, if_pos (by omega)]
    rw [e2]
    simp only [if_true, size_strOfNums, fxs_length]
    rw [awake_f]
    rfl
end Go.Proofs.Ytggfahgkjdkjmaa.Pure
