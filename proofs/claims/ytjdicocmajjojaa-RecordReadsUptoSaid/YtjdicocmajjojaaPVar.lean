/- Numbers as groups of seven bits: what PutVar and Var come to, the program's and the document's. -/
import Derived.Test.YtjdicocmajjojaaFna
import Derived.Test.YtjdicocmajjojaaMBits
namespace Go.Proofs.Ytjdicocmajjojaa.PV
open Go.RowKit Go.Proofs.YtjdicocmajjojaaW.PrintWords Go.Proofs.YtjdicocmajjojaaW.PrintLast Go.Proofs.YtjdicocmajjojaaW.PrintMore Go.Proofs.Ytjdicocmajjojaa.MB Go.Proofs.Ytjdicocmajjojaa.Fn

def pv (n : Nat) : List Int := if n < 128 then [(n : Int)] else ((n % 128 + 128 : Nat) : Int) :: pv (n / 128)
termination_by n
theorem pv_lt {n : Nat} (h : n < 128) : pv n = [(n : Int)] := by rw [pv, if_pos h]
theorem pv_ge {n : Nat} (h : ¬ n < 128) : pv n = ((n % 128 + 128 : Nat) : Int) :: pv (n / 128) := by rw [pv, if_neg h]
theorem pv_pos (n : Nat) : 0 < (pv n).length := by
  by_cases h : n < 128
  · rw [pv_lt h]; simp
  · rw [pv_ge h]; simp
theorem pv_len : ∀ (k n : Nat), n < 128 ^ (k + 1) → (pv n).length ≤ k + 1
  | 0, n, h => by rw [pv_lt (by simpa using h)]; simp
  | k + 1, n, h => by
    by_cases h1 : n < 128
    · rw [pv_lt h1]; simp
    · rw [pv_ge h1, List.length_cons]
      have := pv_len k (n / 128) (by rw [Nat.div_lt_iff_lt_mul (by decide)]; rwa [Nat.pow_succ] at h)
      omega
theorem pv_rng (n : Nat) : ∀ b ∈ pv n, 0 ≤ b ∧ b < 256 := by
  induction n using Nat.strongRecOn with
  | ind n ih =>
    by_cases h : n < 128
    · rw [pv_lt h]; intro b hb; rw [List.mem_singleton.1 hb]; omega
    · rw [pv_ge h]; intro b hb
      rcases List.mem_cons.1 hb with rfl | hb
      · omega
      · exact ih (n / 128) (by omega) b hb
theorem or128 : ∀ m : Nat, m < 256 → (m ||| 128) = m % 128 + 128 := by decide +kernel
theorem u8_or_128 (n : Nat) : Go.bits .or .u8 ((n : Int) % 256) 128 = ((n % 128 + 128 : Nat) : Int) := by
  have e : ((n : Int) % 256) = ((n % 256 : Nat) : Int) := by omega
  rw [e, show (128 : Int) = ((128 : Nat) : Int) from rfl, or_u8 _ 128 (Nat.mod_lt _ (by decide)) (by decide), or128 _ (Nat.mod_lt _ (by decide))]
  congr 2
  omega
theorem putvar_loop : ∀ (k n : Nat) (acc : List Int), n < 128 ^ (k + 1) → acc.length + k ≤ 1000 → bits_PutVar.l0 (k + 1) acc (n : Int) = some (strOfNums (acc ++ pv n), 0) := by
  intro k
  induction k with
  | zero =>
    intro n acc h hl
    simp only [bits_PutVar.l0]
    rw [if_neg (by omega), if_pos (by omega), pv_lt (by omega), show (n : Int) % 256 = (n : Int) from by omega]
  | succ k ih =>
    intro n acc h hl
    rw [bits_PutVar.l0]
    by_cases h1 : n < 128
    · rw [if_neg (by omega), if_pos (by omega), pv_lt h1, show (n : Int) % 256 = (n : Int) from by omega]
    · rw [if_pos (by omega), if_pos (by omega), u8_or_128]
      have e : (n : Int) / 128 = ((n / 128 : Nat) : Int) := by omega
      rw [e, ih (n / 128) _ (by rw [Nat.div_lt_iff_lt_mul (by decide)]; rwa [Nat.pow_succ] at h) (by rw [List.length_append, List.length_singleton]; omega), pv_ge h1, List.append_assoc]
      rfl
theorem putvar_neg (k : Nat) (n : Int) (h : n < 0) : bits_PutVar.f k n = some (⟨#[]⟩, 1) := by unfold bits_PutVar.f; rw [if_pos h]
theorem putvar_nat (n : Nat) (h : n < 2 ^ 63) : bits_PutVar.f 10 (n : Int) = some (strOfNums (pv n), 0) := by
  unfold bits_PutVar.f
  rw [if_neg (by omega), wraps_u64 _ (by omega) (by omega)]
  exact putvar_loop 9 n [] (Nat.lt_of_lt_of_le h (by decide)) (by simp)
theorem wrap64_cast (n : Nat) (h : n < 9223372036854775808) : wrap64 (n : Int) = n := by unfold wrap64; omega
theorem rputvar_loop : ∀ (k n : Nat) (acc : List Int), n < 128 ^ (k + 1) → n < 2 ^ 63 → acc.length + k ≤ 1000 → postroadref01_PutVar.l0 (k + 1) (n : Int) acc = some (strOfNums (acc ++ pv n), 0) := by
  intro k
  induction k with
  | zero =>
    intro n acc h _ hl
    simp only [postroadref01_PutVar.l0]
    rw [if_neg (by omega), if_pos (by omega), pv_lt (by omega), show (n : Int) % 256 = (n : Int) from by omega]
  | succ k ih =>
    intro n acc h h63 hl
    rw [postroadref01_PutVar.l0]
    by_cases h1 : n < 128
    · rw [if_neg (by omega), if_pos (by omega), pv_lt h1, show (n : Int) % 256 = (n : Int) from by omega]
    · rw [if_pos (by omega), if_pos (by omega)]
      have e : Int.tdiv (n : Int) 128 = ((n / 128 : Nat) : Int) := by rw [Int.tdiv_eq_ediv_of_nonneg (by omega)]; omega
      have e2 : Int.tmod (n : Int) 128 = ((n % 128 : Nat) : Int) := by rw [Int.tmod_eq_emod_of_nonneg (by omega)]; omega
      have e3 : ((n % 128 : Nat) : Int) + 128 = ((n % 128 + 128 : Nat) : Int) := by omega
      have e4 : ((n % 128 + 128 : Nat) : Int) % 256 = ((n % 128 + 128 : Nat) : Int) := by omega
      rw [e, e2, wrap64_cast _ (by omega), e3, wrap64_cast _ (by omega), e4, ih (n / 128) _ (by rw [Nat.div_lt_iff_lt_mul (by decide)]; rwa [Nat.pow_succ] at h) (by omega) (by rw [List.length_append, List.length_singleton]; omega), pv_ge h1, List.append_assoc]
      rfl
theorem rputvar_neg (k : Nat) (n : Int) (h : n < 0) : postroadref01_PutVar.f k n = some (⟨#[]⟩, 1) := by unfold postroadref01_PutVar.f; rw [if_pos h]
theorem rputvar_nat (n : Nat) (h : n < 2 ^ 63) : postroadref01_PutVar.f 10 (n : Int) = some (strOfNums (pv n), 0) := by
  unfold postroadref01_PutVar.f
  rw [if_neg (by omega)]
  exact rputvar_loop 9 n [] (Nat.lt_of_lt_of_le h (by decide)) h (by simp)

/-- Var on bytes b, so many: i bytes were read, a is their number. -/
def vr (b : Nat → Nat) (sz : Nat) : Nat → Nat → Nat → Int × Int × Int
  | 0, _, _ => (0, 0, 10)
  | d + 1, i, a => if sz ≤ i then (0, 0, 5) else if b i < 128 then (if b i = 0 ∧ 0 < i then (0, 0, 10) else (((a + b i % 128 * 2 ^ (7 * i) : Nat) : Int), ((i + 1 : Nat) : Int), 0))
      else vr b sz d (i + 1) (a + b i % 128 * 2 ^ (7 * i))
theorem and127 (m : Nat) (h : m < 256) : Go.bits .and .u8 (m : Int) 127 = ((m % 128 : Nat) : Int) := by
  have := bits_mask .u8 8 (by decide) wraps_u8 7 (by decide) (m : Int) (by omega) (by omega)
  rw [show (2 : Int) ^ 7 - 1 = 127 from rfl] at this
  rw [this]
  omega
theorem or_shift {a c m : Nat} (ha : a < 2 ^ m) : a ||| c * 2 ^ m = a + c * 2 ^ m := by
  rw [← Nat.shiftLeft_eq, Nat.or_comm, ← Nat.shiftLeft_add_eq_or_of_lt ha, Nat.add_comm]
theorem add_lt_step {a c i : Nat} (ha : a < 2 ^ (7 * i)) (hc : c < 128) : a + c * 2 ^ (7 * i) < 2 ^ (7 * (i + 1)) := by
  have e : 2 ^ (7 * (i + 1)) = 128 * 2 ^ (7 * i) := by rw [Nat.mul_add, Nat.pow_add, Nat.mul_comm]
  rw [e]
  have : c * 2 ^ (7 * i) ≤ 127 * 2 ^ (7 * i) := Nat.mul_le_mul_right _ (by omega)
  omega
theorem pow_le_63 {i : Nat} (h : i ≤ 8) : 2 ^ (7 * (i + 1)) ≤ 2 ^ 63 := Nat.pow_le_pow_right (by decide) (by omega)
theorem shl64 {c m : Nat} (h : c * 2 ^ m < 2 ^ 63) (hm : m ≤ 64) : shl .i64 (c : Int) (m : Int) = ((c * 2 ^ m : Nat) : Int) := by
  unfold shl
  rw [show min ((m : Int)).toNat IntKind.i64.bits = m from by simp [IntKind.bits]; omega]
  have e : ((c : Int) * 2 ^ m) = ((c * 2 ^ m : Nat) : Int) := by simp
  rw [e]
  exact wraps_i64 _ (by omega) (cast_lt_two_pow h)

theorem var_loop (s : ByteArray) (hs : s.size ≤ 1000000000000000) : ∀ (d i a k : Nat), d + i = 9 → i ≤ s.size → a < 2 ^ (7 * i) → d < k → bits_Var.l0 k s (a : Int) (i : Int) = some (vr (fun j => (bt s (j : Int)).toNat) s.size d i a) := by
  intro d
  induction d with
  | zero =>
    intro i a k hd _ ha hk
    obtain ⟨k, rfl⟩ : ∃ m, k = m + 1 := ⟨k - 1, by omega⟩
    rw [bits_Var.l0, if_neg (by omega)]
    rfl
  | succ d ih =>
    intro i a k hd hi ha hk
    obtain ⟨k, rfl⟩ : ∃ m, k = m + 1 := ⟨k - 1, by omega⟩
    rw [bits_Var.l0, if_pos (by omega), vr]
    by_cases h1 : s.size ≤ i
    · rw [if_pos (by omega), if_pos h1]
    · have e7 : wrap64 (7 * (i : Int)) = ((7 * i : Nat) : Int) := by unfold wrap64; omega
      have e1 : wrap64 ((i : Int) + 1) = ((i + 1 : Nat) : Int) := by unfold wrap64; omega
      rw [e7, e1]
      clear e7 e1
      rw [if_neg (by omega), if_pos (by omega), if_pos (by omega), if_pos (by omega), if_neg h1]
      obtain ⟨c, hc, hc8⟩ := bt_nat s (i : Int)
      simp only [hc, Int.toNat_natCast]
      have hm : c % 128 < 128 := Nat.mod_lt _ (by decide)
      have hlt := add_lt_step ha hm
      have hp := pow_le_63 (i := i) (by omega)
      have e5 : Go.bits .or .u64 (a : Int) (shl .u64 (IntKind.u64.wrap (Go.bits .and .u8 (c : Int) 127)) ((7 * i : Nat) : Int)) = ((a + c % 128 * 2 ^ (7 * i) : Nat) : Int) := by
        rw [and127 c hc8, wraps_u64 _ (by omega) (cast_lt_two_pow (Nat.lt_of_lt_of_le hm (by decide))), shl_u64 _ _ (by omega) (by omega), or_u64 _ _ (by omega) (by omega), or_shift ha]
      rw [e5]
      clear e5
      by_cases h2 : c < 128
      · rw [if_neg (by omega), if_pos h2]
        by_cases h3 : c = 0 ∧ 0 < i
        · rw [if_pos (by omega), if_pos (by omega), if_pos h3]
        · rw [if_neg h3, wrap64_cast _ (by omega)]
          by_cases h4 : c = 0
          · rw [if_pos (by omega), if_neg (by omega)]
          · rw [if_neg (by omega)]
      · rw [if_pos (by omega), if_neg h2]
        exact ih (i + 1) _ k (by omega) (by omega) hlt (by omega)
theorem rvar_loop (s : ByteArray) (hs : s.size ≤ 1000000000000000) : ∀ (d i a k : Nat), d + i = 9 → i ≤ s.size → a < 2 ^ (7 * i) → d < k → postroadref01_Var.l0 k s (a : Int) (i : Int) = some (vr (fun j => (bt s (j : Int)).toNat) s.size d i a) := by
  intro d
  induction d with
  | zero =>
    intro i a k hd _ ha hk
    obtain ⟨k, rfl⟩ : ∃ m, k = m + 1 := ⟨k - 1, by omega⟩
    rw [postroadref01_Var.l0, if_neg (by omega)]
    rfl
  | succ d ih =>
    intro i a k hd hi ha hk
    obtain ⟨k, rfl⟩ : ∃ m, k = m + 1 := ⟨k - 1, by omega⟩
    rw [postroadref01_Var.l0, if_pos (by omega), vr]
    by_cases h1 : s.size ≤ i
    · rw [if_pos (by omega), if_pos h1]
    · have e7 : wrap64 (7 * (i : Int)) = ((7 * i : Nat) : Int) := by unfold wrap64; omega
      have e1 : wrap64 ((i : Int) + 1) = ((i + 1 : Nat) : Int) := by unfold wrap64; omega
      rw [e7, e1]
      clear e7 e1
      rw [if_neg (by omega), if_pos (by omega), if_pos (by omega), if_pos (by omega), if_neg h1]
      obtain ⟨c, hc, hc8⟩ := bt_nat s (i : Int)
      simp only [hc, Int.toNat_natCast]
      have hm : c % 128 < 128 := Nat.mod_lt _ (by decide)
      have hlt := add_lt_step ha hm
      have hp := pow_le_63 (i := i) (by omega)
      have e5 : wrap64 ((a : Int) + (shl .i64 (wrap64 (Go.bits .and .u8 (c : Int) 127)) ((7 * i : Nat) : Int))) = ((a + c % 128 * 2 ^ (7 * i) : Nat) : Int) := by
        rw [and127 c hc8, wrap64_cast _ (by omega), shl64 (by omega) (by omega), ← Int.natCast_add, wrap64_cast _ (by omega)]
      rw [e5]
      clear e5
      by_cases h2 : c < 128
      · rw [if_pos (by omega), if_pos h2]
        by_cases h3 : c = 0 ∧ 0 < i
        · rw [if_pos (by omega), if_pos (by omega), if_pos h3]
        · rw [if_neg h3]
          by_cases h4 : c = 0
          · rw [if_pos (by omega), if_neg (by omega)]
          · rw [if_neg (by omega)]
      · rw [if_neg (by omega), if_neg h2]
        exact ih (i + 1) _ k (by omega) (by omega) hlt (by omega)
def var_ (s : ByteArray) : Int × Int × Int := vr (fun j => (bt s (j : Int)).toNat) s.size 9 0 0
theorem var_f (s : ByteArray) (hs : s.size ≤ 1000000000000000) : bits_Var.f 10 s = some (var_ s) := var_loop s hs 9 0 0 10 rfl (Nat.zero_le _) (by decide) (by decide)
theorem rvar_f (s : ByteArray) (hs : s.size ≤ 1000000000000000) : postroadref01_Var.f 10 s = some (var_ s) := rvar_loop s hs 9 0 0 10 rfl (Nat.zero_le _) (by decide) (by decide)

/-- A number's bytes are read as it. -/
theorem vr_pv (b : Nat → Nat) (sz : Nat) : ∀ (n d i a : Nat), (pv n).length ≤ d → i + (pv n).length ≤ sz → (0 < n ∨ i = 0) → (∀ j, j < (pv n).length → (b (i + j) : Int) = (pv n).getD j 0) →
    vr b sz d i a = (((a + n * 2 ^ (7 * i) : Nat) : Int), ((i + (pv n).length : Nat) : Int), 0) := by
  intro n
  induction n using Nat.strongRecOn with
  | ind n ih =>
    intro d i a hd hsz hn hb
    have hp := pv_pos n
    obtain ⟨d, rfl⟩ : ∃ m, d = m + 1 := ⟨d - 1, by omega⟩
    rw [vr, if_neg (by omega)]
    have h0 := hb 0 hp
    rw [Nat.add_zero] at h0
    by_cases h : n < 128
    · rw [pv_lt h] at h0 ⊢
      have hbi : b i = n := by simp at h0; omega
      rw [hbi, if_pos h, if_neg (by omega), Nat.mod_eq_of_lt h]
      rfl
    · rw [pv_ge h] at h0 hb hd hsz ⊢
      have hbi : b i = n % 128 + 128 := by simp at h0; omega
      rw [if_neg (by omega), ih (n / 128) (by omega) d (i + 1) _ (by simpa using hd) (by simp at hsz; omega) (Or.inl (by omega)) (fun j hj => by
        have := hb (j + 1) (by simpa using hj)
        rw [List.getD_cons_succ] at this
        rwa [show i + 1 + j = i + (j + 1) from by omega])]
      have e1 : b i % 128 = n % 128 := by omega
      have e2 : 2 ^ (7 * (i + 1)) = 128 * 2 ^ (7 * i) := by rw [Nat.mul_add, Nat.pow_add, Nat.mul_comm]
      have e3 : n % 128 * 2 ^ (7 * i) + n / 128 * 2 ^ (7 * (i + 1)) = n * 2 ^ (7 * i) := by
        rw [e2, ← Nat.mul_assoc, ← Nat.add_mul]
        congr 1
        omega
      rw [e1, Nat.add_assoc, e3, List.length_cons]
      simp only [Prod.mk.injEq, and_true, true_and]
      omega
end Go.Proofs.Ytjdicocmajjojaa.PV
