/- What the calls of BitsReads come to, on both sides. -/
import Derived.Test.YtggfahgkjdkjmaaFnx5
import Derived.Test.YtggfahgkjdkjmaaPRead
namespace Go.Proofs.Ytggfahgkjdkjmaa.PR
open Go.RowKit Go.Proofs.YtggfahgkjdkjmaaW.PrintWords Go.Proofs.YtggfahgkjdkjmaaW.PrintLast Go.Proofs.YtggfahgkjdkjmaaW.PrintMore Go.Proofs.Ytggfahgkjdkjmaa.MB Go.Proofs.Ytggfahgkjdkjmaa.Fn

theorem shl_i64_bit (c m : Nat) (hc : c < 2) (hm : m ≤ 57) : shl .i64 (c : Int) (m : Int) = ((c * 2 ^ m : Nat) : Int) := by
  have h1 : 2 ^ m ≤ 2 ^ 57 := Nat.pow_le_pow_right (by decide) hm
  have h2 : c * 2 ^ m ≤ 1 * 2 ^ m := Nat.mul_le_mul_right _ (by omega)
  unfold shl
  rw [show min ((m : Int)).toNat IntKind.i64.bits = m from by simp [IntKind.bits]; omega]
  have e : ((c : Int) * 2 ^ m) = ((c * 2 ^ m : Nat) : Int) := by simp
  rw [e]
  exact wraps_i64 _ (Int.natCast_nonneg _) (cast_lt_two_pow (by omega))
theorem testBit_zero_mod (b r : Nat) : b / 2 ^ r % 2 = if b.testBit r then 1 else 0 := by
  have := Nat.testBit_eq_decide_div_mod_eq (x := b) (i := r)
  rw [this]
  have h2 := Nat.mod_two_eq_zero_or_one (b / 2 ^ r)
  rcases h2 with h | h <;> simp [h]
theorem bit_f (s : ByteArray) (hs : s.size ≤ 1000000000000000) (a : Nat) (ha : a < 8 * s.size) : postroadref01_Bit.f s (a : Int) = some (((if sbit s a then 1 else 0 : Nat)) : Int) := by
  unfold postroadref01_Bit.f
  obtain ⟨b, hb, hb8⟩ := bt_nat s ((a / 8 : Nat) : Int)
  rw [tdiv_cast, tmod_cast, w64c _ (by omega), if_pos (by omega), if_pos (by omega), if_pos (by omega), hb, shr_u8 _ _ (by omega)]
  have hy : b / 2 ^ (a % 8) < 256 := Nat.lt_of_le_of_lt (Nat.div_le_self _ _) hb8
  rw [w64c _ (Nat.lt_of_lt_of_le hy (by decide)), show (1 : Int) = ((1 : Nat) : Int) from rfl, and_i64 _ 1 (Nat.lt_of_lt_of_le hy (by decide)) (by decide)]
  have e : b / 2 ^ (a % 8) &&& 1 = b / 2 ^ (a % 8) % 2 := by rw [show (1 : Nat) = 2 ^ 1 - 1 from rfl, Nat.and_two_pow_sub_one_eq_mod]
  rw [e, testBit_zero_mod]
  unfold sbit
  rw [hb]
  rfl
theorem rbits_loop (s : ByteArray) (hs : s.size ≤ 1000000000000000) (a n : Nat) (hn : n ≤ 57) (hfit : a + n ≤ 8 * s.size) : ∀ (d k i : Nat), i + d = n → d < k →
    postroadref01_Bits.l0 k s (a : Int) (n : Int) (nb (sbit s) a i : Int) (i : Int) = some ((nb (sbit s) a n : Int), true) := by
  intro d
  induction d with
  | zero =>
    intro k i hi hk
    obtain ⟨k, rfl⟩ : ∃ m, k = m + 1 := ⟨k - 1, by omega⟩
    rw [postroadref01_Bits.l0, if_neg (by omega), show i = n from by omega]
  | succ d ih =>
    intro k i hi hk
    obtain ⟨k, rfl⟩ : ∃ m, k = m + 1 := ⟨k - 1, by omega⟩
    have hlt := nb_lt (sbit s) a (i + 1)
    have hp : 2 ^ (i + 1) ≤ 2 ^ 57 := Nat.pow_le_pow_right (by decide) (by omega)
    have e0 : nb (sbit s) a (i + 1) = nb (sbit s) a i + (if sbit s (a + i) then 1 else 0) * 2 ^ i := by
      show nb (sbit s) a i + (if sbit s (a + i) = true then 2 ^ i else 0) = _
      split <;> simp
    rw [postroadref01_Bits.l0, if_pos (by omega), ← Int.natCast_add, w64c _ (by omega), bit_f s hs (a + i) (by omega)]
    simp only [Option.bind_some]
    rw [if_pos (by omega), shl_i64_bit _ _ (by split <;> omega) (by omega), ← Int.natCast_add, ← e0, w64c _ (by omega), show (i : Int) + 1 = ((i + 1 : Nat) : Int) from rfl, w64c _ (by omega)]
    exact ih k (i + 1) (by omega) (by omega)
theorem rbits_f (s : ByteArray) (hs : s.size ≤ 1000000000000000) (a : Nat) (ha : a ≤ 8 * s.size) (n : Int) (h0 : 0 ≤ n) (h57 : n ≤ 57) (k : Nat) (hk : 60 ≤ k) :
    postroadref01_Bits.f k s (a : Int) n = some (if 8 * (s.size : Int) - a < n then (0, false) else ((nb (sbit s) a n.toNat : Int), true)) := by
  unfold postroadref01_Bits.f
  have e1 : wrap64 (wrap64 (8 * (s.size : Int)) - (a : Int)) = 8 * (s.size : Int) - a := by unfold wrap64; omega
  rw [e1]
  clear e1
  by_cases h3 : 8 * (s.size : Int) - a < n
  · rw [if_pos h3, if_pos h3]
  · rw [if_neg h3, if_neg h3]
    obtain ⟨m, rfl⟩ := Int.eq_ofNat_of_zero_le h0
    exact rbits_loop s hs a m (by omega) (by omega) m k 0 (by omega) (by omega)
theorem and_not7 (m : Nat) (h : m < 2 ^ 64) : m &&& (2 ^ 64 - (7 + 1)) = m / 8 * 8 := by
  refine Nat.eq_of_testBit_eq fun i => ?_
  have e : m / 8 * 8 = (m >>> 3) <<< 3 := by rw [Nat.shiftRight_eq_div_pow, Nat.shiftLeft_eq]
  rw [e, Nat.testBit_and, Nat.testBit_two_pow_sub_succ (by decide), show (7 : Nat) = 2 ^ 3 - 1 from rfl, Nat.testBit_two_pow_sub_one, Nat.testBit_shiftLeft, Nat.testBit_shiftRight]
  by_cases h3 : 3 ≤ i
  · have e2 : 3 + (i - 3) = i := by omega
    have h4 : ¬ i < 3 := by omega
    rw [e2]
    by_cases h5 : i < 64
    · simp [h3, h4, h5]
    · simp [h3, testBit_high h (by omega : 64 ≤ i)]
  · have h4 : i < 3 := by omega
    simp [h3, h4]
theorem andNot7 (m : Nat) (h : m < 2 ^ 62) : Go.bits .andNot .i64 (m : Int) 7 = ((m / 8 * 8 : Nat) : Int) := by
  have hm : m % 2 ^ 64 = m := Nat.mod_eq_of_lt (by omega)
  have e1 : (BitVec.ofInt 64 (m : Int) &&& ~~~ BitVec.ofInt 64 7).toNat = m / 8 * 8 := by
    rw [BitVec.toNat_and, BitVec.toNat_not, BitVec.ofInt_natCast, BitVec.toNat_ofNat, hm, show (BitVec.ofInt 64 7).toNat = 7 from by decide, show 2 ^ 64 - 1 - 7 = 2 ^ 64 - (7 + 1) from rfl, and_not7 m (by omega)]
  show IntKind.i64.wrap ((BitVec.ofInt 64 (m : Int) &&& ~~~ BitVec.ofInt 64 7).toNat : Int) = _
  rw [e1]
  exact wraps_i64 _ (Int.natCast_nonneg _) (cast_lt_two_pow (by omega))
theorem aligned_f (a : Nat) (h : a < 2 ^ 62) : postroadref01_Aligned.f (a : Int) = some (((a + 7) / 8 * 8 : Nat) : Int) := by
  unfold postroadref01_Aligned.f
  rw [show (a : Int) + 7 = ((a + 7 : Nat) : Int) from rfl, w64c _ (by omega), tdiv_cast, w64c _ (by omega)]
  have e : (((a + 7) / 8 : Nat) : Int) * 8 = (((a + 7) / 8 * 8 : Nat) : Int) := by omega
  rw [e, w64c _ (by omega)]
theorem align_f (s : ByteArray) (a : Nat) (h : a < 2 ^ 61) : bits_Reader_Align.f true s (a : Int) = some (0, true, s, (((a + 7) / 8 * 8 : Nat) : Int)) := by
  unfold bits_Reader_Align.f bits_Reader_given.f
  simp only [Option.bind_some, if_true]
  rw [show (a : Int) + 7 = ((a + 7 : Nat) : Int) from rfl, w64c _ (by omega), andNot7 _ (by omega)]
theorem nil_list : (⟨#[]⟩ : ByteArray).toList = ([] : List UInt8) := by simp
/-- What Bytes of a reader comes to. -/
def rby (s : ByteArray) (a : Nat) (n : Int) : ByteArray × Int × Bool × ByteArray × Int :=
  if n < 0 then (⟨#[]⟩, 1, true, s, (a : Int)) else if a % 8 ≠ 0 then (⟨#[]⟩, 10, true, s, (a : Int)) else if (s.size : Int) - (a / 8 : Nat) < n then (⟨#[]⟩, 5, true, s, (a : Int))
  else (s.extract (a / 8) (a / 8 + n.toNat), 0, true, s, ((a + 8 * n.toNat : Nat) : Int))
theorem reader_bytes (s : ByteArray) (hs : s.size ≤ 1000000000000000) (a : Nat) (ha : a ≤ 8 * s.size) (n : Int) (hn : n ≤ 9223372036854775807) (k : Nat) (hk : 2 ≤ k) : bits_Reader_Bytes.f k true s (a : Int) n = some (rby s a n) := by
  obtain ⟨k, rfl⟩ : ∃ m, k = m + 1 := ⟨k - 1, by omega⟩
  unfold bits_Reader_Bytes.f bits_Reader_given.f rby
  simp only [Option.bind_some, if_true]
  rw [bits_Reader_Bytes.j0, tdiv_cast, tmod_cast]
  by_cases h1 : n < 0
  · rw [if_pos (by simpa using h1), if_pos h1]
  · rw [if_neg (by simpa using h1), if_neg h1]
    by_cases h2 : a % 8 = 0
    · rw [if_pos (show ((a % 8 : Nat) : Int) = 0 by omega), if_neg (show ¬ (a % 8 ≠ 0) by omega), w64c _ (by omega)]
      have e1 : wrap64 ((s.size : Int) - ((a / 8 : Nat) : Int)) = (s.size : Int) - (a / 8 : Nat) := by unfold wrap64; omega
      rw [e1]
      clear e1
      by_cases h3 : (s.size : Int) - (a / 8 : Nat) < n
      · rw [if_pos h3, if_pos h3]
      · rw [if_neg h3, if_neg h3]
        obtain ⟨m, rfl⟩ := Int.eq_ofNat_of_zero_le (by omega : 0 ≤ n)
        have e2 : wrap64 (((a / 8 : Nat) : Int) + (m : Int)) = ((a / 8 + m : Nat) : Int) := by unfold wrap64; omega
        have e3 : wrap64 (8 * (m : Int)) = ((8 * m : Nat) : Int) := by unfold wrap64; omega
        rw [e2, e3]
        clear e2 e3
        rw [if_pos (by omega), if_pos (by omega), if_pos (by omega), ← Int.natCast_add, w64c _ (by omega)]
        simp only [Int.toNat_natCast]
    · rw [if_neg (by omega), if_pos h2]
/-- A call on both sides: they agree. -/
theorem reads_f (s : ByteArray) (hs : s.size ≤ 140737488351232) (a : Nat) (ha : a ≤ 8 * s.size) (K X N : Int) (t : ByteArray) (hN : N ≤ 9223372036854775807) (k : Nat) (hk : 70 ≤ k) :
    ∃ b : Nat, b ≤ 8 * s.size ∧ postroadlaw01_reads.f k true s (a : Int) s (a : Int) K X N t = some ((b : Int), true, true, s, (b : Int)) := by
  obtain ⟨k, rfl⟩ : ∃ m, k = m + 1 := ⟨k - 1, by omega⟩
  unfold postroadlaw01_reads.f
  by_cases k1 : K = 1
  · rw [if_pos k1, reader_bits s (by omega) a ha N (k + 1) (by omega)]
    simp only [Option.bind_some]
    unfold rb
    by_cases h1 : N < 0 ∨ 57 < N
    · refine ⟨a, ha, ?_⟩
      rw [if_pos h1]
      by_cases h2 : N < 0
      · rw [if_pos h2, postroadlaw01_reads.j0, if_pos rfl, if_pos rfl]; rfl
      · rw [if_neg h2, postroadlaw01_reads.j0, if_pos (by simp; omega), if_pos rfl]; rfl
    · rw [if_neg h1, if_neg (by omega), postroadlaw01_reads.j0, if_neg (by simp; omega), rbits_f s (by omega) a ha N (by omega) (by omega) k (by omega)]
      simp only [Option.bind_some]
      by_cases h3 : 8 * (s.size : Int) - a < N
      · refine ⟨a, ha, ?_⟩
        rw [if_pos h3, if_pos h3]
        rfl
      · obtain ⟨m, rfl⟩ := Int.eq_ofNat_of_zero_le (by omega : 0 ≤ N)
        refine ⟨a + m, by omega, ?_⟩
        rw [if_neg h3, if_neg h3]
        simp only [Int.toNat_natCast, if_true]
        rw [← Int.natCast_add, w64c _ (by omega)]
        rfl
  · rw [if_neg k1]
    by_cases k2 : K = 2
    · rw [if_pos k2, aligned_f a (by omega), align_f s a (by omega)]
      exact ⟨(a + 7) / 8 * 8, by omega, rfl⟩
    · rw [if_neg k2]
      by_cases k3 : K = 3
      · rw [if_pos k3, reader_bytes s (by omega) a ha N hN (k + 1) (by omega)]
        simp only [Option.bind_some]
        unfold rby
        by_cases h1 : N < 0
        · refine ⟨a, ha, ?_⟩
          rw [if_pos h1, if_pos h1]; exact if_pos nil_list
        · rw [if_neg h1, if_neg h1, tmod_cast, tdiv_cast]
          by_cases h2 : a % 8 = 0
          · rw [if_neg (show ¬ (a % 8 ≠ 0) by omega), if_pos (show ((a % 8 : Nat) : Int) = 0 by omega), w64c _ (by omega)]
            have e1 : wrap64 ((s.size : Int) - ((a / 8 : Nat) : Int)) = (s.size : Int) - (a / 8 : Nat) := by unfold wrap64; omega
            rw [e1]
            clear e1
            by_cases h3 : (s.size : Int) - (a / 8 : Nat) < N
            · refine ⟨a, ha, ?_⟩
              rw [if_pos h3, if_pos h3]; exact if_pos nil_list
            · rw [if_neg h3, if_neg h3]
              obtain ⟨m, rfl⟩ := Int.eq_ofNat_of_zero_le (by omega : 0 ≤ N)
              have e2 : wrap64 (((a / 8 : Nat) : Int) + (m : Int)) = ((a / 8 + m : Nat) : Int) := by unfold wrap64; omega
              have e3 : wrap64 (8 * (m : Int)) = ((8 * m : Nat) : Int) := by unfold wrap64; omega
              rw [e2, e3]
              clear e2 e3
              rw [if_pos (by omega), if_pos (by omega), if_pos (by omega)]
              simp only [Int.toNat_natCast, if_true]
              rw [← Int.natCast_add, w64c _ (by omega)]
              exact ⟨a + 8 * m, by omega, rfl⟩
          · refine ⟨a, ha, ?_⟩
            rw [if_pos h2, if_neg (show ¬ ((a % 8 : Nat) : Int) = 0 by omega)]; exact if_pos nil_list
      · rw [if_neg k3]
        exact ⟨a, ha, rfl⟩
theorem awake_f : postroadlaw01_awake.f = some true := rfl
theorem reads_loop (s : ByteArray) (hs : s.size ≤ 140737488351232) (l : List S44) (hl : l.length ≤ 9223372036854775807) (hok : ∀ x ∈ l, x.f2 ≤ 9223372036854775807) : ∀ (d k i a : Nat), i + d = l.length → a ≤ 8 * s.size → d + 100 < k →
    postroadlaw01_BitsReads.l0 k s l (a : Int) (i : Int) true s (a : Int) = some true := by
  intro d
  induction d with
  | zero =>
    intro k i a hi ha hk
    obtain ⟨k, rfl⟩ : ∃ m, k = m + 1 := ⟨k - 1, by omega⟩
    rw [postroadlaw01_BitsReads.l0, if_neg (by omega), awake_f]
    rfl
  | succ d ih =>
    intro k i a hi ha hk
    obtain ⟨k, rfl⟩ : ∃ m, k = m + 1 := ⟨k - 1, by omega⟩
    have hx : (rd_T44 l (i : Int)).f2 ≤ 9223372036854775807 := by
      unfold rd_T44
      rw [Int.toNat_natCast, List.getD_eq_getElem?_getD, List.getElem?_eq_getElem (by omega)]
      exact hok _ (List.getElem_mem _)
    obtain ⟨b, hb, hr⟩ := reads_f s hs a ha (rd_T44 l (i : Int)).f0 (rd_T44 l (i : Int)).f1 (rd_T44 l (i : Int)).f2 (rd_T44 l (i : Int)).f3 hx k (by omega)
    rw [postroadlaw01_BitsReads.l0, if_pos (by omega), if_pos (by omega), hr]
    simp only [Option.bind_some, if_true]
    rw [reader_place]
    simp only [Option.bind_some, if_true]
    rw [show (i : Int) + 1 = ((i + 1 : Nat) : Int) from rfl, w64c _ (by omega)]
    exact ih k (i + 1) b (by omega) hb (by omega)
theorem BitsReads (s : ByteArray) (hs : s.size ≤ 140737488351232) (l : List S44) (hl : l.length ≤ 9223372036854775807) (hok : ∀ x ∈ l, x.f2 ≤ 9223372036854775807) : ∃ k, postroadlaw01_BitsReads.f k s l = some true :=
  ⟨l.length + 101, by
    unfold postroadlaw01_BitsReads.f bits_NewReader.f
    simp only [Option.bind_some]
    exact reads_loop s hs l hl hok l.length _ 0 0 (by omega) (by omega) (by omega)⟩
end Go.Proofs.Ytggfahgkjdkjmaa.PR
