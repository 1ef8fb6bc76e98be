/- Parts: PSymb PReadD PReadS PSymb2 HCodes HTbl -/
import Derived.Test.YtaghmhcccighgaaK03
import Derived.Test.YtaghmhcccighgaaK01
import Derived.Test.YtaghmhcccighgaaK02
import Derived.Deep.RegionLaw
import Derived.Lib.SliceRun
set_option linter.unusedVariables false
set_option linter.unusedSimpArgs false
section
/- Symbols by the words' places are the document's: plain. -/
namespace Go.Proofs.Ytaghmhcccighgaa.HP
open Go.RowKit Go.Proofs.Ytaghmhcccighgaa.Fn Go.Proofs.Ytaghmhcccighgaa.HF Go.Proofs.Ytaghmhcccighgaa.MB Go.Proofs.YtaghmhcccighgaaW.PrintWords Go.Proofs.YtaghmhcccighgaaW.PrintLast Go.Proofs.YtaghmhcccighgaaW.PrintMore
theorem idxL_cnt (lens : List Int) (l : Nat) : ∀ i, i ≤ lens.length → ((idxL lens l i).length : Int) = cntL (lens.take i) l
  | 0, _ => by rw [List.take_zero]; rfl
  | i + 1, h => by
    have ih := idxL_cnt lens l i (by omega)
    rw [idxL_succ, List.take_succ_eq_append_getElem (by omega : i < lens.length), cntL_snoc, List.length_append]
    have e : lens.getD i 0 = lens[i] := by rw [List.getD_eq_getElem?_getD, List.getElem?_eq_getElem (by omega : i < lens.length)]; rfl
    rw [e]
    by_cases hl : lens[i] = (l : Int)
    · rw [if_pos hl, if_pos hl]; simp only [List.length_singleton]; omega
    · rw [if_neg hl, if_neg hl]; simp only [List.length_nil]; omega
theorem idxL_at (lens : List Int) (l : Nat) : ∀ i, i ≤ lens.length → ∀ k, (hk : k < (idxL lens l i).length) → ∃ j, ∃ hj : j < lens.length, j < i ∧ (idxL lens l i)[k] = (j : Int) ∧ lens[j] = (l : Int) ∧ cntL (lens.take j) l = k
  | 0, _, k, hk => by exact absurd hk (Nat.not_lt_zero k)
  | i + 1, h, k, hk => by
    have e : lens.getD i 0 = lens[i] := by rw [List.getD_eq_getElem?_getD, List.getElem?_eq_getElem (by omega : i < lens.length)]; rfl
    by_cases hk2 : k < (idxL lens l i).length
    · obtain ⟨j, h1, h2, h3, h4, h5⟩ := idxL_at lens l i (by omega) k hk2
      refine ⟨j, h1, by omega, ?_, h4, h5⟩
      rw [← h3]
      simp only [idxL_succ]
      exact List.getElem_append_left hk2
    · have hkk := hk
      rw [idxL_succ, e] at hkk
      by_cases hl : lens[i] = (l : Int)
      · rw [if_pos hl, List.length_append, List.length_singleton] at hkk
        refine ⟨i, by omega, by omega, ?_, hl, ?_⟩
        · simp only [idxL_succ, e, if_pos hl]
          rw [List.getElem_append_right (by omega)]
          simp
        · rw [← idxL_cnt lens l i (by omega)]; omega
      · rw [if_neg hl, List.append_nil] at hkk
        exact absurd hkk hk2
theorem symsT_split (lens : List Int) (l : Nat) : ∀ d, ∃ r, symsT lens (l + d) = symsT lens l ++ r
  | 0 => ⟨[], by rw [Nat.add_zero, List.append_nil]⟩
  | d + 1 => by
    obtain ⟨r, hr⟩ := symsT_split lens l d
    exact ⟨r ++ idxL lens (l + d + 1) lens.length, by rw [show l + (d + 1) = l + d + 1 by omega, symsT, hr, List.append_assoc]⟩
theorem cF_len (lens : List Int) (l : Nat) : ((idxL lens l lens.length).length : Int) = cF lens l := by
  rw [idxL_cnt lens l lens.length (Nat.le_refl _), List.take_length]
  rfl
/-- The symbol that bears a word. -/
theorem sym_at {lens : List Int} (l k : Nat) (h1 : 1 ≤ l) (h15 : l ≤ 15) (hk : (k : Int) < cF lens l) :
    ∃ j, ∃ hj : j < lens.length, (symsT lens 15).getD ((symsT lens (l - 1)).length + k) 0 = (j : Int) ∧ lens[j] = (l : Int) ∧ codeAt lens j = 2 * eT (cF lens) (l - 1) + k := by
  have hc := cF_len lens l
  obtain ⟨j, hj, _, h3, h4, h5⟩ := idxL_at lens l lens.length (Nat.le_refl _) k (by omega)
  refine ⟨j, hj, ?_, h4, ?_⟩
  · obtain ⟨r, hr⟩ := symsT_split lens l (15 - l)
    rw [show l + (15 - l) = 15 by omega] at hr
    obtain ⟨m, rfl⟩ : ∃ m, l = m + 1 := ⟨l - 1, by omega⟩
    rw [hr, symsT, Nat.add_sub_cancel, List.getD_eq_getElem?_getD, List.append_assoc, List.getElem?_append_right (by omega), Nat.add_sub_cancel_left, List.getElem?_append_left (by omega), List.getElem?_eq_getElem (by omega), h3]
    rfl
  · obtain ⟨m, rfl⟩ : ∃ m, l = m + 1 := ⟨l - 1, by omega⟩
    rw [codeAt_eq lens j (m + 1) hj h4 (by omega), Nat.add_sub_cancel, ← eT_next, h5]
    rfl
theorem cF_nn (lens : List Int) (k : Nat) : 0 ≤ cF lens k := (cntL_nn lens k).1
theorem eT_grow (lens : List Int) (l : Nat) : ∀ d, eT (cF lens) l * 2 ^ d ≤ eT (cF lens) (l + d)
  | 0 => by simp
  | d + 1 => by
    have ih := eT_grow lens l d
    have hn := cF_nn lens (l + d + 1)
    rw [show l + (d + 1) = l + d + 1 by omega, eT_succ, Int.pow_succ, ← Int.mul_assoc]
    omega
/-- A length that some symbol bears is not above the longest one. -/
theorem lng_ge (lens : List Int) : ∀ L l, 1 ≤ l → l ≤ L → 0 < cF lens l → l ≤ lngT lens L
  | 0, l, h1, h2, _ => by omega
  | L + 1, l, h1, h2, h3 => by
    unfold lngT lngI
    have hc := cF_len lens (L + 1)
    by_cases he : (idxL lens (L + 1) lens.length).length = 0
    · rw [if_pos he]
      have : l ≠ L + 1 := fun e => by subst e; omega
      exact lng_ge lens L l h1 (by omega) h3
    · rw [if_neg he]; exact h2
theorem lng_le (lens : List Int) : ∀ L, lngT lens L ≤ L
  | 0 => Nat.le_refl _
  | L + 1 => by
    have := lng_le lens L
    unfold lngT lngI
    split <;> omega
/-- A longer word begins with a word. -/
def Begins (lens : List Int) (l : Nat) (w : Int) (i : Nat) : Prop := ∃ h : i < lens.length, (l : Int) < lens[i] ∧ shr .i64 (codeAt lens i) (lens[i] - l) = w
theorem begins_iff {lens : List Int} (ho : okL lens = true) (l : Nat) (h1 : 1 ≤ l) (w : Nat) (hw : eT (cF lens) l ≤ w) : (∃ i, Begins lens l w i) ↔ (l < lngT lens 15 ∧ (w : Int) * 2 ^ (lngT lens 15 - l) < eT (cF lens) (lngT lens 15)) := by
  obtain ⟨o1, o2, o3⟩ := okL_open ho
  constructor
  · rintro ⟨i, hi, h2, h3⟩
    have hr := o2 lens[i] (List.getElem_mem _)
    obtain ⟨L, hL⟩ : ∃ L : Nat, lens[i] = L := ⟨lens[i].toNat, by omega⟩
    obtain ⟨c1, c2, c3⟩ := code_fits ho i L hi hL (by omega)
    have he : codeAt lens i + 1 ≤ eT (cF lens) L := by
      unfold eT
      rw [if_neg (by omega)]
      exact c2
    obtain ⟨c, hc⟩ : ∃ c : Nat, codeAt lens i = c := ⟨(codeAt lens i).toNat, by omega⟩
    have hG := lng_ge lens 15 L (by omega) (by omega) (by
      have := cnt_all lens i hi
      have := (cntL_nn (lens.take i) lens[i]).1
      show 0 < cntL lens (L : Int)
      rw [← hL]
      omega)
    obtain ⟨d, rfl⟩ : ∃ d, L = l + d := ⟨L - l, by omega⟩
    rw [hc, hL, show ((l + d : Nat) : Int) - (l : Int) = (d : Int) by omega, shr_i64 c d (by omega)] at h3
    have h4 : c / 2 ^ d = w := by omega
    have h5 : w * 2 ^ d ≤ c := by rw [← h4]; exact Nat.div_mul_le_self c (2 ^ d)
    refine ⟨by omega, ?_⟩
    obtain ⟨e, hE⟩ : ∃ e, lngT lens 15 = l + d + e := ⟨lngT lens 15 - (l + d), by omega⟩
    rw [hE, show l + d + e - l = d + e by omega, Int.pow_add, ← Int.mul_assoc]
    have g := eT_grow lens (l + d) e
    have p : (0 : Int) < 2 ^ e := Int.pow_pos (by decide)
    have h6 : (w : Int) * 2 ^ d < eT (cF lens) (l + d) := by
      have : ((w * 2 ^ d : Nat) : Int) ≤ c := by omega
      rw [Int.natCast_mul, Int.natCast_pow] at this
      have h2 : ((2 : Nat) : Int) = 2 := rfl
      rw [h2] at this
      omega
    exact Int.lt_of_lt_of_le (Int.mul_lt_mul_of_pos_right h6 p) g
  · rintro ⟨h2, h3⟩
    have hG := lng_le lens 15
    have key : ∀ d, l + d ≤ 15 → (w : Int) * 2 ^ d < eT (cF lens) (l + d) → ∃ i, Begins lens l w i := by
      intro d
      induction d with
      | zero => intro _ h; simp at h; omega
      | succ d ih =>
        intro hd h
        by_cases hlt : (w : Int) * 2 ^ d < eT (cF lens) (l + d)
        · exact ih (by omega) hlt
        · rw [show l + (d + 1) = l + d + 1 by omega, eT_succ, Int.pow_succ, ← Int.mul_assoc] at h
          obtain ⟨k, hk⟩ : ∃ k : Nat, (w : Int) * 2 ^ d * 2 - 2 * eT (cF lens) (l + d) = k := ⟨((w : Int) * 2 ^ d * 2 - 2 * eT (cF lens) (l + d)).toNat, by omega⟩
          obtain ⟨j, hj, _, hl2, hc⟩ := sym_at (lens := lens) (l + d + 1) k (by omega) (by omega) (by omega)
          rw [Nat.add_sub_cancel] at hc
          refine ⟨j, hj, by rw [hl2]; omega, ?_⟩
          have e : codeAt lens j = ((w * 2 ^ (d + 1) : Nat) : Int) := by
            rw [hc, Int.natCast_mul, Int.natCast_pow, Int.pow_succ]
            have h2 : ((2 : Nat) : Int) = 2 := rfl
            rw [h2, ← Int.mul_assoc]
            omega
          rw [e, hl2, show ((l + d + 1 : Nat) : Int) - (l : Int) = ((d + 1 : Nat) : Int) by omega, shr_i64 _ _ (by omega), Nat.mul_div_cancel _ (Nat.pow_pos (by decide))]
    exact key (lngT lens 15 - l) (by omega) (by rw [show l + (lngT lens 15 - l) = lngT lens 15 by omega]; exact h3)
end Go.Proofs.Ytaghmhcccighgaa.HP
end
section
/- A cast that stays. -/
namespace Go.Proofs.Ytaghmhcccighgaa.PR
open Go.RowKit Go.Proofs.YtaghmhcccighgaaW.PrintWords Go.Proofs.YtaghmhcccighgaaW.PrintLast Go.Proofs.YtaghmhcccighgaaW.PrintMore Go.Proofs.Ytaghmhcccighgaa.MB Go.Proofs.Ytaghmhcccighgaa.Fn
theorem w64c (n : Nat) (h : n < 9223372036854775808) : wrap64 (n : Int) = n := by unfold wrap64; omega
end Go.Proofs.Ytaghmhcccighgaa.PR
end
section
/- The document's bits: plain. -/
namespace Go.Proofs.Ytaghmhcccighgaa.PR
open Go.RowKit Go.Proofs.YtaghmhcccighgaaW.PrintWords Go.Proofs.YtaghmhcccighgaaW.PrintLast Go.Proofs.YtaghmhcccighgaaW.PrintMore Go.Proofs.Ytaghmhcccighgaa.MB Go.Proofs.Ytaghmhcccighgaa.Fn
theorem shl_i64_bit (c m : Nat) (hc : c < 2) (hm : m ≤ 57) : shl .i64 (c : Int) (m : Int) = ((c * 2 ^ m : Nat) : Int) := by
  have h1 : 2 ^ m ≤ 2 ^ 57 := Nat.pow_le_pow_right (by decide) hm
  have h2 : c * 2 ^ m ≤ 1 * 2 ^ m := Nat.mul_le_mul_right _ (by omega)
  unfold shl
  rw [show min ((m : Int)).toNat IntKind.i64.bits = m from by simp [IntKind.bits]; omega]
  have e : ((c : Int) * 2 ^ m) = ((c * 2 ^ m : Nat) : Int) := by simp
  rw [e]
  exact wraps_i64 _ (Int.natCast_nonneg _) (cast_lt_two_pow (by omega))
theorem testBit_zero_mod (b r : Nat) : b / 2 ^ r % 2 = if b.testBit r then 1 else 0 := by
  have := Nat.testBit_eq_decide_div_mod_eq (x := b) (i := r)
  rw [this]
  have h2 := Nat.mod_two_eq_zero_or_one (b / 2 ^ r)
  rcases h2 with h | h <;> simp [h]
theorem bit_f (s : ByteArray) (hs : s.size ≤ 1000000000000000) (a : Nat) (ha : a < 8 * s.size) : postroadref01_Bit.f s (a : Int) = some (((if sbit s a then 1 else 0 : Nat)) : Int) := by
  unfold postroadref01_Bit.f
  obtain ⟨b, hb, hb8⟩ := bt_nat s ((a / 8 : Nat) : Int)
  rw [tdiv_cast, tmod_cast, w64c _ (by omega), if_pos (by omega), if_pos (by omega), if_pos (by omega), hb, shr_u8 _ _ (by omega)]
  have hy : b / 2 ^ (a % 8) < 256 := Nat.lt_of_le_of_lt (Nat.div_le_self _ _) hb8
  rw [w64c _ (Nat.lt_of_lt_of_le hy (by decide)), show (1 : Int) = ((1 : Nat) : Int) from rfl, and_i64 _ 1 (Nat.lt_of_lt_of_le hy (by decide)) (by decide)]
  have e : b / 2 ^ (a % 8) &&& 1 = b / 2 ^ (a % 8) % 2 := by rw [show (1 : Nat) = 2 ^ 1 - 1 from rfl, Nat.and_two_pow_sub_one_eq_mod]
  rw [e, testBit_zero_mod]
  unfold sbit
  rw [hb]
  rfl
theorem rbits_loop (s : ByteArray) (hs : s.size ≤ 1000000000000000) (a n : Nat) (hn : n ≤ 57) (hfit : a + n ≤ 8 * s.size) : ∀ (d k i : Nat), i + d = n → d < k →
    postroadref01_Bits.l0 k s (a : Int) (n : Int) (nb (sbit s) a i : Int) (i : Int) = some ((nb (sbit s) a n : Int), true) := by
  intro d
  induction d with
  | zero =>
    intro k i hi hk
    obtain ⟨k, rfl⟩ : ∃ m, k = m + 1 := ⟨k - 1, by omega⟩
    rw [postroadref01_Bits.l0, if_neg (by omega), show i = n from by omega]
  | succ d ih =>
    intro k i hi hk
    obtain ⟨k, rfl⟩ : ∃ m, k = m + 1 := ⟨k - 1, by omega⟩
    have hlt := nb_lt (sbit s) a (i + 1)
    have hp : 2 ^ (i + 1) ≤ 2 ^ 57 := Nat.pow_le_pow_right (by decide) (by omega)
    have e0 : nb (sbit s) a (i + 1) = nb (sbit s) a i + (if sbit s (a + i) then 1 else 0) * 2 ^ i := by
      show nb (sbit s) a i + (if sbit s (a + i) = true then 2 ^ i else 0) = _
      split <;> simp
    rw [postroadref01_Bits.l0, if_pos (by omega), ← Int.natCast_add, w64c _ (by omega), bit_f s hs (a + i) (by omega)]
    simp only [Option.bind_some]
    rw [if_pos (by omega), shl_i64_bit _ _ (by split <;> omega) (by omega), ← Int.natCast_add, ← e0, w64c _ (by omega), show (i : Int) + 1 = ((i + 1 : Nat) : Int) from rfl, w64c _ (by omega)]
    exact ih k (i + 1) (by omega) (by omega)
theorem rbits_f (s : ByteArray) (hs : s.size ≤ 1000000000000000) (a : Nat) (ha : a ≤ 8 * s.size) (n : Int) (h0 : 0 ≤ n) (h57 : n ≤ 57) (k : Nat) (hk : 60 ≤ k) :
    postroadref01_Bits.f k s (a : Int) n = some (if 8 * (s.size : Int) - a < n then (0, false) else ((nb (sbit s) a n.toNat : Int), true)) := by
  unfold postroadref01_Bits.f
  have e1 : wrap64 (wrap64 (8 * (s.size : Int)) - (a : Int)) = 8 * (s.size : Int) - a := by unfold wrap64; omega
  rw [e1]
  clear e1
  by_cases h3 : 8 * (s.size : Int) - a < n
  · rw [if_pos h3, if_pos h3]
  · rw [if_neg h3, if_neg h3]
    obtain ⟨m, rfl⟩ := Int.eq_ofNat_of_zero_le h0
    exact rbits_loop s hs a m (by omega) (by omega) m k 0 (by omega) (by omega)
end Go.Proofs.Ytaghmhcccighgaa.PR
end
section
/- The document's Symbol is what a table's Symbol tells: plain. -/
namespace Go.Proofs.Ytaghmhcccighgaa.HP
open Go.RowKit Go.Proofs.Ytaghmhcccighgaa.Fn Go.Proofs.Ytaghmhcccighgaa.HF Go.Proofs.Ytaghmhcccighgaa.PR Go.Proofs.Ytaghmhcccighgaa.MB Go.Proofs.YtaghmhcccighgaaW.PrintWords Go.Proofs.YtaghmhcccighgaaW.PrintLast Go.Proofs.YtaghmhcccighgaaW.PrintMore
/-- Does a longer word begin with w (as the loop asks)? -/
def begB (lens : List Int) (l : Nat) (w : Int) (i : Nat) : Bool := decide ((l : Int) < rd lens (i : Int)) && (shr .i64 (rd (codesL lens) (i : Int)) (rd lens (i : Int) - l) == w)
theorem begB_iff {lens : List Int} {l : Nat} {w : Int} {i : Nat} (hi : i < lens.length) : begB lens l w i = true ↔ Begins lens l w i := by
  unfold begB Begins
  rw [rd_get lens i hi, codes_rd lens i hi]
  simp only [Bool.and_eq_true, decide_eq_true_eq, beq_iff_eq]
  exact ⟨fun ⟨h1, h2⟩ => ⟨hi, h1, h2⟩, fun ⟨_, h1, h2⟩ => ⟨h1, h2⟩⟩
theorem sym_step {lens : List Int} (hl : lens.length ≤ 288) (hr : ∀ x ∈ lens, 0 ≤ x ∧ x ≤ 15) (s : ByteArray) (a l i : Nat) (h15 : l ≤ 15) (w : Int) (b : Bool) (k : Nat) (hi : i < lens.length) (hn : ¬ (rd lens (i : Int) = (l : Int) ∧ rd (codesL lens) (i : Int) = w)) :
    postroadref03_Symbol.l1 (k + 1) lens (codesL lens) s (a : Int) w (l : Int) b (i : Int) = postroadref03_Symbol.l1 k lens (codesL lens) s (a : Int) w (l : Int) (b || begB lens l w i) ((i + 1 : Nat) : Int) := by
  have w1 : wrap64 ((i : Int) + 1) = ((i + 1 : Nat) : Int) := by unfold wrap64; omega
  have hx := hr lens[i] (List.getElem_mem _)
  have hrd := rd_get lens i hi
  have w2 : wrap64 (rd lens (i : Int) - (l : Int)) = rd lens (i : Int) - (l : Int) := by rw [hrd]; unfold wrap64; omega
  have hcl := codesL_len lens
  have g1 : (i : Int) < (lens.length : Int) := by omega
  have g2 : (0 : Int) ≤ (i : Int) := by omega
  have g3 : (i : Int) < ((codesL lens).length : Int) := by omega
  rw [postroadref03_Symbol.l1, if_pos g1, if_pos g2, if_pos g3, if_pos g3, w1, w2]
  unfold begB
  generalize rd lens (i : Int) = x at hn hrd w2
  generalize rd (codesL lens) (i : Int) = y at hn
  by_cases hxl : x = (l : Int)
  · have hyw : ¬ y = w := fun e => hn ⟨hxl, e⟩
    have e1 : decide ((l : Int) < x) = false := decide_eq_false (by omega)
    rw [if_pos hxl, if_neg hyw, e1, Bool.false_and, Bool.or_false]
    cases b
    · rw [if_neg (by decide), if_neg (by omega)]
    · rw [if_pos rfl]
  · rw [if_neg hxl]
    cases b
    · rw [if_neg (by decide), Bool.false_or]
      by_cases hgt : x > (l : Int)
      · rw [if_pos hgt, if_pos (by omega), decide_eq_true (show (l : Int) < x from hgt), Bool.true_and]
      · rw [if_neg hgt, decide_eq_false (show ¬ (l : Int) < x by omega), Bool.false_and]
    · rw [if_pos rfl, Bool.true_or]
theorem sym_hit {lens : List Int} (hl : lens.length ≤ 288) (hr : ∀ x ∈ lens, 0 ≤ x ∧ x ≤ 15) (s : ByteArray) (a l j : Nat) (ha : a ≤ 100000000000000000) (h15 : l ≤ 15) (w : Int) (hj : j < lens.length) (h1 : rd lens (j : Int) = (l : Int)) (h2 : rd (codesL lens) (j : Int) = w)
    (hu : ∀ i : Nat, i < j → ¬ (rd lens (i : Int) = (l : Int) ∧ rd (codesL lens) (i : Int) = w)) : ∀ (e i : Nat) (b : Bool), i + e = j → ∃ k, postroadref03_Symbol.l1 k lens (codesL lens) s (a : Int) w (l : Int) b (i : Int) = some ((j : Int), ((a + l : Nat) : Int), 0) := by
  intro e
  induction e with
  | zero =>
    intro i b hi
    have hcl := codesL_len lens
    have w1 : wrap64 ((a : Int) + (l : Int)) = ((a + l : Nat) : Int) := by unfold wrap64; omega
    refine ⟨1, ?_⟩
    rw [show i = j by omega, postroadref03_Symbol.l1, if_pos (by omega), if_pos (by omega), if_pos h1, if_pos (by omega), if_pos h2, w1]
  | succ e ih =>
    intro i b hi
    obtain ⟨k, hk⟩ := ih (i + 1) (b || begB lens l w i) (by omega)
    exact ⟨k + 1, by rw [sym_step hl hr s a l i h15 w b k (by omega) (hu i (by omega)), hk]⟩
theorem sym_miss {lens : List Int} (hl : lens.length ≤ 288) (hr : ∀ x ∈ lens, 0 ≤ x ∧ x ≤ 15) (s : ByteArray) (a l : Nat) (h15 : l ≤ 15) (w : Int) (hu : ∀ i : Nat, i < lens.length → ¬ (rd lens (i : Int) = (l : Int) ∧ rd (codesL lens) (i : Int) = w)) (r : Int × Int × Int)
    (hn : (∃ i, Begins lens l w i) → ∃ k, postroadref03_Symbol.l0 k lens (codesL lens) s (a : Int) w ((l + 1 : Nat) : Int) = some r) (hz : ¬ (∃ i, Begins lens l w i) → r = (0, 0, 30)) :
    ∀ (e i : Nat) (b : Bool), i + e = lens.length → (b = true → ∃ i, Begins lens l w i) → (b = false → ∀ i' < i, ¬ Begins lens l w i') → ∃ k, postroadref03_Symbol.l1 k lens (codesL lens) s (a : Int) w (l : Int) b (i : Int) = some r := by
  intro e
  induction e with
  | zero =>
    intro i b hi h1 h2
    have w1 : wrap64 ((l : Int) + 1) = ((l + 1 : Nat) : Int) := by unfold wrap64; omega
    cases b with
    | true =>
      obtain ⟨k, hk⟩ := hn (h1 rfl)
      refine ⟨k + 1, ?_⟩
      rw [postroadref03_Symbol.l1, if_neg (by omega), if_pos rfl, w1, hk]
    | false =>
      refine ⟨1, ?_⟩
      rw [postroadref03_Symbol.l1, if_neg (by omega), if_neg (by decide), hz (fun ⟨j, hb⟩ => h2 rfl j (by have := hb.1; omega) hb)]
  | succ e ih =>
    intro i b hi h1 h2
    obtain ⟨k, hk⟩ := ih (i + 1) (b || begB lens l w i) (by omega) (fun h => by
      rcases Bool.or_eq_true_iff.1 h with h | h
      · exact h1 h
      · exact ⟨i, (begB_iff (by omega)).1 h⟩) (fun h i' hi' hb => by
      rw [Bool.or_eq_false_iff] at h
      by_cases hii : i' = i
      · subst hii
        rw [(begB_iff (by omega)).2 hb] at h
        cases h.2
      · exact h2 h.1 i' (by omega) hb)
    exact ⟨k + 1, by rw [sym_step hl hr s a l i h15 w b k (by omega) (hu i (by omega)), hk]⟩
/-- What the document tells of a symbol. -/
def symR (r : Int × Int × Nat) : Int × Int × Int := (r.1, if r.2.1 = 0 then (r.2.2 : Int) else 0, r.2.1)
theorem bitI_b (s : ByteArray) (a : Nat) : bitI s a = 0 ∨ bitI s a = 1 := by
  have := nb_lt (sbit s) a 1
  unfold bitI
  omega
theorem sym_out {lens : List Int} (ho : okL lens = true) (s : ByteArray) (hs : s.size ≤ 1000000000000000) (a : Nat) : ∀ (d m w : Nat), m + d = 15 → a + m ≤ 8 * s.size → eT (cF lens) m ≤ (w : Int) → w < 2 ^ m →
    ∃ k, postroadref03_Symbol.l0 k lens (codesL lens) s (a : Int) (w : Int) ((m + 1 : Nat) : Int) = some (symR (symS lens s d (m + 1) (w : Int) (a + m))) := by
  have o1 := (okL_open ho).1
  have o2 := (okL_open ho).2.1
  intro d
  induction d with
  | zero =>
    intro m w hl _ _ _
    refine ⟨1, ?_⟩
    rw [postroadref03_Symbol.l0, if_neg (by omega)]
    rfl
  | succ d ih =>
    intro m w hl ha he hw
    have h15 : m + 1 ≤ 15 := by omega
    have hp : 2 ^ m ≤ 2 ^ 14 := Nat.pow_le_pow_right (by decide) (by omega)
    have w1 : wrap64 (wrap64 ((a : Int) + ((m + 1 : Nat) : Int)) - 1) = ((a + m : Nat) : Int) := by
      rw [wrap64_id ((a : Int) + ((m + 1 : Nat) : Int)) (by omega) (by omega), wrap64_id _ (by omega) (by omega)]
      omega
    have W1 := Aside0.mk w1
    have HB := Aside0.mk (fun k hk => rbits_f s hs (a + m) ha 1 (by decide) (by decide) k hk)
    have i15 : ((m + 1 : Nat) : Int) ≤ 15 := by omega
    clear w1
    unfold symS
    rw [Nat.add_sub_cancel]
    by_cases hsh : 8 * s.size < a + m + 1
    · have hsi : 8 * (s.size : Int) - ((a + m : Nat) : Int) < 1 := by omega
      refine ⟨61, ?_⟩
      rw [postroadref03_Symbol.l0, if_pos i15, W1.out, HB.out 60 (Nat.le_refl _), if_pos hsi, if_pos hsh]
      simp only [Option.bind_some]
      rw [if_neg (by decide)]
      rfl
    · rw [if_neg hsh]
      have hsi : ¬ 8 * (s.size : Int) - ((a + m : Nat) : Int) < 1 := by omega
      have hbit := bitI_b s (a + m)
      have hbi : ((nb (sbit s) (a + m) (Int.toNat 1) : Nat) : Int) = bitI s (a + m) := rfl
      have W2 := Aside0.mk (show wrap64 (wrap64 (2 * (w : Int)) + bitI s (a + m)) = 2 * (w : Int) + bitI s (a + m) by
        rw [wrap64_id (2 * (w : Int)) (by omega) (by omega), wrap64_id _ (by omega) (by omega)])
      have hgo : ∀ r, (∃ k, postroadref03_Symbol.l1 k lens (codesL lens) s (a : Int) (2 * (w : Int) + bitI s (a + m)) ((m + 1 : Nat) : Int) false 0 = some r) → ∃ k, postroadref03_Symbol.l0 k lens (codesL lens) s (a : Int) (w : Int) ((m + 1 : Nat) : Int) = some r := fun r ⟨k, hk⟩ => by
        refine ⟨(60 + k) + 1, ?_⟩
        have hk2 := up (fun k => (postroadref03_Symbol.mono_l k).2 lens (codesL lens) s (a : Int) (2 * (w : Int) + bitI s (a + m)) ((m + 1 : Nat) : Int) false 0) hk 60
        rw [Nat.add_comm] at hk2
        rw [postroadref03_Symbol.l0, if_pos i15, W1.out, HB.out (60 + k) (Nat.le_add_right _ _), if_neg hsi, hbi]
        simp only [Option.bind_some, if_true, W2.out]
        exact hk2
      obtain ⟨w', hw'⟩ : ∃ w' : Nat, 2 * (w : Int) + bitI s (a + m) = w' := ⟨(2 * (w : Int) + bitI s (a + m)).toNat, by omega⟩
      rw [hw'] at hgo ⊢
      have hlt : w' < 2 ^ (m + 1) := by
        rw [Nat.pow_succ]
        omega
      have he2 : 2 * eT (cF lens) m ≤ (w' : Int) := by omega
      have hE : eT (cF lens) (m + 1) = 2 * eT (cF lens) m + cF lens (m + 1) := eT_succ _ _
      clear hbit hbi W2 HB W1 hsi
      by_cases hit : (w' : Int) < eT (cF lens) (m + 1)
      · rw [if_pos hit]
        obtain ⟨k, hk⟩ : ∃ k : Nat, (w' : Int) - 2 * eT (cF lens) m = k := ⟨((w' : Int) - 2 * eT (cF lens) m).toNat, by omega⟩
        obtain ⟨j, hj, hs1, hs2, hs3⟩ := sym_at (lens := lens) (m + 1) k (by omega) h15 (by omega)
        rw [Nat.add_sub_cancel] at hs1 hs3
        rw [hk, Int.toNat_natCast, hs1]
        obtain ⟨k0, hk0⟩ := sym_hit o1 o2 s a (m + 1) j (by omega) h15 (w' : Int) hj (by rw [rd_get lens j hj, hs2]) (by rw [codes_rd lens j hj, hs3]; omega) (fun i hi ⟨q1, q2⟩ => by
          have hil : i < lens.length := by omega
          rw [rd_get lens i hil] at q1
          rw [codes_rd lens i hil] at q2
          refine code_apart ho i j (m + 1) 0 hil hj (by omega) q1 (by omega) (by rw [hs2]) ?_
          obtain ⟨c, hc⟩ : ∃ c : Nat, codeAt lens j = c := ⟨w', by omega⟩
          rw [hc, show ((0 : Nat) : Int) = ((0 : Nat) : Int) from rfl, shr_i64 c 0 (by omega), Nat.pow_zero, Nat.div_one, q2]
          omega) j 0 false (by omega)
        exact hgo _ ⟨k0, hk0⟩
      · rw [if_neg hit]
        refine hgo _ ?_
        have hbi2 := begins_iff ho (m + 1) (by omega) w' (by omega)
        refine sym_miss o1 o2 s a (m + 1) h15 (w' : Int) (fun i hi ⟨q1, q2⟩ => ?_) _ (fun hB => ?_) (fun hB => ?_) lens.length 0 false (by omega) (fun h => by cases h) (fun _ i' h => absurd h (Nat.not_lt_zero _))
        · rw [rd_get lens i hi] at q1
          rw [codes_rd lens i hi] at q2
          obtain ⟨c1, c2, c3⟩ := code_fits ho i (m + 1) hi q1 (by omega)
          have : eT (cF lens) (m + 1) = nxt (fun k => cntL lens k) (m + 1) + cntL lens ((m + 1 : Nat) : Int) := if_neg (by omega)
          omega
        · have hB2 := hbi2.1 hB
          obtain ⟨k, hk⟩ := ih (m + 1) w' (by omega) (by omega) (by omega) hlt
          refine ⟨k, ?_⟩
          rw [if_pos hB2, hk]; rfl
        · rw [if_neg (fun h => hB (hbi2.2 h))]
          rfl
theorem refsym_ok {lens : List Int} (ho : okL lens = true) (s : ByteArray) (hs : s.size ≤ 1000000000000000) (a : Nat) (ha : a ≤ 8 * s.size) : ∃ k, postroadref03_Symbol.f k lens (codesL lens) s (a : Int) = some (symR (symF lens s a)) := by
  obtain ⟨k, hk⟩ := sym_out ho s hs a 15 0 0 rfl (by omega) (by simp [eT]) (by decide)
  exact ⟨k, hk⟩
end Go.Proofs.Ytaghmhcccighgaa.HP
end
section
/- huff.Codes, huff.Whole: walked. -/
namespace Go.Proofs.Ytaghmhcccighgaa.HF
open Go.RowKit Go.Proofs.YtaghmhcccighgaaW.PrintWords Go.Proofs.YtaghmhcccighgaaW.PrintLast Go.Proofs.YtaghmhcccighgaaW.PrintMore Go.Proofs.Ytaghmhcccighgaa.HW Go.Proofs.Ytaghmhcccighgaa.MB Go.Proofs.Ytaghmhcccighgaa.Fn
attribute [local go_sem] max2_int min2_int max_two min_two max_three min_three max_four min_four   -- for this text's walks alone
theorem R_first {α : Type} {d : Kd α} {e : Nat} {w : World} {base : Nat} {ok : Nat → Prop} {v : Value} {xs : List α} (h : d.R e w base ok v xs) (hn : 0 < xs.length) : ∃ g c, v = .slice (some ⟨g, 0, none⟩) xs.length c := by
  obtain ⟨_, inner, ⟨_, hown⟩, _⟩ := h
  rcases hown with ⟨_, h0⟩ | ⟨g, cap, cur, hv, _⟩
  · omega
  · exact ⟨g, cap, hv⟩
def zeroObj : Obj := .cells #[.int .i64 0, .int .i64 0, .int .i64 0, .int .i64 0, .int .i64 0, .int .i64 0, .int .i64 0, .int .i64 0, .int .i64 0, .int .i64 0, .int .i64 0, .int .i64 0, .int .i64 0, .int .i64 0, .int .i64 0, .int .i64 0] 97
def outI (lens : List Int) (i : Nat) : List Int := (List.range lens.length).map (fun j => if j < i then codeAt lens j else 0)
theorem outI_len (lens : List Int) (i : Nat) : (outI lens i).length = lens.length := by unfold outI; rw [List.length_map, List.length_range]
theorem outI_zero (lens : List Int) : List.replicate lens.length (0 : Int) = outI lens 0 := by
  refine List.ext_getElem? fun j => ?_
  unfold outI
  rw [List.getElem?_replicate, List.getElem?_map]
  by_cases h : j < lens.length
  · rw [if_pos h, List.getElem?_range h]; rfl
  · rw [if_neg h, List.getElem?_eq_none (by rw [List.length_range]; omega)]; rfl
theorem outI_set (lens : List Int) (i : Nat) : (outI lens i).set i (codeAt lens i) = outI lens (i + 1) := by
  refine List.ext_getElem? fun j => ?_
  rw [List.getElem?_set, outI_len]
  unfold outI
  rw [List.getElem?_map, List.getElem?_map]
  by_cases h : j < lens.length
  · rw [List.getElem?_range h]
    by_cases hij : i = j
    · subst hij
      rw [if_pos rfl, if_pos h]
      show _ = some (if i < i + 1 then codeAt lens i else 0)
      rw [if_pos (Nat.lt_succ_self i)]
    · rw [if_neg hij]
      show some (if j < i then codeAt lens j else 0) = some (if j < i + 1 then codeAt lens j else 0)
      by_cases hji : j < i
      · rw [if_pos hji, if_pos (show j < i + 1 by omega)]
      · rw [if_neg hji, if_neg (show ¬ j < i + 1 by omega)]
  · rw [List.getElem?_eq_none (by rw [List.length_range]; omega)]
    split
    · split
      · omega
      · rfl
    · rfl
theorem outI_same (lens : List Int) (i : Nat) (h : codeAt lens i = 0) : outI lens i = outI lens (i + 1) := by
  unfold outI
  refine List.map_congr_left (fun j _ => ?_)
  by_cases h1 : j < i
  · rw [if_pos h1, if_pos (show j < i + 1 by omega)]
  · by_cases h2 : j = i
    · subst h2; rw [if_neg h1, if_pos (Nat.lt_succ_self j), h]
    · rw [if_neg h1, if_neg (show ¬ j < i + 1 by omega)]
theorem outI_all (lens : List Int) : outI lens lens.length = codesL lens := by
  unfold outI codesL
  exact List.map_congr_left (fun j hj => if_pos (List.mem_range.1 hj))
theorem okL_len {lens : List Int} (h : okL lens = true) : lens.length ≤ 288 ∧ (∀ x ∈ lens, 0 ≤ x ∧ x ≤ 15) := by
  unfold okL at h
  rw [Bool.and_eq_true, Bool.and_eq_true] at h
  exact ⟨of_decide_eq_true h.1, fun x hx => of_decide_eq_true (List.all_eq_true.1 h.2.1 x hx)⟩
/-- What Codes tells. -/
def DQ (lens : List Int) (W : World) (e : Ending) (w' : World) : Prop := ∃ v, e = .returned (.tuple #[v, .int .i64 (if okL lens then 0 else 30)]) ∧ Kd.R (Kd.int .i64) 3 w' W.heap.size (fun _ => True) v (if okL lens then codesL lens else []) ∧ Below W.heap.size W w'
/-- The state of Codes. -/
structure KS (W w : World) (q q2 : Nat) (f h : Nat → Int) : Prop where
  be : Below W.heap.size W w
  le : W.heap.size ≤ q2
  ne : q ≠ q2
  ar : IsArr w q f
  nx : IsArr w q2 h
theorem KS.set {W w : World} {q q2 : Nat} {f h : Nat → Int} (s : KS W w q q2 f h) (k : Nat) (v : Int) : KS W (w.setCell ⟨q2, k, none⟩ (.int .i64 v)) q q2 f (upd h k v) :=
  ⟨s.be.setCell s.le _, s.le, s.ne, (Below.heap_setCell _ _ _ _ s.ne).trans s.ar, s.nx.set k v⟩
theorem KS.congr {W w : World} {q q2 : Nat} {f h h' : Nat → Int} (s : KS W w q q2 f h) (e : ∀ k, k < 16 → h k = h' k) : KS W w q q2 f h' := ⟨s.be, s.le, s.ne, s.ar, s.nx.congr e⟩
theorem KS.below {W w w' : World} {q q2 : Nat} {f h : Nat → Int} (s : KS W w q q2 f h) (hb : Below w.heap.size w w') : KS W w' q q2 f h := ⟨s.be.trans (hb.mono s.be.size), s.le, s.ne, s.ar.below hb, s.nx.below hb⟩
set_option maxRecDepth 100000 in
set_option maxHeartbeats 8000000 in
theorem codes_any (A : Option Addr) (c : Nat) (lens : List Int) (W : World) (hr : Kd.C (Kd.int .i64) W A lens.length lens) (hc : lens.length ≤ c) : Calls Try.prog 58 #[.slice A lens.length c] W (DQ lens W) := by
  have hu := Try.underlying97
  have HR := Aside0.mk hr
  have HC := Aside0.mk (counts_any A c lens W hr hc)
  clear hr hc
  go_enter Try.func58, Try.ntmps58
  go_wp2_with fail
  refine HC.out.mono ?_
  rintro e w1 ⟨f, rfl, hf, hb⟩
  have HF := Aside0.mk hf
  have HB := Aside0.mk hb
  clear hf hb HC
  cases hok : okL lens with
  | false =>
    have HO := Aside0.mk hok
    clear hok
    go_wp2_with ((with_reducible refine gate_store (t := 97) (p := 4) (v := .tmp 14) rfl ?_); go_must (refine store_all rfl rfl rfl w1.heap.size (arrV (fun _ => 0)) (arrV f) 97 (by rfl) (by rfl) (IsArr.new w1) ((arrV_size _).trans (arrV_size _).symm) (by rw [arrV_size]; kernel_rfl) (arrV_one _) ?_); intro w9 hr1 hf6; have HF6 := Aside0.mk hf6; clear hr1 hf6)
    go_ret2
    exact ⟨_, (by rw [HO.out]; rfl), by rw [HO.out]; exact Kd.R_nil _ _ _ _ _, HB.out.trans (((below_alloc (Below.refl w1.heap.size w1) _).trans (HF6.out.below (by show _ ≤ (Array.push _ _).size; rw [Array.size_push]; omega) (fun k hk => by rw [hk]; exact Nat.le_refl _))).mono HB.out.size)⟩
  | true =>
    have HO := Aside0.mk hok
    have hl288 := (okL_len hok).1
    clear hok
    go_upto_region 4 with ((with_reducible refine gate_store (t := 97) (p := 4) (v := .tmp 14) rfl ?_); go_must (refine store_all rfl rfl rfl w1.heap.size (arrV (fun _ => 0)) (arrV f) 97 (by rfl) (by rfl) (IsArr.new w1) ((arrV_size _).trans (arrV_size _).symm) (by rw [arrV_size]; kernel_rfl) (arrV_one _) ?_); intro w9 hr1 hf6; have HR1 := Aside0.mk hr1; have HF6 := Aside0.mk hf6; clear hr1 hf6)
    have HB9 := Aside0.mk (HB.out.trans (((below_alloc (Below.refl w1.heap.size w1) _).trans (HF6.out.below (by show _ ≤ (Array.push _ _).size; rw [Array.size_push]; omega) (fun k hk => by rw [hk]; exact Nat.le_refl _))).mono HB.out.size))
    obtain ⟨q, hq⟩ : ∃ q, w1.heap.size = q := ⟨_, rfl⟩
    rw [hq] at HR1
    rw [hq]
    clear HF6 HB hq
    go_upto_region 5 with (fail)
    have HK0 := Aside0.mk (KS.mk (W := W) (w := w9.alloc zeroObj) (q := q) (q2 := w9.heap.size) (f := f) (h := fun _ => 0) (below_alloc HB9.out _) HB9.out.size (Nat.ne_of_lt (blk_lt HR1.out)) (IsArr.below HR1.out (below_alloc (Below.refl _ _) _)) (IsArr.new w9))
    unfold zeroObj at HK0
    obtain ⟨q2, hq2⟩ : ∃ q, w9.heap.size = q := ⟨_, rfl⟩
    rw [hq2] at HK0
    rw [hq2]
    clear hq2 HR1 HB9
    generalize w9.alloc (.cells #[.int .i64 0, .int .i64 0, .int .i64 0, .int .i64 0, .int .i64 0, .int .i64 0, .int .i64 0, .int .i64 0, .int .i64 0, .int .i64 0, .int .i64 0, .int .i64 0, .int .i64 0, .int .i64 0, .int .i64 0, .int .i64 0] 97) = w10 at HK0 ⊢
    go_wp2_with fail
    go_loopw [7] (fun v7 wr => ∃ l : Nat, v7 = .int .i64 l ∧ 1 ≤ l ∧ l ≤ 15 ∧ Aside0 (KS W wr q q2 f (fun k => if k ≤ l then nxt (fun l => cntL lens l) k else 0))) (fun v7 _ => 15 - (intOf v7).toNat)
    case atStart => exact ⟨1, rfl, by decide, by decide, ⟨HK0.out.congr (fun k _ => by
      show (0 : Int) = if k ≤ 1 then nxt _ k else 0
      split
      · rcases (show k = 0 ∨ k = 1 by omega) with rfl | rfl <;> rfl
      · rfl)⟩⟩
    case round =>
      clear HK0
      obtain ⟨l, rfl, hl1, hl2, HK⟩ := hrel
      by_cases hlt : l < 15
      · have hb1 : decide ((l : Int) < 15) = true := by simp; omega
        have c0 := HK.out.nx.cell l (by omega)
        have c1 := HK.out.nx.cell (l + 1) (by omega)
        have f1 := HK.out.nx.frozen (l + 1)
        have d0 := HK.out.ar.cell l (by omega)
        have hfl : f l = cntL lens l := by rw [HF.out HO.out l (by omega)]; unfold cA; rw [if_neg (by omega)]
        rw [hfl] at d0
        have hcb := cntL_nn lens (l : Int)
        have hnb := nxt_bd (f := fun l => cntL lens l) (fun l => ⟨(cntL_nn lens l).1, by have := (cntL_nn lens l).2; omega⟩) l
        have hp2 : (2 : Int) ^ l ≤ 32768 := by
          have := Nat.pow_le_pow_right (n := 2) (by decide) hl2
          have h2 : ((2 ^ l : Nat) : Int) ≤ 32768 := by exact_mod_cast this
          simpa using h2
        simp only [Nat.le_refl, if_true, show ¬ l + 1 ≤ l by omega, if_false] at c0 c1
        obtain ⟨n, hn⟩ : ∃ n, nxt (fun l => cntL lens l) l = n := ⟨_, rfl⟩
        obtain ⟨cn, hcn⟩ : ∃ n, cntL lens (l : Int) = n := ⟨_, rfl⟩
        rw [hn] at c0 hnb
        rw [hcn] at d0 hcb
        have hx : nxt (fun l => cntL lens l) (l + 1) = 2 * (n + cn) := by show (if l = 0 then 0 else 2 * (nxt (fun l => cntL lens l) l + cntL lens (l : Int))) = _; rw [if_neg (by omega), hn, hcn]
        have HX := Aside0.mk hx
        have hw1 : IntKind.i64.wrap (n + cn) = n + cn := IntWalk.i64_in _ (by omega)
        have hw2 : IntKind.i64.wrap (2 * (n + cn)) = 2 * (n + cn) := IntWalk.i64_in _ (by omega)
        have hw3 : IntKind.i64.wrap ((l : Int) + 1) = (l : Int) + 1 := IntWalk.i64_in _ (by omega)
        have q1 : (0 : Int) ≤ (l : Int) := by omega
        have q2' : (l : Int) < 16 := by omega
        have q3 : (0 : Int) ≤ (l : Int) + 1 := by omega
        have q4 : (l : Int) + 1 < 16 := by omega
        have q5 : ((l : Int) + 1).toNat = l + 1 := by omega
        have HI := Aside0.mk hlt
        clear hfl hcb hnb hp2 hn hcn hx hlt
        go_wp2_with fail
        go_region
        all_goals
          have HS2 := Aside0.mk ((HK.out.set (l + 1) (2 * (n + cn))).congr (h' := fun k => if k ≤ l + 1 then nxt (fun l => cntL lens l) k else 0) (fun k _ => by
            unfold upd
            by_cases h0 : k = l + 1
            · subst h0; rw [if_pos rfl, if_pos (Nat.le_refl _), HX.out]
            · rw [if_neg h0]
              show (if k ≤ l then _ else _) = _
              by_cases h1 : k ≤ l
              · rw [if_pos h1, if_pos (show k ≤ l + 1 by omega)]
              · rw [if_neg h1, if_neg (show ¬ k ≤ l + 1 by omega)]))
          go_wp2_with fail
          go_roundw
          case rel => exact ⟨l + 1, by simp, by omega, by have := HI.out; omega, ⟨HS2.out.below (below_drew (Below.refl _ _))⟩⟩
          case measure => simp [intOf]; have := HI.out; omega
      · have hle : l = 15 := by omega
        subst hle
        have hb1 : decide ((15 : Int) < 15) = false := by decide
        have HK2 := Aside0.mk (HK.out.congr (h' := fun k => if k = 0 then 0 else nxt (fun l => cntL lens l) k + cntL (lens.take 0) k) (fun k hk => by
          show (if k ≤ 15 then _ else _) = _
          rw [if_pos (by omega)]
          by_cases h0 : k = 0
          · subst h0; rfl
          · rw [if_neg h0, List.take_zero, cntL_nil, Int.add_zero]))
        clear hlt HK
        go_wp2_with ((with_reducible refine gate_dst (N := 35) rfl ?_); go_must (refine Kd.R_make (Kd.int .i64) (w0 := W) W.heap.size 3 rfl (N := 35) rfl 48 _ _ rfl (lens.length : Int) rfl rfl Try.underlying48 (.int .i64 0) 8 info3 rfl (by decide) (by decide) 0 (ok := fun _ => True) (okp := fun _ => True) rfl (fun _ hk => hk) trivial (by omega) (by omega) HK2.out.be HK2.out.be.size ?_); intro v8 w11 ho hb hg hnew; rw [Int.toNat_natCast, outI_zero] at ho; obtain ⟨b8, hb8, hb8'⟩ := hnew; have HO8 := Aside0.mk ho; have HB11 := Aside0.mk hb; have HK3 := Aside0.mk (KS.below (w' := w11) HK2.out ⟨hg.os, hg.tape, hg.output, hg.size, fun k hk => hg.block k hk (by simp)⟩); have HNB := Aside0.mk (show b8 ≠ q ∧ b8 ≠ q2 from ⟨fun e => by have := blk_lt HK2.out.ar; omega, fun e => by have := blk_lt HK2.out.nx; omega⟩); have HVB := Aside0.mk hb8; clear ho hb hg hb8 hb8'; obtain ⟨A8, c8, e8⟩ := Kd.R_slice HO8.out; rw [outI_len] at e8; subst e8)
        go_loopw [38] (fun v38 wr => ∃ i : Nat, v38 = .int .i64 i ∧ i ≤ lens.length ∧ Aside0 (KS W wr q q2 f (fun k => if k = 0 then 0 else nxt (fun l => cntL lens l) k + cntL (lens.take i) k)) ∧ Aside0 (Kd.R (Kd.int .i64) 3 wr W.heap.size (fun _ => True) (.slice A8 lens.length c8) (outI lens i))) (fun v38 _ => lens.length - (intOf v38).toNat)
        case atStart => exact ⟨0, rfl, Nat.zero_le _, HK3, HO8⟩
        case round =>
          clear HK3 HO8 HK2 HB11
          obtain ⟨i, rfl, hi, HK, HO8⟩ := hrel
          by_cases hlt : i < lens.length
          · have hb2 : decide ((i : Int) < (lens.length : Int)) = true := by simp; omega
            obtain ⟨ad1, hA1, x0⟩ := Kd.at_int (Kd.C_below HR.out HK.out.be) (i : Int) (by omega) (by omega)
            subst hA1
            simp only [Int.toNat_natCast] at x0
            obtain ⟨g8, c8', e8⟩ := R_first HO8.out (by rw [outI_len]; omega)
            rw [outI_len] at e8
            injection e8 with eA _ ec
            subst eA; subst ec
            have hgb : g8 = b8 := by have := HVB.out; injection this
            subst hgb
            have hxr := (okL_len HO.out).2 (rd lens (i : Int)) (by rw [rd_get lens i hlt]; exact List.getElem_mem _)
            have htk := take_rd lens i hlt
            have hca : codeAt lens i = if 0 < rd lens (i : Int) then nxt (fun l => cntL lens l) (rd lens (i : Int)).toNat + cntL (lens.take i) (rd lens (i : Int)) else 0 := by
              unfold codeAt
              have : lens.getD i 0 = rd lens (i : Int) := by unfold rd; rw [Int.toNat_natCast]
              rw [this]
            obtain ⟨x, hx⟩ : ∃ x, rd lens (i : Int) = x := ⟨_, rfl⟩
            rw [hx] at x0 hxr htk hca
            obtain ⟨m, rfl⟩ : ∃ m : Nat, x = m := ⟨x.toNat, by omega⟩
            have hm : m < 16 := by omega
            have q1 : (0 : Int) ≤ (i : Int) := by omega
            have q2' : (i : Int) < (lens.length : Int) := by omega
            have q3 : (0 : Int) ≤ (m : Int) := by omega
            have q4 : (m : Int) < 16 := by omega
            have HTK := Aside0.mk htk
            have HI := Aside0.mk hlt
            by_cases hm0 : m = 0
            · subst hm0
              have hb3 : decide ((0 : Int) < 0) = false := by decide
              have hs := outI_same lens i (by rw [hca]; rfl)
              have HO9 := HO8
              rw [hs] at HO9
              have HK9 := Aside0.mk (HK.out.congr (h' := fun k => if k = 0 then 0 else nxt (fun l => cntL lens l) k + cntL (lens.take (i + 1)) k) (fun k _ => by
                by_cases h0 : k = 0
                · show (if k = 0 then (0 : Int) else _) = if k = 0 then 0 else _
                  rw [if_pos h0, if_pos h0]
                · show (if k = 0 then (0 : Int) else _) = if k = 0 then 0 else _
                  rw [if_neg h0, if_neg h0, HTK.out, cntL_snoc, if_neg (show ¬ ((0 : Nat) : Int) = (k : Int) by omega), Int.add_zero]))
              clear hs hxr htk hca hx HO8 HK hlt
              have x0' : wr.cell? (ad1.add i) = some (.int .i64 0) := x0
              clear x0
              go_wp2_with fail
              go_roundw
              case rel => exact ⟨i + 1, by simp, HI.out, HK9, HO9⟩
              case measure => simp [intOf]; have := HI.out; omega
            · have hb3 : decide ((0 : Int) < (m : Int)) = true := by simp; omega
              have hb4 : 0 < m := by omega
              rw [if_pos (by omega), Int.toNat_natCast] at hca
              have c0 := HK.out.nx.cell m hm
              have f0 := HK.out.nx.frozen m
              have c0' : wr.cell? ⟨q2, m, none⟩ = some (.int .i64 (codeAt lens i)) := by rw [hca, c0]; show some (Value.int .i64 (if m = 0 then 0 else _)) = _; rw [if_neg hm0]
              have hcb := cntL_nn (lens.take i) (m : Int)
              have hnb := nxt_bd (f := fun l => cntL lens l) (fun l => ⟨(cntL_nn lens l).1, by have := (cntL_nn lens l).2; omega⟩) m
              have hp2 : (2 : Int) ^ m ≤ 32768 := by
                have := Nat.pow_le_pow_right (n := 2) (by decide) (show m ≤ 15 by omega)
                have h2 : ((2 ^ m : Nat) : Int) ≤ 32768 := by exact_mod_cast this
                simpa using h2
              have hcb2 : ((lens.take i).length : Int) ≤ 288 := by have h9 : (lens.take i).length ≤ lens.length := (by rw [List.length_take]; omega); omega
              obtain ⟨cv, hcv⟩ : ∃ z, codeAt lens i = z := ⟨_, rfl⟩
              have hcv2 : 0 ≤ cv ∧ cv ≤ 100000000 := by rw [← hcv, hca]; omega
              have hst := outI_set lens i
              rw [hcv] at c0' hst
              have hv1 := hcv2.1
              have hv2 := hcv2.2
              obtain ⟨y0, z0⟩ := Kd.R_celln 0 HO8.out (i : Int) (by omega) (by omega)
              simp only [Int.toNat_natCast] at y0 z0
              have hput := Kd.R_putg HO8.out (i : Int) cv
              simp only [Int.toNat_natCast] at hput
              rw [hst] at hput
              have HP := Aside0.mk hput
              have HCA := Aside0.mk (show cv = nxt (fun l => cntL lens l) m + cntL (lens.take i) m from by rw [← hcv, hca])
              have hM0 := Aside0.mk hm0
              clear hcb hnb hp2 hcb2 hcv hca hxr htk hx c0 hst hput hm0 hlt hcv2
              go_upto_region 15 with (fail)
              have HK4 := Aside0.mk (show KS W (wr.setCell ⟨g8, i, none⟩ (.int .i64 cv)) q q2 f (fun k => if k = 0 then 0 else nxt (fun l => cntL lens l) k + cntL (lens.take i) k) from ⟨HK.out.be.grown HP.out.2 HK.out.be.size (fun b hb => Kd.R_base HO8.out b (by rw [← hb]; rfl)), HK.out.le, HK.out.ne, (Below.heap_setCell _ _ _ _ (fun e => HNB.out.1 e.symm)).trans HK.out.ar, (Below.heap_setCell _ _ _ _ (fun e => HNB.out.2 e.symm)).trans HK.out.nx⟩)
              have HO4 := Aside0.mk HP.out.1
              have c0' : (wr.setCell ⟨g8, i, none⟩ (.int .i64 cv)).cell? ⟨q2, m, none⟩ = some (.int .i64 cv) := by
                rw [HK4.out.nx.cell m hm]
                show some (Value.int .i64 (if m = 0 then 0 else _)) = _
                rw [if_neg hM0.out, HCA.out]
              have f0 := HK4.out.nx.frozen m
              clear y0 z0 HK HO8 HP
              generalize wr.setCell ⟨g8, i, none⟩ (.int .i64 cv) = w12 at HK4 HO4 c0' f0 ⊢
              go_wp2_with fail
              have HK5 := Aside0.mk ((HK4.out.set m (cv + 1)).congr (h' := fun k => if k = 0 then 0 else nxt (fun l => cntL lens l) k + cntL (lens.take (i + 1)) k) (fun k _ => by
                unfold upd
                rw [HTK.out, cntL_snoc]
                by_cases h0 : k = m
                · subst h0
                  rw [if_pos rfl, if_neg hM0.out, if_pos rfl, HCA.out]
                  omega
                · rw [if_neg h0, if_neg (show ¬ (m : Int) = (k : Int) by omega)]
                  show (if k = 0 then (0 : Int) else _) = if k = 0 then 0 else _
                  rw [Int.add_zero]))
              have HO5 := Aside0.mk (Kd.R_set HO4.out HK4.out.nx (by decide) m (.int .i64 (cv + 1)))
              go_roundw
              case rel => exact ⟨i + 1, by simp, HI.out, HK5, HO5⟩
              case measure => simp [intOf]; have := HI.out; omega
          · have hie : i = lens.length := by omega
            subst hie
            have hb2 : decide ((lens.length : Int) < (lens.length : Int)) = false := by simp
            clear hlt
            go_wp2_with fail
            go_ret2
            exact ⟨_, (by rw [HO.out]; rfl), by rw [HO.out, ← outI_all]; exact HO8.out, HK.out.be⟩
end Go.Proofs.Ytaghmhcccighgaa.HF
end
section
/- huff.Table: how it lies; slices.Clone: walked. -/
namespace Go.Proofs.Ytaghmhcccighgaa.HF
open Go.RowKit Go.Proofs.YtaghmhcccighgaaW.PrintWords Go.Proofs.YtaghmhcccighgaaW.PrintLast Go.Proofs.YtaghmhcccighgaaW.PrintMore Go.Proofs.Ytaghmhcccighgaa.HW Go.Proofs.Ytaghmhcccighgaa.MB Go.Proofs.Ytaghmhcccighgaa.Fn
attribute [local go_sem] max2_int min2_int max_two min_two max_three min_three max_four min_four   -- for this text's walks alone
/-- The cells of a table. -/
def tabC (lv wv : Value) (f : Nat → Int) (sv : Value) (g : Int) : Array Value := #[lv, wv, .int .i64 (f 0), .int .i64 (f 1), .int .i64 (f 2), .int .i64 (f 3), .int .i64 (f 4), .int .i64 (f 5), .int .i64 (f 6), .int .i64 (f 7), .int .i64 (f 8), .int .i64 (f 9), .int .i64 (f 10), .int .i64 (f 11), .int .i64 (f 12), .int .i64 (f 13), .int .i64 (f 14), .int .i64 (f 15), sv, .int .i64 g]
def TabS (W : World) (t : Nat) (lv wv : Value) (f : Nat → Int) (sv : Value) (g : Int) : Prop := W.heap[t]? = some (.cells (tabC lv wv f sv g) 99 (0, 0))
section
variable {W W' : World} {t : Nat} {lv wv : Value} {f : Nat → Int} {sv : Value} {g : Int}
theorem TabS.c0 (h : TabS W t lv wv f sv g) : W.cell? ⟨t, 0, none⟩ = some lv := (blk_cell h 0).trans rfl
theorem TabS.c1 (h : TabS W t lv wv f sv g) : W.cell? ⟨t, 1, none⟩ = some wv := (blk_cell h 1).trans rfl
theorem TabS.c18 (h : TabS W t lv wv f sv g) : W.cell? ⟨t, 18, none⟩ = some sv := (blk_cell h 18).trans rfl
theorem TabS.c19 (h : TabS W t lv wv f sv g) : W.cell? ⟨t, 19, none⟩ = some (.int .i64 g) := (blk_cell h 19).trans rfl
theorem tabC_n (lv wv : Value) (f : Nat → Int) (sv : Value) (g : Int) : ∀ k, k < 16 → (tabC lv wv f sv g)[2 + k]? = some (.int .i64 (f k))
  | 0, _ => rfl
  | 1, _ => rfl
  | 2, _ => rfl
  | 3, _ => rfl
  | 4, _ => rfl
  | 5, _ => rfl
  | 6, _ => rfl
  | 7, _ => rfl
  | 8, _ => rfl
  | 9, _ => rfl
  | 10, _ => rfl
  | 11, _ => rfl
  | 12, _ => rfl
  | 13, _ => rfl
  | 14, _ => rfl
  | 15, _ => rfl
  | n + 16, h => absurd h (by omega)
theorem TabS.cn (h : TabS W t lv wv f sv g) (k : Nat) (hk : k < 16) : W.cell? ⟨t, 2 + k, none⟩ = some (.int .i64 (f k)) := (blk_cell h (2 + k)).trans (tabC_n lv wv f sv g k hk)
theorem TabS.fz (h : TabS W t lv wv f sv g) (i : Nat) : W.frozen? ⟨t, i, none⟩ = false := blk_frozen h i
theorem TabS.lt (h : TabS W t lv wv f sv g) : t < W.heap.size := blk_lt h
theorem TabS.set0 (h : TabS W t lv wv f sv g) (u : Value) : TabS (W.setCell ⟨t, 0, none⟩ u) t u wv f sv g := (blk_set h 0 u).trans rfl
theorem TabS.set18 (h : TabS W t lv wv f sv g) (u : Value) : TabS (W.setCell ⟨t, 18, none⟩ u) t lv wv f u g := (blk_set h 18 u).trans rfl
theorem TabS.set19 (h : TabS W t lv wv f sv g) (m : Int) : TabS (W.setCell ⟨t, 19, none⟩ (.int .i64 m)) t lv wv f sv m := (blk_set h 19 _).trans rfl
theorem TabS.setn0 (h : TabS W t lv wv f sv g) (m : Int) : TabS (W.setCell ⟨t, 2, none⟩ (.int .i64 m)) t lv wv (upd f 0 m) sv g := (blk_set h 2 _).trans rfl
theorem TabS.congr {f' : Nat → Int} (h : TabS W t lv wv f sv g) (e : ∀ k, k < 16 → f k = f' k) : TabS W t lv wv f' sv g := by
  unfold TabS tabC at h ⊢
  rw [h, e 0 (by omega), e 1 (by omega), e 2 (by omega), e 3 (by omega), e 4 (by omega), e 5 (by omega), e 6 (by omega), e 7 (by omega), e 8 (by omega), e 9 (by omega), e 10 (by omega), e 11 (by omega), e 12 (by omega), e 13 (by omega), e 14 (by omega), e 15 (by omega)]
theorem TabS.below (h : TabS W t lv wv f sv g) (hb : Below W.heap.size W W') : TabS W' t lv wv f sv g := (hb.block _ h.lt).trans h
theorem TabS.keep {S : Nat → Prop} (h : TabS W t lv wv f sv g) (hf : Fr S W W') (hn : ¬ S t) : TabS W' t lv wv f sv g := hf.blk h hn
/-- The array is written as a whole. -/
theorem TabS.setArr (h : TabS W t lv wv f sv g) (f' : Nat → Int) : TabS (W.setCells t 2 (arrV f').toList) t lv wv f' sv g := by
  obtain ⟨c', h1, h2, h3⟩ := setCells_blk (arrV f').toList 2 W _ h
  refine h1.trans (congrArg some (congrArg (fun c => Obj.cells c 99 (0, 0)) ?_))
  have e16 : (arrV f').toList.length = 16 := by rw [Array.length_toList, arrV_size]
  have e20 : (tabC lv wv f sv g).size = 20 := rfl
  refine Array.ext_getElem? fun i => ?_
  rw [h3 i, e16, e20]
  by_cases hi : 2 ≤ i ∧ i < 2 + 16 ∧ i < 20
  · rw [if_pos hi]
    obtain ⟨k, rfl⟩ : ∃ k, i = 2 + k := ⟨i - 2, by omega⟩
    rw [tabC_n lv wv f' sv g k (by omega), show 2 + k - 2 = k by omega, Array.getElem?_toList, arrV_get f' k (by omega)]
  · rw [if_neg hi]
    by_cases h20 : i < 20
    · rcases (show i = 0 ∨ i = 1 ∨ i = 18 ∨ i = 19 by omega) with rfl | rfl | rfl | rfl <;> rfl
    · rw [Array.getElem?_eq_none (by rw [e20]; omega), Array.getElem?_eq_none (by rw [show (tabC lv wv f' sv g).size = 20 from rfl]; omega)]
end
section
variable {P : Program} {ops : Array Oper} {rest : List Oper} {o : Oper} {a : Act} {Q : Exit → Act → World → Prop}
/-- A row of cells inside a block is written. -/
theorem store_seg {W : World} (hgd : o.guard = none) {t : TypeId} {p : Tmp} {v : Operand} (ho : o.op = .store t (.tmp p) v) (hN : o.dst = none) (g off : Nat) (cs cs' : Array Value) (ty : TypeId)
    (hx : a.eval (.tmp p) = .pointer (some ⟨g, off, none⟩)) (hv : a.eval v = .agg cs') (hg : W.heap[g]? = some (.cells cs ty (0, 0))) (hs : off + cs'.size ≤ cs.size) (hi : (P.info? t).map (·.size) = some cs'.size) (h1 : ∀ q ∈ cs'.toList, q.oneCell' = true)
    (h : wpList P ops Q rest a (W.setCells g off cs'.toList)) : wpList P ops Q (o :: rest) a W := by
  refine store_event hgd ho hN (w1 := W.setCells g off cs'.toList) ?_ (fun w' hw' => by subst hw'; exact h)
  have hr := run_store_run (P := P) (w := W) t (.agg cs') cs'.toList hg (o := off) (by rfl) (by rw [hi]; simp) (by simp; omega) h1
  simp only [execOp, ho, hx, hv, Sem.run_bind, hr, Result.andThen_ok, Sem.run_pure]
end
theorem nil_empty {W : World} {n : Nat} {xs : List Int} (h : Kd.C (Kd.int .i64) W none n xs) : xs = [] := by
  by_cases h0 : 0 < n
  · obtain ⟨ad, e, _⟩ := h.2.2 h0
    cases e
  · exact List.eq_nil_of_length_eq_zero (by have := h.1; omega)
/-- Slices.Clone: nil stays nil; else a row of one's own that is not nil. -/
def CloneQ (A : Option Addr) (lens : List Int) (W : World) (e : Ending) (w' : World) : Prop :=
  ∃ v, e = .returned v ∧ Kd.R (Kd.int .i64) 3 w' W.heap.size (fun _ => True) v lens ∧ ((A = none ∧ v = .slice none 0 0) ∨ ∃ b, v.ownBlock = some b) ∧ Below W.heap.size W w'
theorem eql_some (w : World) (ad : Addr) (n c : Nat) : (binOp .eql 48 (.slice (some ad) n c) (.slice none 0 0)).run Try.prog w = .ok (.bool false) w := Lib.run_eql_slice_nil w 48 3 (some ad) n c 0 0 Try.underlying48
theorem eql_none (w : World) (n c : Nat) : (binOp .eql 48 (.slice none n c) (.slice none 0 0)).run Try.prog w = .ok (.bool true) w := Lib.run_eql_slice_nil w 48 3 none n c 0 0 Try.underlying48
set_option maxRecDepth 100000 in
set_option maxHeartbeats 8000000 in
theorem clone_ok (A : Option Addr) (c : Nat) (lens : List Int) (W : World) (hr : Kd.C (Kd.int .i64) W A lens.length lens) (hl : lens.length ≤ 1000000) : Calls Try.prog 59 #[.slice A lens.length c] W (CloneQ A lens W) := by
  have HR := Aside0.mk hr
  have q1 := eql_some
  have q2 := eql_none
  clear hr
  cases A with
  | none =>
    obtain rfl := nil_empty HR.out
    go_enter Try.func59, Try.ntmps59
    go_wp2_with fail
    go_ret
    exact ⟨_, rfl, Kd.R_nil _ _ _ _ _, Or.inl ⟨rfl, rfl⟩, Below.refl _ _⟩
  | some ad =>
    have HB := Aside0.mk (Below.refl W.heap.size W)
    go_enter Try.func59, Try.ntmps59
    go_wp2_with (first | ((with_reducible refine gate_dst (N := 5) rfl ?_); (try (refine gate_guard (by rfl) ?_; dsimp only)); refine Kd.R_lit (Kd.int .i64) _ 3 ?hg (N := 5) ?hd (xs := ([] : List Int)) (inner := []) (ok := fun _ => True) (okp := fun _ => True) ?hr ?hp (fun _ hk => hk) trivial (Below.refl _ _) (Nat.le_refl _) (by simp) ?_; (case hd => rfl); (case hg => rfl); (case hr => first | (go_simp; done) | (go_simp; rfl)); (case hp => exact Reps.none _ _); intro v5 w5 ho hb hg hn; have HO := Aside0.mk ho; have HB := Aside0.mk hb; have HN := Aside0.mk hn; clear ho hb hg hn) | ((with_reducible refine gate_builtin (b := .append) (xs := #[.tmp 5, .tmp 6]) rfl ?_); at_builtin; refine Kd.R_append_rows (Kd.int .i64) (w0 := W) W.heap.size rfl (.tmp 5) (.tmp 6) 48 3 (.int .i64 0) 8 rfl Try.underlying48 info3 rfl (by decide) (by decide) v5 [] lens (some ad) lens.length c (fun _ => True) (fun _ => False) rfl (by first | (go_simp; done) | (go_simp; rfl)) HO.out (Kd.C_below HR.out HB.out) (fun _ _ h => h) (fun _ hk => hk.elim) (fun _ _ => trivial) HB.out HB.out.size (by simp only [List.length_nil]; omega) ?_; intro v9 w9 ho hb hg hat; have HR9 := Aside0.mk ho; have HB9 := Aside0.mk hb; have HAT := Aside0.mk hat; clear ho hb hg hat))
    go_ret
    refine ⟨_, rfl, HR9.out, Or.inr ?_, HB9.out⟩
    rcases HAT.out with h | ⟨b, h, _⟩
    · obtain ⟨b, hb, _⟩ := HN.out
      exact ⟨b, h.trans hb⟩
    · exact ⟨b, h⟩
end Go.Proofs.Ytaghmhcccighgaa.HF
end
