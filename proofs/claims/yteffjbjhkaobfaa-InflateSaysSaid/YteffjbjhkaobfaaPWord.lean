/- A symbol's word is read as it: plain. -/
import Derived.Test.YteffjbjhkaobfaaGA
import Derived.Test.YteffjbjhkaobfaaFWrd
import Derived.Test.YteffjbjhkaobfaaPWd
namespace Go.Proofs.Yteffjbjhkaobfaa.HP
open Go.RowKit Go.Proofs.Yteffjbjhkaobfaa.Fn Go.Proofs.Yteffjbjhkaobfaa.HF Go.Proofs.Yteffjbjhkaobfaa.PR Go.Proofs.Yteffjbjhkaobfaa.MB Go.Proofs.YteffjbjhkaobfaaW.PrintWords Go.Proofs.YteffjbjhkaobfaaW.PrintLast Go.Proofs.YteffjbjhkaobfaaW.PrintMore
theorem word_loop (c : Nat) (hc : c < 2 ^ 63) : ∀ (q : Nat) (pre : List Int), q ≤ 15 → pre.length + q ≤ 1000 → ∃ k, postroadref03_Word.l0 k (c : Int) pre ((q : Int) - 1) = some (pre ++ ib (wordB c q))
  | 0, pre, _, _ => ⟨1, by rw [postroadref03_Word.l0, if_neg (by omega)]; simp [wordB, ib]⟩
  | q + 1, pre, hq, hp => by
    obtain ⟨k, hk⟩ := word_loop c hc q (pre ++ [b2i (c.testBit q)]) (by omega) (by rw [List.length_append, List.length_singleton]; omega)
    refine ⟨k + 1, ?_⟩
    have e1 : (((q + 1 : Nat) : Int) - 1) = (q : Int) := by omega
    have w1 : wrap64 ((q : Int) - 1) = (q : Int) - 1 := wrap64_id _ (by omega) (by omega)
    have e2 : Go.bits .and .i64 (shr .i64 (c : Int) (q : Int)) 1 = b2i (c.testBit q) := by
      rw [b2i_bnat, ← and_bit c q hc, shr_i64 c q (by omega), Int.natCast_ediv, Int.natCast_pow]
      rfl
    rw [e1, postroadref03_Word.l0, if_pos (by omega), if_pos (by omega), if_pos (by omega), e2, w1, hk, List.append_assoc]
    rfl
theorem word_ok (c L : Nat) (hc : c < 2 ^ 63) (hL : L ≤ 15) : ∃ k, postroadref03_Word.f k (L : Int) (c : Int) = some (ib (wordB c L)) := by
  obtain ⟨k, hk⟩ := word_loop c hc L [] hL (by simp; omega)
  refine ⟨k, ?_⟩
  unfold postroadref03_Word.f
  rw [wrap64_id ((L : Int) - 1) (by omega) (by omega)]
  exact hk
theorem bitI_bnat (s : ByteArray) (a : Nat) : bitI s a = (bnat (sbit s a) : Int) := by
  show ((nb (sbit s) a 0 + (if sbit s (a + 0) = true then 2 ^ 0 else 0) : Nat) : Int) = _
  rw [Nat.add_zero]
  unfold bnat nb
  split <;> rfl
theorem half_step (c k : Nat) : 2 * (c / 2 ^ (k + 1)) + bnat (c.testBit k) = c / 2 ^ k := by
  have e := Nat.testBit_eq_decide_div_mod_eq (x := c) (i := k)
  have h : c / 2 ^ (k + 1) = c / 2 ^ k / 2 := by rw [Nat.pow_succ, Nat.div_div_eq_div_mul]
  rw [h, e]
  unfold bnat
  rcases Nat.mod_two_eq_zero_or_one (c / 2 ^ k) with h2 | h2
  · rw [h2]; simp; omega
  · rw [h2]; simp; omega
/-- The bits of a symbol's word are read as it. -/
theorem symF_word {lens : List Int} (ho : okL lens = true) (s : ByteArray) (x L c p : Nat) (hx : x < lens.length) (hL : lens[x] = (L : Int)) (h0 : 0 < L) (hc : codeAt lens x = (c : Int)) (hfit : p + L ≤ 8 * s.size) (hb : ∀ i, i < L → sbit s (p + i) = c.testBit (L - 1 - i)) :
    symF lens s p = ((x : Int), 0, p + L) := by
  have hL15 : L ≤ 15 := by have := (okL_open ho).2.1 lens[x] (List.getElem_mem _); omega
  obtain ⟨c1, c2, c3⟩ := code_fits ho x L hx hL h0
  have hE : eT (cF lens) L = nxt (fun k => cntL lens k) L + cntL lens (L : Int) := if_neg (by omega)
  have hE2 : 2 * eT (cF lens) (L - 1) ≤ (c : Int) := by
    obtain ⟨m, rfl⟩ : ∃ m, L = m + 1 := ⟨L - 1, by omega⟩
    rw [Nat.add_sub_cancel, ← eT_next, ← hc, codeAt_eq lens x (m + 1) hx hL (by omega)]
    have := (cntL_nn (lens.take x) ((m + 1 : Nat) : Int)).1
    show nxt (fun k : Nat => cntL lens k) (m + 1) ≤ _
    omega
  have key : ∀ d m, m + d = L → 0 < d → symS lens s (15 - m) (m + 1) ((c / 2 ^ d : Nat) : Int) (p + m) = ((x : Int), 0, p + L) := by
    intro d
    induction d with
    | zero => intro m _ h; exact absurd h (Nat.lt_irrefl 0)
    | succ d ih =>
      intro m hm _
      have hbit : bitI s (p + m) = (bnat (c.testBit d) : Int) := by
        rw [bitI_bnat, hb m (by omega), show L - 1 - m = d by omega]
      have hw : 2 * ((c / 2 ^ (d + 1) : Nat) : Int) + bitI s (p + m) = ((c / 2 ^ d : Nat) : Int) := by
        rw [hbit]
        have := half_step c d
        omega
      rw [show 15 - m = (14 - m) + 1 by omega]
      unfold symS
      rw [if_neg (by omega), hw, Nat.add_sub_cancel]
      by_cases hd : d = 0
      · subst hd
        obtain rfl : L = m + 1 := by omega
        rw [Nat.pow_zero, Nat.div_one, if_pos (by rw [hE]; omega)]
        rw [Nat.add_sub_cancel] at hE2
        obtain ⟨k, hk⟩ : ∃ k : Nat, (c : Int) - 2 * eT (cF lens) m = k := ⟨((c : Int) - 2 * eT (cF lens) m).toNat, by omega⟩
        have hES : eT (cF lens) (m + 1) = 2 * eT (cF lens) m + cF lens (m + 1) := eT_succ _ _
        obtain ⟨j, hj, hs1, hs2, hs3⟩ := sym_at (lens := lens) (m + 1) k (by omega) hL15 (by omega)
        rw [Nat.add_sub_cancel] at hs1 hs3
        rw [hk, Int.toNat_natCast, hs1]
        have hjx : j = x := by
          by_cases hjx : j = x
          · exact hjx
          · exfalso
            refine code_apart ho j x (m + 1) 0 hj hx hjx hs2 (by omega) (by rw [hL]) ?_
            rw [hc, show ((0 : Nat) : Int) = ((0 : Nat) : Int) from rfl, shr_i64 c 0 (by omega), Nat.pow_zero, Nat.div_one, hs3]
            omega
        rw [hjx]
        rfl
      · have hg := eT_grow lens (m + 1) (d - 1)
        rw [show m + 1 + (d - 1) = L - 1 by omega] at hg
        have hge : eT (cF lens) (m + 1) ≤ ((c / 2 ^ d : Nat) : Int) := by
          rw [Int.natCast_ediv, Int.natCast_pow]
          refine (Int.le_ediv_iff_mul_le (Int.pow_pos (by decide))).2 ?_
          obtain ⟨e, rfl⟩ : ∃ e, d = e + 1 := ⟨d - 1, by omega⟩
          rw [Nat.add_sub_cancel] at hg
          show eT (cF lens) (m + 1) * (2 : Int) ^ (e + 1) ≤ _
          rw [Int.pow_succ, ← Int.mul_assoc]
          omega
        have hbeg : ∃ i, Begins lens (m + 1) ((c / 2 ^ d : Nat) : Int) i := ⟨x, hx, by rw [hL]; omega, by
          rw [hc, hL, show (L : Int) - ((m + 1 : Nat) : Int) = (d : Int) by omega, shr_i64 c d (by omega)]⟩
        have hbi := (begins_iff ho (m + 1) (by omega) (c / 2 ^ d) hge).1 hbeg
        rw [if_neg (by omega), if_pos hbi]
        have := ih (m + 1) (by omega) (by omega)
        rw [show 15 - (m + 1) = 14 - m by omega, show p + (m + 1) = p + m + 1 by omega] at this
        exact this
  have hz : c / 2 ^ L = 0 := Nat.div_eq_of_lt (by
    have : ((c : Nat) : Int) < ((2 ^ L : Nat) : Int) := by rw [Int.natCast_pow]; show (c : Int) < (2 : Int) ^ L; omega
    omega)
  have := key L 0 (by omega) h0
  rw [hz] at this
  exact this
end Go.Proofs.Yteffjbjhkaobfaa.HP
