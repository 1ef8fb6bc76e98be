-- machine text of this session's own
import Derived.Test.YteffjbjhkaobfaaFnx0
namespace Go.Proofs.Yteffjbjhkaobfaa.Fn
open Go.RowKit Go.Proofs.YteffjbjhkaobfaaW.PrintWords Go.Proofs.YteffjbjhkaobfaaW.PrintLast Go.Proofs.YteffjbjhkaobfaaW.PrintMore
attribute [local go_sem] max2_int min2_int max_two min_two max_three min_three max_four min_four   -- for this text's walks alone
set_option linter.unusedVariables false
set_option linter.unusedSimpArgs false

/-! ### inflate_spread: function 58 -/
def inflate_spread.f (a0 : Int) (a1 : Int) (a2 : Int) : Option (Int × Int) := if a0 < (wrap64 (2 * a1)) then (some (wrap64 (a2 + a0), 0)) else (if a1 = 0 then (none) else (if 0 ≤ (wrap64 ((wrap64 (Int.tdiv a0 a1)) - 1)) then (some (wrap64 (a2 + (shl .i64 (wrap64 (a1 + (Int.tmod a0 a1))) (wrap64 ((wrap64 (Int.tdiv a0 a1)) - 1)))), wrap64 ((wrap64 (Int.tdiv a0 a1)) - 1))) else (none)))
set_option maxHeartbeats 8000000 in
set_option maxRecDepth 100000 in
theorem inflate_spread.calls (a0 : Int) (a1 : Int) (a2 : Int) (r1 : Int) (r2 : Int) (w : World) (h : inflate_spread.f a0 a1 a2 = some (r1, r2)) :
    Calls Try.prog 58 #[.int .i64 a0, .int .i64 a1, .int .i64 a2] w fun e w' => e = .returned (.tuple #[.int .i64 r1, .int .i64 r2]) ∧ Drawn0 w w' := by
  have H : (if a0 < (wrap64 (2 * a1)) then (some (wrap64 (a2 + a0), 0)) else (if a1 = 0 then (none) else (if 0 ≤ (wrap64 ((wrap64 (Int.tdiv a0 a1)) - 1)) then (some (wrap64 (a2 + (shl .i64 (wrap64 (a1 + (Int.tmod a0 a1))) (wrap64 ((wrap64 (Int.tdiv a0 a1)) - 1)))), wrap64 ((wrap64 (Int.tdiv a0 a1)) - 1))) else (none)))) = some (r1, r2) := h
  clear h
  by_cases c4 : a0 < (wrap64 (2 * a1))
  · rw [if_pos c4] at H
    have c4b0 : decide (a0 < (wrap64 (2 * a1))) = true := decide_eq_true c4
    clear c4
    simp only [Option.some.injEq, Prod.mk.injEq] at H
    obtain ⟨rfl, rfl⟩ := H
    go_enter Try.func58, Try.ntmps58
    go_wp2
    go_ret2
    exact ⟨by first | rfl | (simp; done) | (simp [*]; done), by repeat (first | exact Drawn0.refl _ | apply Drawn0.step)⟩
  · rw [if_neg c4] at H
    have c4b0 : decide (a0 < (wrap64 (2 * a1))) = false := decide_eq_false c4
    clear c4
    by_cases c5 : a1 = 0
    · rw [if_pos c5] at H
      exact absurd H (by simp)
    · rw [if_neg c5] at H
      have c5b0 : (a1 == 0) = false := beq_eq_false_iff_ne.mpr c5
      have c5b1 : (a1 != 0) = true := bne_iff_ne.mpr c5
      obtain ⟨ji6, hji6⟩ : ∃ j_ : Int, (wrap64 ((wrap64 (Int.tdiv a0 a1)) - 1)) = j_ := ⟨_, rfl⟩
      replace H : (if 0 ≤ (ji6) then (some (wrap64 (a2 + (shl .i64 (wrap64 (a1 + (Int.tmod a0 a1))) (ji6))), ji6)) else (none)) = some (r1, r2) := by first | (rw [hji6] at H; exact H) | (simp only [hji6] at H ⊢; exact H)
      have hji6w : (IntKind.i64.wrap ((wrap64 (Int.tdiv a0 a1)) - 1)) = ji6 := (i64_w _).trans hji6
      by_cases c7 : 0 ≤ (ji6)
      · rw [if_pos c7] at H
        have c7b0 := eq_true c7
        have c7b1 : decide (0 ≤ (ji6)) = true := decide_eq_true c7
        clear c7
        obtain ⟨ji8, hji8⟩ : ∃ j_ : Int, (shl .i64 (wrap64 (a1 + (Int.tmod a0 a1))) (ji6)) = j_ := ⟨_, rfl⟩
        replace H : (some (wrap64 (a2 + (ji8)), ji6)) = some (r1, r2) := by first | (rw [hji8] at H; exact H) | (simp only [hji8] at H ⊢; exact H)
        have hji8_ : (IntKind.i64.wrap ((wrap64 (a1 + (Int.tmod a0 a1))) * 2 ^ min (ji6).toNat 64)) = ji8 := hji8
        have hji8z : (ji6) ≤ 64 → (IntKind.i64.wrap ((wrap64 (a1 + (Int.tmod a0 a1))) * 2 ^ (ji6).toNat)) = ji8 := shl_small hji8
        have hji8y : (wrap64 ((wrap64 (a1 + (Int.tmod a0 a1))) * 2 ^ min (ji6).toNat 64)) = ji8 := (i64_w _).symm.trans hji8_
        have hji8x : (ji6) ≤ 64 → (wrap64 ((wrap64 (a1 + (Int.tmod a0 a1))) * 2 ^ (ji6).toNat)) = ji8 := fun h_ => (i64_w _).symm.trans (hji8z h_)
        simp only [Option.some.injEq, Prod.mk.injEq] at H
        obtain ⟨rfl, rfl⟩ := H
        go_enter Try.func58, Try.ntmps58
        go_wp2
        go_ret2
        exact ⟨by first | rfl | (simp; done) | (simp only [← hji6, ← hji8] <;> (first | rfl | simp)) | (simp [*]; done), by repeat (first | exact Drawn0.refl _ | apply Drawn0.step)⟩
      · rw [if_neg c7] at H
        exact absurd H (by simp)

end Go.Proofs.Yteffjbjhkaobfaa.Fn
