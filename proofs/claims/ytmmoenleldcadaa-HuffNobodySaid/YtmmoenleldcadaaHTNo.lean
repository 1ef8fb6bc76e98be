/- Calls of a table that nobody made, and of a table without a reader or a writer. -/
import Derived.Test.YtmmoenleldcadaaHTPut
namespace Go.Proofs.Ytmmoenleldcadaa.HF
open Go.RowKit Go.Proofs.YtmmoenleldcadaaW.PrintWords Go.Proofs.YtmmoenleldcadaaW.PrintLast Go.Proofs.YtmmoenleldcadaaW.PrintMore Go.Proofs.Ytmmoenleldcadaa.HW Go.Proofs.Ytmmoenleldcadaa.MB Go.Proofs.Ytmmoenleldcadaa.Fn
attribute [local go_sem] max2_int min2_int max_two min_two max_three min_three max_four min_four   -- for this text's walks alone
/-- Nil, or a table that nobody made. -/
def NT (W : World) (p : Option Addr) : Prop := p = none ∨ ∃ z, p = some ⟨z, 0, none⟩ ∧ TabS W z (.slice none 0 0) (.slice none 0 0) (fun _ => 0) (.slice none 0 0) 0
theorem NT.below {W W' : World} {p : Option Addr} (h : NT W p) (hb : Below W.heap.size W W') : NT W' p := by
  rcases h with rfl | ⟨z, rfl, hz⟩
  · exact Or.inl rfl
  · exact Or.inr ⟨z, rfl, hz.below hb⟩
set_option maxRecDepth 100000 in
set_option maxHeartbeats 4000000 in
theorem symbol_no {W : World} {p : Option Addr} (h : NT W p) (g : Nat) : Calls Try.prog 27 #[.pointer p, .pointer (some ⟨g, 0, none⟩)] W fun e w' => e = .returned (.tuple #[.int .i64 0, .int .i64 1]) ∧ W = w' := by
  have q1 := eql_some
  have q2 := eql_none
  rcases h with rfl | ⟨z, rfl, hz⟩
  · go_enter Try.func27, Try.ntmps27
    go_wp2_with fail
    go_ret2
    exact ⟨rfl, rfl⟩
  · have c0 := hz.c0
    clear hz
    go_enter Try.func27, Try.ntmps27
    go_wp2_with fail
    go_ret2
    exact ⟨rfl, rfl⟩
set_option maxRecDepth 100000 in
set_option maxHeartbeats 4000000 in
theorem put_no {W : World} {p : Option Addr} (h : NT W p) (g : Nat) (n : Int) : Calls Try.prog 30 #[.pointer p, .pointer (some ⟨g, 0, none⟩), .int .i64 n] W fun e w' => e = .returned (.int .i64 1) ∧ W = w' := by
  rcases h with rfl | ⟨z, rfl, hz⟩
  · go_enter Try.func30, Try.ntmps30
    go_wp2_with fail
    go_ret
    exact ⟨rfl, rfl⟩
  · have c0 := hz.c0
    clear hz
    by_cases h1 : n < 0
    · have b1 : decide (n < 0) = true := decide_eq_true h1
      go_enter Try.func30, Try.ntmps30
      go_wp2_with fail
      go_ret
      exact ⟨rfl, rfl⟩
    · have b1 : decide (n < 0) = false := decide_eq_false h1
      have b2 : decide ((0 : Int) ≤ n) = true := decide_eq_true (by omega)
      have b3 : (0 : Int) ≤ n := by omega
      go_enter Try.func30, Try.ntmps30
      go_wp2_with fail
      go_ret
      exact ⟨rfl, rfl⟩
set_option maxRecDepth 100000 in
set_option maxHeartbeats 4000000 in
theorem symbol_nilR {W : World} {B t : Nat} {lens : List Int} {lv wv sv : Value} (h : IsTab W B t lens lv wv sv) : Calls Try.prog 27 #[.pointer (some ⟨t, 0, none⟩), .pointer none] W fun e w' => e = .returned (.tuple #[.int .i64 0, .int .i64 1]) ∧ W = w' := by
  have q1 := eql_some
  have c0 := h.bt.c0
  obtain ⟨lA, lc, hlv⟩ := Kd.R_slice h.rl
  have hnn := h.nn
  rw [hlv] at hnn c0
  cases lA with
  | none => obtain ⟨b, hb⟩ := hnn; cases hb
  | some la =>
    clear h hlv hnn
    go_enter Try.func27, Try.ntmps27
    go_wp2_with fail
    go_ret2
    exact ⟨rfl, rfl⟩
set_option maxRecDepth 100000 in
set_option maxHeartbeats 4000000 in
theorem put_nilW (t : Nat) (n : Int) (W : World) : Calls Try.prog 30 #[.pointer (some ⟨t, 0, none⟩), .pointer none, .int .i64 n] W fun e w' => e = .returned (.int .i64 1) ∧ W = w' := by
  go_enter Try.func30, Try.ntmps30
  go_wp2_with fail
  go_ret
  exact ⟨rfl, rfl⟩
end Go.Proofs.Ytmmoenleldcadaa.HF
