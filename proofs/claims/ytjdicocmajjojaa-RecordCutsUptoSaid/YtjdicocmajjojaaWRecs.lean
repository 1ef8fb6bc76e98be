/- The walks of layer 9's laws, but Reads. -/
import Derived.Test.YtjdicocmajjojaaPRec4
import Derived.OpenShut
namespace Go.Proofs.Ytjdicocmajjojaa.HR
open Go.RowKit Go.Proofs.YtjdicocmajjojaaW.PrintWords Go.Proofs.Ytjdicocmajjojaa.Fn
theorem bytes_walk (A : Option Addr) (c : Nat) (l : List S28) (b : Int) (wb : (Lit.int .i64 b).wf = true) (W0 : World) (hr : shRec.d.C W0 A l.length l) (hc : l.length ≤ c) (ok : (∀ a ∈ l, shRec.ok a) ∧ l.length ≤ 9223372036854775807) (hk : shRecs.wt l + 1 ≤ 1048576) :
    Calls Try.prog 3 #[.slice A l.length c, .int .i64 b] W0 fun e w' => e = .returned (.bool true) ∧ Below W0.heap.size W0 w' := by
  have hl := recs_len l
  rw [shRecs_wt] at hk
  obtain ⟨k, hk⟩ := PZ.RecordBytes l b (by omega)
  exact postroadlaw09_RecordBytes.calls k A c l b true W0 hr hc hk
theorem back_walk (A : Option Addr) (c : Nat) (l : List S28) (b : Int) (wb : (Lit.int .i64 b).wf = true) (W0 : World) (hr : shRec.d.C W0 A l.length l) (hc : l.length ≤ c) (ok : (∀ a ∈ l, shRec.ok a) ∧ l.length ≤ 9223372036854775807) (hk : shRecs.wt l + 1 ≤ 1048576) :
    Calls Try.prog 5 #[.slice A l.length c, .int .i64 b] W0 fun e w' => e = .returned (.bool true) ∧ Below W0.heap.size W0 w' := by
  rw [shRecs_wt] at hk
  obtain ⟨k, hk⟩ := PZ.RecordBack l b (by omega)
  exact postroadlaw09_RecordBack.calls k A c l b true W0 hr hc hk
theorem joins_walk (A : Option Addr) (c : Nat) (l : List S28) (A2 : Option Addr) (c2 : Nat) (m : List S28) (b : Int) (wb : (Lit.int .i64 b).wf = true) (W0 : World) (hr : shRec.d.C W0 A l.length l) (hc : l.length ≤ c) (ok : (∀ a ∈ l, shRec.ok a) ∧ l.length ≤ 9223372036854775807)
    (hr2 : shRec.d.C W0 A2 m.length m) (hc2 : m.length ≤ c2) (ok2 : (∀ a ∈ m, shRec.ok a) ∧ m.length ≤ 9223372036854775807) (hk : shRecs.wt l + shRecs.wt m + 1 ≤ 1048576) :
    Calls Try.prog 6 #[.slice A l.length c, .slice A2 m.length c2, .int .i64 b] W0 fun e w' => e = .returned (.bool true) ∧ Below W0.heap.size W0 w' := by
  rw [shRecs_wt, shRecs_wt] at hk
  obtain ⟨k, hk⟩ := PZ.RecordJoins l m b (by omega)
  exact postroadlaw09_RecordJoins.calls k A c l A2 c2 m b true W0 hr hc hr2 hc2 hk
theorem shifts_walk (A : Option Addr) (c : Nat) (l : List S28) (b : Int) (wb : (Lit.int .i64 b).wf = true) (d : Int) (wd : (Lit.int .i64 d).wf = true) (W0 : World) (hr : shRec.d.C W0 A l.length l) (hc : l.length ≤ c) (ok : (∀ a ∈ l, shRec.ok a) ∧ l.length ≤ 9223372036854775807) (hk : shRecs.wt l + 1 + 1 ≤ 1048576) :
    Calls Try.prog 7 #[.slice A l.length c, .int .i64 b, .int .i64 d] W0 fun e w' => e = .returned (.bool true) ∧ Below W0.heap.size W0 w' := by
  rw [shRecs_wt] at hk
  obtain ⟨k, hk⟩ := PZ.RecordShifts l b d (by omega)
  exact postroadlaw09_RecordShifts.calls k A c l b d true W0 hr hc hk
theorem cuts_walk (A : Option Addr) (c : Nat) (l : List S28) (b : Int) (wb : (Lit.int .i64 b).wf = true) (d : Int) (wd : (Lit.int .i64 d).wf = true) (W0 : World) (hr : shRec.d.C W0 A l.length l) (hc : l.length ≤ c) (ok : (∀ a ∈ l, shRec.ok a) ∧ l.length ≤ 9223372036854775807) (hk : shRecs.wt l + 1 + 1 ≤ 1048576) :
    Calls Try.prog 8 #[.slice A l.length c, .int .i64 b, .int .i64 d] W0 fun e w' => e = .returned (.bool true) ∧ Below W0.heap.size W0 w' := by
  rw [shRecs_wt] at hk
  obtain ⟨k, hk⟩ := PZ.RecordCuts l b d (by omega)
  exact postroadlaw09_RecordCuts.calls k A c l b d true W0 hr hc hk
end Go.Proofs.Ytjdicocmajjojaa.HR
