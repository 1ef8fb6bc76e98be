/- RecordReads, walked. -/
import Derived.Test.YtjdicocmajjojaaPRec6
import Derived.OpenShut
namespace Go.Proofs.Ytjdicocmajjojaa.HR
open Go.RowKit Go.Proofs.YtjdicocmajjojaaW.PrintWords Go.Proofs.Ytjdicocmajjojaa.Fn
theorem reads_walk (s : ByteArray) (hs : s.size ≤ 140737488351232) (b : Int) (wb : (Lit.int .i64 b).wf = true) (n : Int) (wn : (Lit.int .i64 n).wf = true) (W0 : World) (hk : (s.size + 1) + 1 + 1 ≤ 1048576) :
    Calls Try.prog 4 #[.string s, .int .i64 b, .int .i64 n] W0 fun e w' => e = .returned (.bool true) ∧ Below W0.heap.size W0 w' := by
  obtain ⟨k, hk⟩ := PZ.RecordReads s (by omega) b n
  exact postroadlaw09_RecordReads.calls k s b n true W0 hk
end Go.Proofs.Ytjdicocmajjojaa.HR
