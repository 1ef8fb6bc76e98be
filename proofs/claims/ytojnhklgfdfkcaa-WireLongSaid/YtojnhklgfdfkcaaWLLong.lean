/- WireLong, as its row asks it. -/
import Derived.Test.YtojnhklgfdfkcaaPLong
import Derived.OpenShut
namespace Go.Proofs.Ytojnhklgfdfkcaa.HR
open Go.RowKit Go.Proofs.YtojnhklgfdfkcaaW.PrintWords Go.Proofs.Ytojnhklgfdfkcaa.Fn
theorem wlong_walk (a : Int) (wa : (Lit.int .i64 a).wf = true) (b : Int) (wb : (Lit.int .i64 b).wf = true) (W0 : World) : Calls Try.prog 6 #[.int .i64 a, .int .i64 b] W0 fun e w' => e = .returned (.bool true) ∧ Below W0.heap.size W0 w' := by
  obtain ⟨k, hk⟩ := WK.WireLong_f a b
  exact postroadlaw14_WireLong.calls k a b true W0 hk
end Go.Proofs.Ytojnhklgfdfkcaa.HR
