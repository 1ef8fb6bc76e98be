/- WireCuts, as its row asks it. -/
import Derived.Test.YtojnhklgfdfkcaaPCuts
import Derived.Test.YtojnhklgfdfkcaaHShMsg
import Derived.OpenShut
namespace Go.Proofs.Ytojnhklgfdfkcaa.HR
open Go.RowKit Go.Proofs.YtojnhklgfdfkcaaW.PrintWords Go.Proofs.Ytojnhklgfdfkcaa.Fn
theorem wcuts_walk (x : Msg) (cs : Array Value) (cut : Int) (wc : (Lit.int .i64 cut).wf = true) (W0 : World) (hK : shMsg.d.K W0 x cs.toList) (ok : shMsg.ok x) : Calls Try.prog 7 #[.agg cs, .int .i64 cut] W0 fun e w' => e = .returned (.bool true) ∧ Below W0.heap.size W0 w' := by
  obtain ⟨A11, c11, A12, c12, hcs, h11, k11, h12, k12⟩ := shMsg_open hK
  obtain rfl : cs = (x.cells (.slice A11 x.log.length c11) (.slice A12 x.body.length c12)).toArray := by rw [← hcs]
  exact postroadlaw14_WireCuts.calls 2 x.n0 x.n1 x.n2 x.n3 x.n4 x.n5 x.n6 x.n7 x.n8 x.n9 x.n10 A11 c11 x.log A12 c12 x.body cut true W0 k11 h11 k12 h12 (WK.WireCuts_f x.n0 x.n1 x.n2 x.n3 x.n4 x.n5 x.n6 x.n7 x.n8 x.n9 x.n10 x.log x.body cut)
end Go.Proofs.Ytojnhklgfdfkcaa.HR
