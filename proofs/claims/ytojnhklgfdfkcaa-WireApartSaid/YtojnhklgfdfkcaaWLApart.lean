/- WireApart, as its row asks it. -/
import Derived.Test.YtojnhklgfdfkcaaPApart
import Derived.Test.YtojnhklgfdfkcaaHShMsg
import Derived.OpenShut
namespace Go.Proofs.Ytojnhklgfdfkcaa.HR
open Go.RowKit Go.Proofs.YtojnhklgfdfkcaaW.PrintWords Go.Proofs.Ytojnhklgfdfkcaa.Fn
theorem wapart_walk (x : Msg) (cs : Array Value) (y : Msg) (ds : Array Value) (W0 : World) (hK : shMsg.d.K W0 x cs.toList) (ok : shMsg.ok x) (hK2 : shMsg.d.K W0 y ds.toList) (ok2 : shMsg.ok y) : Calls Try.prog 8 #[.agg cs, .agg ds] W0 fun e w' => e = .returned (.bool true) ∧ Below W0.heap.size W0 w' := by
  obtain ⟨A11, c11, A12, c12, hcs, h11, k11, h12, k12⟩ := shMsg_open hK
  obtain rfl : cs = (x.cells (.slice A11 x.log.length c11) (.slice A12 x.body.length c12)).toArray := by rw [← hcs]
  obtain ⟨B11, d11, B12, d12, hds, j11, l11, j12, l12⟩ := shMsg_open hK2
  obtain rfl : ds = (y.cells (.slice B11 y.log.length d11) (.slice B12 y.body.length d12)).toArray := by rw [← hds]
  exact postroadlaw14_WireApart.calls 2 x.n0 x.n1 x.n2 x.n3 x.n4 x.n5 x.n6 x.n7 x.n8 x.n9 x.n10 A11 c11 x.log A12 c12 x.body y.n0 y.n1 y.n2 y.n3 y.n4 y.n5 y.n6 y.n7 y.n8 y.n9 y.n10 B11 d11 y.log B12 d12 y.body true W0 k11 h11 k12 h12 l11 j11 l12 j12 (WK.WireApart_f x.n0 x.n1 x.n2 x.n3 x.n4 x.n5 x.n6 x.n7 x.n8 x.n9 x.n10 x.log x.body y.n0 y.n1 y.n2 y.n3 y.n4 y.n5 y.n6 y.n7 y.n8 y.n9 y.n10 y.log y.body)
end Go.Proofs.Ytojnhklgfdfkcaa.HR
