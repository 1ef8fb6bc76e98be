/- The walk of BitsReads, out of its printed contract. -/
import Derived.Test.YtggfahgkjdkjmaaPReads
import Derived.Test.YtggfahgkjdkjmaaHShBits
import Derived.OpenShut
namespace Go.Proofs.Ytggfahgkjdkjmaa.HR
open Go.RowKit Go.Proofs.YtggfahgkjdkjmaaW.PrintWords Go.Proofs.Ytggfahgkjdkjmaa.Fn
theorem reads_walk (a0 : ByteArray) (s0 : a0.size ≤ 140737488351232) (A : Option Addr) (c : Nat) (l : List S44) (W0 : World) (hr : shOp.d.C W0 A l.length l) (hc : l.length ≤ c) (ok : (∀ a ∈ l, shOp.ok a) ∧ l.length ≤ 9223372036854775807) :
    Calls Try.prog 7 #[.string a0, .slice A l.length c] W0 fun e w' => e = .returned (.bool true) ∧ Below W0.heap.size W0 w' := by
  obtain ⟨k, hk⟩ := PR.BitsReads a0 s0 l ok.2 (fun x hx => (bounds_i64 (ok.1 x hx).2.2.1).2)
  exact postroadlaw01_BitsReads.calls k a0 A c l true W0 hr hc hk
end Go.Proofs.Ytggfahgkjdkjmaa.HR
