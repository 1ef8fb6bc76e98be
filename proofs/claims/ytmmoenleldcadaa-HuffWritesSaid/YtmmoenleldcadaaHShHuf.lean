/- How the numbers of layer 3's laws read. -/
import Derived.Test.YtmmoenleldcadaaHRow
import Derived.Test.YtmmoenleldcadaaFnx0
namespace Go.Proofs.Ytmmoenleldcadaa.HR
open Go.RowKit Go.Proofs.YtmmoenleldcadaaW.PrintWords Go.Proofs.Ytmmoenleldcadaa.Fn
def shI : Sh Try.prog Int := Sh.int .i64 3 Try.underlying3 (by kernel_rfl)
def shInts : Sh Try.prog (List Int) := Sh.slice shI 22 Try.underlying22 (by kernel_rfl)
end Go.Proofs.Ytmmoenleldcadaa.HR
