/- How rows of strings read. -/
import Derived.Test.YteffjbjhkaobfaaHRow
import Derived.Test.YteffjbjhkaobfaaFnx0
namespace Go.Proofs.Yteffjbjhkaobfaa.HR
open Go.RowKit Go.Proofs.YteffjbjhkaobfaaW.PrintWords Go.Proofs.Yteffjbjhkaobfaa.Fn
def shStr : Sh Try.prog ByteArray := Sh.string 9 Try.underlying9 (by kernel_rfl)
def shStrs : Sh Try.prog (List ByteArray) := Sh.slice shStr 41 Try.underlying41 (by kernel_rfl)
end Go.Proofs.Yteffjbjhkaobfaa.HR
