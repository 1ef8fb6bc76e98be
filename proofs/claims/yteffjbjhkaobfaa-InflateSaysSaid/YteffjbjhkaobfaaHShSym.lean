/- How what a block says reads. -/
import Derived.Test.YteffjbjhkaobfaaHRow
import Derived.Test.YteffjbjhkaobfaaFnx0
namespace Go.Proofs.Yteffjbjhkaobfaa.HR
open Go.RowKit Go.Proofs.YteffjbjhkaobfaaW.PrintWords Go.Proofs.Yteffjbjhkaobfaa.Fn
def shI : Sh Try.prog Int := Sh.int .i64 3 Try.underlying3 (by kernel_rfl)
def flSym : Fl Try.prog (Int × Int) :=
  Fl.cons shI { name := "Far", type := 3, offset := 0, embedded := false, tag := "", pkgPath := "", byteOffset := 0 } rfl
  (Fl.one shI { name := "N", type := 3, offset := 1, embedded := false, tag := "", pkgPath := "", byteOffset := 8 } rfl) rfl rfl
def shSym : Sh Try.prog (Int × Int) := Sh.struct flSym (fun x => x) (fun x => x) (fun _ => rfl) 35 Try.underlying35 rfl (by kernel_rfl)
def shSyms : Sh Try.prog (List (Int × Int)) := Sh.slice shSym 28 Try.underlying28 (by kernel_rfl)
end Go.Proofs.Yteffjbjhkaobfaa.HR
