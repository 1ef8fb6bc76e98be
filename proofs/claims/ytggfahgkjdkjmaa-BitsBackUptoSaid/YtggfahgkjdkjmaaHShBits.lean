/- How the calls' list of layer 1's laws reads. -/
import Derived.Test.YtggfahgkjdkjmaaHRow
import Derived.Test.YtggfahgkjdkjmaaFnx0
namespace Go.Proofs.Ytggfahgkjdkjmaa.HR
open Go.RowKit Go.Proofs.YtggfahgkjdkjmaaW.PrintWords Go.Proofs.Ytggfahgkjdkjmaa.Fn
def shI : Sh Try.prog Int := Sh.int .i64 3 Try.underlying3 (by kernel_rfl)
def shS : Sh Try.prog ByteArray := Sh.string 9 Try.underlying9 (by kernel_rfl)
def flOp : Fl Try.prog (Int × Int × Int × ByteArray) :=
  Fl.cons shI { name := "Kind", type := 3, offset := 0, embedded := false, tag := "", pkgPath := "", byteOffset := 0 } rfl
  (Fl.cons shI { name := "X", type := 3, offset := 1, embedded := false, tag := "", pkgPath := "", byteOffset := 8 } rfl
  (Fl.cons shI { name := "N", type := 3, offset := 2, embedded := false, tag := "", pkgPath := "", byteOffset := 16 } rfl
  (Fl.one shS { name := "Text", type := 9, offset := 3, embedded := false, tag := "", pkgPath := "", byteOffset := 24 } rfl) rfl rfl) rfl rfl) rfl rfl
def shOp : Sh Try.prog S44 := Sh.struct flOp (fun x : S44 => (x.f0, x.f1, x.f2, x.f3)) (fun b => ⟨b.1, b.2.1, b.2.2.1, b.2.2.2⟩) (fun _ => rfl) 44 Try.underlying44 rfl (by kernel_rfl)
theorem shOp_d : shOp.d = k44 := rfl
def shOps : Sh Try.prog (List S44) := Sh.slice shOp 41 Try.underlying41 (by kernel_rfl)
end Go.Proofs.Ytggfahgkjdkjmaa.HR
