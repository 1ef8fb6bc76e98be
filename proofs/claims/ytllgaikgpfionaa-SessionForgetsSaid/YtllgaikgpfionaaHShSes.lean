/- How the ids and numbers of layer 15's laws read. -/
import Derived.Test.YtllgaikgpfionaaHRow
import Derived.Test.YtllgaikgpfionaaFnx0
namespace Go.Proofs.Ytllgaikgpfionaa.HR
open Go.RowKit Go.Proofs.YtllgaikgpfionaaW.PrintWords Go.Proofs.Ytllgaikgpfionaa.Fn
def shI : Sh Try.prog Int := Sh.int .i64 3 Try.underlying3 (by kernel_rfl)
def flId : Fl Try.prog (Int × Int) :=
  Fl.cons shI { name := "Producer", type := 3, offset := 0, embedded := false, tag := "", pkgPath := "", byteOffset := 0 } rfl
  (Fl.one shI { name := "Seq", type := 3, offset := 1, embedded := false, tag := "", pkgPath := "", byteOffset := 8 } rfl) rfl rfl
def shId : Sh Try.prog (Int × Int) := Sh.struct flId (fun x : Int × Int => x) (fun b => b) (fun _ => rfl) 30 Try.underlying30 rfl (by kernel_rfl)
def shIds : Sh Try.prog (List (Int × Int)) := Sh.slice shId 22 Try.underlying22 (by kernel_rfl)
def shInts : Sh Try.prog (List Int) := Sh.slice shI 23 Try.underlying23 (by kernel_rfl)
theorem id_open {w : World} {x : Int × Int} {cs : List Value} (h : shId.d.K w x cs) : cs = [.int .i64 x.1, .int .i64 x.2] := by
  obtain ⟨_, _, rfl, rfl, rfl⟩ := h
  exact rfl
end Go.Proofs.Ytllgaikgpfionaa.HR
