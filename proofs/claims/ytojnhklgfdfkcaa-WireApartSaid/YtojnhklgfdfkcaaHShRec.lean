/- How the records of layer 9's laws read. -/
import Derived.Test.YtojnhklgfdfkcaaHRow
import Derived.Test.YtojnhklgfdfkcaaFnx0
namespace Go.Proofs.Ytojnhklgfdfkcaa.HR
open Go.RowKit Go.Proofs.YtojnhklgfdfkcaaW.PrintWords Go.Proofs.Ytojnhklgfdfkcaa.Fn
def shI : Sh Try.prog Int := Sh.int .i64 3 Try.underlying3 (by kernel_rfl)
def shS : Sh Try.prog ByteArray := Sh.string 9 Try.underlying9 (by kernel_rfl)
def shB : Sh Try.prog Bool := Sh.bool 4 Try.underlying4 (by kernel_rfl)
def flRec : Fl Try.prog (Int × ByteArray × ByteArray × Bool) :=
  Fl.cons shI { name := "Offset", type := 3, offset := 0, embedded := false, tag := "", pkgPath := "", byteOffset := 0 } rfl
  (Fl.cons shS { name := "Key", type := 9, offset := 1, embedded := false, tag := "", pkgPath := "", byteOffset := 8 } rfl
  (Fl.cons shS { name := "Value", type := 9, offset := 2, embedded := false, tag := "", pkgPath := "", byteOffset := 24 } rfl
  (Fl.one shB { name := "Gone", type := 4, offset := 3, embedded := false, tag := "", pkgPath := "", byteOffset := 40 } rfl) rfl rfl) rfl rfl) rfl rfl
def shRec : Sh Try.prog S63 := Sh.struct flRec (fun x : S63 => (x.f0, x.f1, x.f2, x.f3)) (fun b => ⟨b.1, b.2.1, b.2.2.1, b.2.2.2⟩) (fun _ => rfl) 63 Try.underlying63 rfl (by kernel_rfl)
theorem shRec_d : shRec.d = k63 := rfl
theorem shRec_wt (r : S63) : shRec.wt r = 1 + ((r.f1.size + 1) + ((r.f2.size + 1) + 1)) + 1 := rfl
def shRecs : Sh Try.prog (List S63) := Sh.slice shRec 26 Try.underlying26 (by kernel_rfl)
theorem shRecs_wt (l : List S63) : shRecs.wt l = Sh.wts shRec.wt l + 1 := rfl
theorem recs_len (l : List S63) : l.length ≤ Sh.wts shRec.wt l := by
  induction l with
  | nil => exact Nat.zero_le _
  | cons r t ih => rw [Sh.wts_cons, List.length_cons, shRec_wt]; omega
end Go.Proofs.Ytojnhklgfdfkcaa.HR
