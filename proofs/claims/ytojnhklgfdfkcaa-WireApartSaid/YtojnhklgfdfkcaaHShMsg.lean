/- How the messages of layer 14's laws read. -/
import Derived.Test.YtojnhklgfdfkcaaHShRec
namespace Go.Proofs.Ytojnhklgfdfkcaa.HR
open Go.RowKit Go.Proofs.YtojnhklgfdfkcaaW.PrintWords Go.Proofs.Ytojnhklgfdfkcaa.Fn
structure Msg where
  n0 : Int
  n1 : Int
  n2 : Int
  n3 : Int
  n4 : Int
  n5 : Int
  n6 : Int
  n7 : Int
  n8 : Int
  n9 : Int
  n10 : Int
  log : List ByteArray
  body : List S63
def shE : Sh Try.prog Int := Sh.int .i64 22 Try.underlying22 (by kernel_rfl)
def flId : Fl Try.prog (Int × Int) :=
  Fl.cons shI { name := "Producer", type := 3, offset := 0, embedded := false, tag := "", pkgPath := "", byteOffset := 0 } rfl
  (Fl.one shI { name := "Seq", type := 3, offset := 1, embedded := false, tag := "", pkgPath := "", byteOffset := 8 } rfl) rfl rfl
def shId : Sh Try.prog (Int × Int) := Sh.struct flId (fun x : Int × Int => x) (fun b => b) (fun _ => rfl) 24 Try.underlying24 rfl (by kernel_rfl)
def shLog : Sh Try.prog (List ByteArray) := Sh.slice shS 25 Try.underlying25 (by kernel_rfl)
def flMsg : Fl Try.prog (Int × Int × Int × Int × Int × Int × Int × Int × (Int × Int) × Int × List ByteArray × List S63) :=
  Fl.cons shI { name := "Kind", type := 3, offset := 0, embedded := false, tag := "", pkgPath := "", byteOffset := 0 } rfl
  (Fl.cons shI { name := "From", type := 3, offset := 1, embedded := false, tag := "", pkgPath := "", byteOffset := 8 } rfl
  (Fl.cons shI { name := "To", type := 3, offset := 2, embedded := false, tag := "", pkgPath := "", byteOffset := 16 } rfl
  (Fl.cons shI { name := "View", type := 3, offset := 3, embedded := false, tag := "", pkgPath := "", byteOffset := 24 } rfl
  (Fl.cons shI { name := "Normal", type := 3, offset := 4, embedded := false, tag := "", pkgPath := "", byteOffset := 32 } rfl
  (Fl.cons shI { name := "End", type := 3, offset := 5, embedded := false, tag := "", pkgPath := "", byteOffset := 40 } rfl
  (Fl.cons shI { name := "Commit", type := 3, offset := 6, embedded := false, tag := "", pkgPath := "", byteOffset := 48 } rfl
  (Fl.cons shE { name := "Err", type := 22, offset := 7, embedded := false, tag := "", pkgPath := "", byteOffset := 56 } rfl
  (Fl.cons shId { name := "Id", type := 24, offset := 8, embedded := false, tag := "", pkgPath := "", byteOffset := 64 } rfl
  (Fl.cons shI { name := "Base", type := 3, offset := 10, embedded := false, tag := "", pkgPath := "", byteOffset := 80 } rfl
  (Fl.cons shLog { name := "Log", type := 25, offset := 11, embedded := false, tag := "", pkgPath := "", byteOffset := 88 } rfl
  (Fl.one shRecs { name := "Body", type := 26, offset := 12, embedded := false, tag := "", pkgPath := "", byteOffset := 112 } rfl) rfl rfl) rfl rfl) rfl rfl) rfl rfl) rfl rfl) rfl rfl) rfl rfl) rfl rfl) rfl rfl) rfl rfl) rfl rfl
def shMsg : Sh Try.prog Msg := Sh.struct flMsg (fun x : Msg => (x.n0, x.n1, x.n2, x.n3, x.n4, x.n5, x.n6, x.n7, (x.n8, x.n9), x.n10, x.log, x.body)) (fun b => ⟨b.1, b.2.1, b.2.2.1, b.2.2.2.1, b.2.2.2.2.1, b.2.2.2.2.2.1, b.2.2.2.2.2.2.1, b.2.2.2.2.2.2.2.1, b.2.2.2.2.2.2.2.2.1.1, b.2.2.2.2.2.2.2.2.1.2, b.2.2.2.2.2.2.2.2.2.1, b.2.2.2.2.2.2.2.2.2.2.1, b.2.2.2.2.2.2.2.2.2.2.2⟩) (fun _ => rfl) 28 Try.underlying28 rfl (by kernel_rfl)
/-- A message's cells. -/
def Msg.cells (x : Msg) (v11 v12 : Value) : List Value := [.int .i64 x.n0, .int .i64 x.n1, .int .i64 x.n2, .int .i64 x.n3, .int .i64 x.n4, .int .i64 x.n5, .int .i64 x.n6, .int .i64 x.n7, .int .i64 x.n8, .int .i64 x.n9, .int .i64 x.n10, v11, v12]
theorem shMsg_open {w : World} {x : Msg} {cs : List Value} (h : shMsg.d.K w x cs) : ∃ A11 c11 A12 c12, cs = x.cells (.slice A11 x.log.length c11) (.slice A12 x.body.length c12) ∧ x.log.length ≤ c11 ∧ Kd.C Kd.string w A11 x.log.length x.log ∧ x.body.length ≤ c12 ∧ Kd.C k63 w A12 x.body.length x.body := by
  obtain ⟨_, _, rfl, rfl, _, _, rfl, rfl, _, _, rfl, rfl, _, _, rfl, rfl, _, _, rfl, rfl, _, _, rfl, rfl, _, _, rfl, rfl, _, _, rfl, rfl, _, _, rfl, ⟨_, _, rfl, rfl, rfl⟩, _, _, rfl, rfl, _, _, rfl, ⟨A11, c11, rfl, h11, k11⟩, ⟨A12, c12, rfl, h12, k12⟩⟩ := h
  exact ⟨A11, c11, A12, c12, rfl, h11, k11, h12, k12⟩
end Go.Proofs.Ytojnhklgfdfkcaa.HR
