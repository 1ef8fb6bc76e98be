/- WireBytes, plain. -/
import Derived.Test.YtojnhklgfdfkcaaPBytes14
import Derived.Test.YtojnhklgfdfkcaaFWB
namespace Go.Proofs.Ytojnhklgfdfkcaa.WK
open Go.RowKit Go.Proofs.YtojnhklgfdfkcaaW.PrintWords Go.Proofs.YtojnhklgfdfkcaaW.PrintLast Go.Proofs.YtojnhklgfdfkcaaW.PrintMore Go.Proofs.Ytojnhklgfdfkcaa.MB Go.Proofs.Ytojnhklgfdfkcaa.HW Go.Proofs.Ytojnhklgfdfkcaa.Fn Go.Proofs.Ytojnhklgfdfkcaa.PV Go.Proofs.Ytojnhklgfdfkcaa.RB Go.Proofs.Ytojnhklgfdfkcaa.RO Go.Proofs.Ytojnhklgfdfkcaa.PZ
theorem WireBytes_f (a0 a1 a2 a3 a4 a5 a6 a7 a8 a9 a10 : Int) (log : List ByteArray) (body : List S63) : postroadlaw14_WireBytes.f 6000 a0 a1 a2 a3 a4 a5 a6 a7 a8 a9 a10 log body = some true := by
  unfold postroadlaw14_WireBytes.f wire_Bytes.f wire_Check.f postroadref14_Check.f postroadref14_May.f postroadlaw14_awake.f
  rw [rbytes14_f, Option.bind_some, Option.bind_some, if_pos rfl, if_pos rfl, Option.bind_some, Option.bind_some]
  by_cases hok : okMsg [a0, a1, a2, a3, a4, a5, a6, a7, a8, a9, a10] log body = true
  · rw [if_pos hok, if_pos hok]; rfl
  · rw [if_neg hok, if_neg hok]; rfl
end Go.Proofs.Ytojnhklgfdfkcaa.WK
