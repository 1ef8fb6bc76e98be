/- Layer 14's cuts, pairs, long texts: the plain laws. -/
import Derived.Test.YtojnhklgfdfkcaaPWire2
import Derived.Test.YtojnhklgfdfkcaaFA
namespace Go.Proofs.Ytojnhklgfdfkcaa.WK
open Go.RowKit Go.Proofs.YtojnhklgfdfkcaaW.PrintWords Go.Proofs.YtojnhklgfdfkcaaW.PrintLast Go.Proofs.YtojnhklgfdfkcaaW.PrintMore Go.Proofs.Ytojnhklgfdfkcaa.MB Go.Proofs.Ytojnhklgfdfkcaa.HW Go.Proofs.Ytojnhklgfdfkcaa.Fn Go.Proofs.Ytojnhklgfdfkcaa.PV Go.Proofs.Ytojnhklgfdfkcaa.RB Go.Proofs.Ytojnhklgfdfkcaa.RO Go.Proofs.Ytojnhklgfdfkcaa.PZ
theorem wf_bad {s : ByteArray} (h : wireOf s = (List.replicate 11 0, [], [], 140)) : wire_Of.f s = some (0, 0, 0, 0, 0, 0, 0, 0, 0, 0, 0, [], [], 140) := by
  unfold wire_Of.f
  rw [h]
  rfl
theorem wf_at {a0 a1 a2 a3 a4 a5 a6 a7 a8 a9 a10 : Int} {log : List ByteArray} {body : List S63} {s : ByteArray} (h : wireOf s = ([a0, a1, a2, a3, a4, a5, a6, a7, a8, a9, a10], log, body, 0)) : wire_Of.f s = some (a0, a1, a2, a3, a4, a5, a6, a7, a8, a9, a10, log, body, 0) := by
  unfold wire_Of.f
  rw [h]
  rfl
theorem same_refl (k : Nat) (a0 a1 a2 a3 a4 a5 a6 a7 a8 a9 a10 : Int) (log : List ByteArray) (body : List S63) (hl : log.length ≤ 1000000000) (hb : body.length ≤ 1000000000) : postroadref14_Same.f k a0 a1 a2 a3 a4 a5 a6 a7 a8 a9 a10 log body a0 a1 a2 a3 a4 a5 a6 a7 a8 a9 a10 log body = some true := by
  unfold postroadref14_Same.f
  rw [if_pos ⟨hl, hb⟩, (sameMsg_iff _ _ _ _ _ _).2 ⟨rfl, rfl, rfl⟩]
theorem okMsg_len {ns : List Int} {log : List ByteArray} {body : List S63} (h : okMsg ns log body = true) : log.length ≤ 1000000000 ∧ body.length ≤ 1000000000 := by
  have := okMsg_parts h
  omega
end Go.Proofs.Ytojnhklgfdfkcaa.WK
