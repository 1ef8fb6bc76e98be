/- WireCuts, plain. -/
import Derived.Test.YtojnhklgfdfkcaaPLawW
import Derived.Test.YtojnhklgfdfkcaaFCuts
namespace Go.Proofs.Ytojnhklgfdfkcaa.WK
open Go.RowKit Go.Proofs.YtojnhklgfdfkcaaW.PrintWords Go.Proofs.YtojnhklgfdfkcaaW.PrintLast Go.Proofs.YtojnhklgfdfkcaaW.PrintMore Go.Proofs.Ytojnhklgfdfkcaa.MB Go.Proofs.Ytojnhklgfdfkcaa.HW Go.Proofs.Ytojnhklgfdfkcaa.Fn Go.Proofs.Ytojnhklgfdfkcaa.PV Go.Proofs.Ytojnhklgfdfkcaa.RB Go.Proofs.Ytojnhklgfdfkcaa.RO Go.Proofs.Ytojnhklgfdfkcaa.PZ
theorem tmod_bd (a b : Int) (hb : 0 < b) : -b < Int.tmod a b ∧ Int.tmod a b < b := by
  have h1 := Int.natAbs_tmod a b
  have h2 := Nat.mod_lt a.natAbs (show 0 < b.natAbs by omega)
  rw [← h1] at h2
  omega
theorem WireCuts_f (a0 a1 a2 a3 a4 a5 a6 a7 a8 a9 a10 : Int) (log : List ByteArray) (body : List S63) (cut : Int) : postroadlaw14_WireCuts.f 2 a0 a1 a2 a3 a4 a5 a6 a7 a8 a9 a10 log body cut = some true := by
  unfold postroadlaw14_WireCuts.f wire_Bytes.f
  obtain ⟨⟨s, e⟩, hw⟩ : ∃ v, wireB [a0, a1, a2, a3, a4, a5, a6, a7, a8, a9, a10] log body = v := ⟨_, rfl⟩
  rw [hw, Option.bind_some]
  simp only
  by_cases he : e = 0
  · subst he
    have hpos := wireB_pos rfl hw
    obtain ⟨_, _, hsz⟩ := wireB_ok rfl hw
    have hcut : ∀ n : Int, 0 ≤ n → n < (s.size : Int) → wire_Of.f (s.extract 0 n.toNat) = some (0, 0, 0, 0, 0, 0, 0, 0, 0, 0, 0, [], [], 140) := fun n h0 h1 => wf_bad (wire_cut rfl hw n.toNat (by omega))
    have hsame := same_refl 1 0 0 0 0 0 0 0 0 0 0 0 [] [] (by decide) (by decide)
    obtain ⟨b1, b2⟩ := tmod_bd cut (s.size : Int) (by omega)
    have hb : ((s.size : Int) == 0) = false := beq_eq_false_iff_ne.2 (by omega)
    rw [if_pos rfl, hb, postroadlaw14_WireCuts.j0, if_neg (by decide), if_neg (by omega)]
    by_cases ht : Int.tmod cut (s.size : Int) < 0
    · have hwr : wrap64 (-(Int.tmod cut (s.size : Int))) = -(Int.tmod cut (s.size : Int)) := wrap64_id _ (by omega) (by omega)
      rw [if_pos ht, hwr, if_pos (by omega), if_pos (by omega), hcut _ (by omega) (by omega), Option.bind_some]
      simp only
      rw [if_pos trivial, hsame, Option.bind_some, if_pos rfl]
      rfl
    · rw [if_neg ht, if_pos (by omega), if_pos (by omega), hcut _ (by omega) (by omega), Option.bind_some]
      simp only
      rw [if_pos trivial, hsame, Option.bind_some, if_pos rfl]
      rfl
  · rw [if_neg he, postroadlaw14_WireCuts.j0, if_pos rfl, if_neg he]
    rfl
end Go.Proofs.Ytojnhklgfdfkcaa.WK
