/- WireApart, plain. -/
import Derived.Test.YtojnhklgfdfkcaaPLawW
import Derived.Test.YtojnhklgfdfkcaaFApart
namespace Go.Proofs.Ytojnhklgfdfkcaa.WK
open Go.RowKit Go.Proofs.YtojnhklgfdfkcaaW.PrintWords Go.Proofs.YtojnhklgfdfkcaaW.PrintLast Go.Proofs.YtojnhklgfdfkcaaW.PrintMore Go.Proofs.Ytojnhklgfdfkcaa.MB Go.Proofs.Ytojnhklgfdfkcaa.HW Go.Proofs.Ytojnhklgfdfkcaa.Fn Go.Proofs.Ytojnhklgfdfkcaa.PV Go.Proofs.Ytojnhklgfdfkcaa.RB Go.Proofs.Ytojnhklgfdfkcaa.RO Go.Proofs.Ytojnhklgfdfkcaa.PZ
theorem WireApart_f (a0 a1 a2 a3 a4 a5 a6 a7 a8 a9 a10 : Int) (la : List ByteArray) (ba : List S63) (b0 b1 b2 b3 b4 b5 b6 b7 b8 b9 b10 : Int) (lb : List ByteArray) (bb : List S63) : postroadlaw14_WireApart.f 2 a0 a1 a2 a3 a4 a5 a6 a7 a8 a9 a10 la ba b0 b1 b2 b3 b4 b5 b6 b7 b8 b9 b10 lb bb = some true := by
  unfold postroadlaw14_WireApart.f wire_Bytes.f
  obtain ⟨⟨s, e⟩, hw⟩ : ∃ v, wireB [a0, a1, a2, a3, a4, a5, a6, a7, a8, a9, a10] la ba = v := ⟨_, rfl⟩
  obtain ⟨⟨t, f⟩, hv⟩ : ∃ v, wireB [b0, b1, b2, b3, b4, b5, b6, b7, b8, b9, b10] lb bb = v := ⟨_, rfl⟩
  rw [hw, hv, Option.bind_some, Option.bind_some]
  simp only
  by_cases he : e = 0
  · subst he
    rw [if_pos rfl]
    by_cases hf : f = 0
    · subst hf
      have hok := okMsg_len (wireB_ok rfl hw).1
      rw [show ((0 : Int) != 0) = false from rfl, postroadlaw14_WireApart.j0, if_neg (by decide)]
      unfold postroadref14_Same.f
      rw [if_pos hok, Option.bind_some]
      have key : (s.toList == t.toList) = sameMsg [a0, a1, a2, a3, a4, a5, a6, a7, a8, a9, a10] [b0, b1, b2, b3, b4, b5, b6, b7, b8, b9, b10] la lb ba bb := by
        rw [Bool.eq_iff_iff, list_ba, sameMsg_iff]
        constructor
        · rintro rfl
          exact wire_inj rfl rfl hw hv
        · rintro ⟨h1, h2, h3⟩
          rw [h1, h2, h3, hv] at hw
          simp only [Prod.mk.injEq, and_true] at hw
          exact hw.symm
      rw [key, beq_self_eq_true, if_pos rfl]
      rfl
    · have : (f != 0) = true := by simpa using hf
      rw [this, postroadlaw14_WireApart.j0, if_pos rfl]
      rfl
  · rw [if_neg he, postroadlaw14_WireApart.j0, if_pos rfl]
    rfl
end Go.Proofs.Ytojnhklgfdfkcaa.WK
