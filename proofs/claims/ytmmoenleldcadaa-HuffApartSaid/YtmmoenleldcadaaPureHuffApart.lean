/- No word begins another (HuffApart): plain. -/
import Derived.Test.YtmmoenleldcadaaFnx5
import Derived.Test.YtmmoenleldcadaaGH
namespace Go.Proofs.Ytmmoenleldcadaa.Pure
open Go.RowKit Go.Proofs.Ytmmoenleldcadaa.Fn Go.Proofs.Ytmmoenleldcadaa.HF Go.Proofs.Ytmmoenleldcadaa.HP Go.Proofs.YtmmoenleldcadaaW.PrintWords Go.Proofs.YtmmoenleldcadaaW.PrintLast Go.Proofs.YtmmoenleldcadaaW.PrintMore
theorem apart_in (l : List Int) (ho : okL l = true) (i : Nat) (hi : i < l.length) (hn : ∃ k, postroadlaw03_HuffApart.l0 k l (codesL l) ((i + 1 : Nat) : Int) = some true) :
    ∀ (d j : Nat), j + d = l.length → ∃ k, postroadlaw03_HuffApart.l1 k l (codesL l) (i : Int) (j : Int) = some true := by
  obtain ⟨o1, o2, o3⟩ := okL_open ho
  have hlen := codesL_len l
  intro d
  induction d with
  | zero =>
    intro j hj
    obtain ⟨k, hk⟩ := hn
    refine ⟨k + 1, ?_⟩
    have w1 : wrap64 ((i : Int) + 1) = ((i + 1 : Nat) : Int) := by unfold wrap64; omega
    have r := o2 l[i] (List.getElem_mem _)
    obtain ⟨L, hL⟩ : ∃ L : Nat, l[i] = L := ⟨l[i].toNat, by omega⟩
    have hz : shr .i64 (rd (codesL l) (i : Int)) (rd l (i : Int)) = 0 := by
      rw [codes_rd l i hi, rd_get l i hi, hL]
      by_cases h0 : 0 < L
      · obtain ⟨f1, f2, f3⟩ := code_fits ho i L hi hL h0
        obtain ⟨u, hu⟩ : ∃ u : Nat, codeAt l i = u := ⟨(codeAt l i).toNat, by omega⟩
        rw [hu] at f3 ⊢
        rw [shr_i64 u L (by omega)]
        have : u < 2 ^ L := by
          have : ((u + 1 : Nat) : Int) ≤ ((2 ^ L : Nat) : Int) := by simpa using f3
          omega
        rw [Nat.div_eq_of_lt this]
        rfl
      · have h1 : L = 0 := by omega
        subst h1
        rw [codeAt_zero l i hi hL]
        exact shr_i64 0 0 (by decide)
    rw [postroadlaw03_HuffApart.l1, if_neg (by omega), if_pos (by omega), if_pos (by rw [hlen]; omega), if_pos (by omega), if_pos (by rw [rd_get l i hi]; omega), if_pos hz, w1, hk]
  | succ d ih =>
    intro j hj
    obtain ⟨k, hk⟩ := ih (j + 1) (by omega)
    refine ⟨k + 1, ?_⟩
    have hjl : j < l.length := by omega
    have w1 : wrap64 ((j : Int) + 1) = ((j + 1 : Nat) : Int) := by unfold wrap64; omega
    rw [postroadlaw03_HuffApart.l1, if_pos (by omega), w1, hk]
    by_cases hij : (i : Int) = (j : Int)
    · rw [if_pos hij]
    · rw [if_neg hij, if_pos (by omega), if_pos (by omega)]
      by_cases h1 : rd l (i : Int) > 0
      · rw [if_pos h1, if_pos (by omega)]
        by_cases h2 : rd l (j : Int) ≥ rd l (i : Int)
        · have ri := o2 l[i] (List.getElem_mem _)
          have rj := o2 l[j] (List.getElem_mem _)
          rw [rd_get l i hi] at h1
          rw [rd_get l i hi, rd_get l j hjl] at h2
          obtain ⟨a, ha⟩ : ∃ a : Nat, l[i] = a := ⟨l[i].toNat, by omega⟩
          obtain ⟨b, hb⟩ : ∃ b : Nat, l[j] = ((a + b : Nat) : Int) := ⟨l[j].toNat - a, by omega⟩
          have w2 : wrap64 (l[j] - l[i]) = (b : Int) := by unfold wrap64; omega
          rw [rd_get l i hi, rd_get l j hjl, if_pos h2, if_pos (by rw [hlen]; omega), w2, if_pos (by omega), if_pos (by rw [hlen]; omega), codes_rd l i hi, codes_rd l j hjl, if_neg (code_apart ho i j a b hi hjl (by omega) ha (by omega) hb)]
        · rw [if_neg h2]
      · rw [if_neg h1]
theorem apart_out (l : List Int) (ho : okL l = true) : ∀ (d i : Nat), i + d = l.length → ∃ k, postroadlaw03_HuffApart.l0 k l (codesL l) (i : Int) = some true := by
  have o1 := (okL_open ho).1
  intro d
  induction d with
  | zero =>
    intro i hi
    obtain ⟨k, hk⟩ := awake_ok
    refine ⟨k + 1, ?_⟩
    rw [postroadlaw03_HuffApart.l0, if_neg (by omega), hk]
    rfl
  | succ d ih =>
    intro i hi
    obtain ⟨k, hk⟩ := apart_in l ho i (by omega) (ih (i + 1) (by omega)) l.length 0 (by omega)
    refine ⟨k + 1, ?_⟩
    rw [postroadlaw03_HuffApart.l0, if_pos (by omega)]
    exact hk
theorem HuffApart : postroadlaw03_HuffApart.Pure := by
  intro l _ _ _
  cases h : okL l with
  | false =>
    obtain ⟨k, hk1, hk2⟩ := both (fun k => postroadref03_May.mono l k) postroadlaw03_awake.mono (may_ok l) awake_ok
    refine ⟨k, ?_⟩
    unfold postroadlaw03_HuffApart.f huff_Codes.f
    rw [h] at hk1 ⊢
    simp only [Option.bind_some]
    rw [if_neg (by decide), hk1]
    simp only [Option.bind_some, hk2]
    rfl
  | true =>
    obtain ⟨k0, hk0⟩ := apart_out l h l.length 0 (by omega)
    have hj : ∃ k, postroadlaw03_HuffApart.j0 k l (codesL l) false = some true := ⟨k0 + 1, by rw [postroadlaw03_HuffApart.j0, if_neg (by decide)]; exact hk0⟩
    obtain ⟨k, hk1, hk2⟩ := both (fun k => postroadref03_May.mono l k) (fun k => (postroadlaw03_HuffApart.mono_l k).1 l (codesL l) false) (may_ok l) hj
    refine ⟨k, ?_⟩
    unfold postroadlaw03_HuffApart.f huff_Codes.f
    rw [h] at hk1 ⊢
    simp only [Option.bind_some, if_true]
    rw [if_pos (by rw [codesL_len]), hk1]
    simp only [Option.bind_some, Bool.not_true]
    exact hk2
end Go.Proofs.Ytmmoenleldcadaa.Pure
