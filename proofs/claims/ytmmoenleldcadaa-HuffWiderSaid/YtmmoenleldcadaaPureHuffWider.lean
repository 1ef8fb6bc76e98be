/- A higher limit never costs more (HuffWider): plain. -/
import Derived.Test.YtmmoenleldcadaaFnx10
import Derived.Test.YtmmoenleldcadaaGJ
namespace Go.Proofs.Ytmmoenleldcadaa.Pure
open Go.RowKit Go.Proofs.Ytmmoenleldcadaa.Fn Go.Proofs.Ytmmoenleldcadaa.HF Go.Proofs.Ytmmoenleldcadaa.HP Go.Proofs.Ytmmoenleldcadaa.MB Go.Proofs.YtmmoenleldcadaaW.PrintWords Go.Proofs.YtmmoenleldcadaaW.PrintLast Go.Proofs.YtmmoenleldcadaaW.PrintMore
theorem cost_lens (l : List Int) (m : Nat) (hl : l.length ≤ 288) (hf : ∀ f ∈ l, 0 ≤ f ∧ f ≤ 1099511627776) (hm : 1 ≤ m) (h15 : m ≤ 15) (hp : (coinsF 0 l).length ≤ 2 ^ m) : costL l (lensL l m) = (leastV l m, 0) := by
  obtain ⟨d, D, ho, hco, hw⟩ := lens_facts hl hf hm h15 hp
  have hcc : countedL l = true := List.all_eq_true.2 fun f h => decide_eq_true (hf f h)
  unfold costL
  rw [if_pos (lensL_len l m).symm, if_pos hcc, if_pos ho, hco, cost_least D hl]
theorem wider_loop (l : List Int) (x y : Int) (hxy : x ≥ y) (hys : y ≥ l.sum) (hl : l.length ≤ 288) (hf : ∀ f ∈ l, 0 ≤ f ∧ f ≤ 1099511627776) : ∀ (d i : Nat), i + d = l.length → ∃ k, postroadlaw03_HuffWider.l0 k l x 0 y 0 (l.take i).sum (i : Int) = some true := by
  intro d
  induction d with
  | zero =>
    intro i hi
    obtain ⟨k, hk⟩ := awake_ok
    refine ⟨k + 1, ?_⟩
    rw [postroadlaw03_HuffWider.l0, if_neg (by omega), if_pos rfl, if_pos rfl, if_pos hxy, List.take_of_length_le (by omega), if_pos hys, hk]
    rfl
  | succ d ih =>
    intro i hi
    have hil : i < l.length := by omega
    obtain ⟨k, hk⟩ := ih (i + 1) (by omega)
    have hb := sum_bd (l := l.take (i + 1)) (fun f h => hf f (List.mem_of_mem_take h))
    have hle : (l.take (i + 1)).length ≤ 288 := by rw [List.length_take]; omega
    have w1 : wrap64 ((i : Int) + 1) = ((i + 1 : Nat) : Int) := by unfold wrap64; omega
    have e : (l.take (i + 1)).sum = (l.take i).sum + l[i] := by rw [List.take_succ_eq_append_getElem hil, List.sum_append]; simp
    have w2 : wrap64 ((l.take i).sum + l[i]) = (l.take (i + 1)).sum := by rw [← e]; exact wrap64_id _ (by omega) (by omega)
    refine ⟨k + 1, ?_⟩
    rw [postroadlaw03_HuffWider.l0, if_pos (by omega), if_pos (by omega), rd_get l i hil, w1, w2, hk]
theorem wider_no (l : List Int) (a b : Int) (x7 x9 : List Int) : ∃ k, postroadlaw03_HuffWider.j1 k l a b x7 (if okLens l a then 0 else 1) x9 (if okLens l b then 0 else 1) true = some true := by
  obtain ⟨k1, h1⟩ := awake_ok
  obtain ⟨k2, h2⟩ := refused_ok l a
  obtain ⟨k3, h3⟩ := refused_ok l b
  have g1 := at_ postroadlaw03_awake.mono h1 (k := k1 + k2 + k3) (by omega)
  have g2 := at_ (fun k => postroadref03_Refused.mono l a k) h2 (k := k1 + k2 + k3) (by omega)
  have g3 := at_ (fun k => postroadref03_Refused.mono l b k) h3 (k := k1 + k2 + k3) (by omega)
  refine ⟨k1 + k2 + k3 + 1, ?_⟩
  rw [postroadlaw03_HuffWider.j1, if_pos rfl, g2, g3]
  generalize okLens l a = p
  generalize okLens l b = q
  simp only [Option.bind_some, g1]
  cases p <;> cases q <;> rfl
theorem wider_any (l : List Int) (a b : Int) (hab : a ≤ b) : ∃ k, postroadlaw03_HuffWider.j0 k l a b = some true := by
  obtain ⟨k0, hk0⟩ := wider_no l a b (if okLens l a then lensL l a.toNat else []) (if okLens l b then lensL l b.toNat else [])
  cases ha : okLens l a with
  | false =>
    refine ⟨k0 + 1, ?_⟩
    rw [ha] at hk0
    rw [postroadlaw03_HuffWider.j0]
    unfold huff_Lengths.f
    simp only [Option.bind_some, ha]
    rw [if_neg (by decide)]
    exact hk0
  | true =>
    cases hb : okLens l b with
    | false =>
      refine ⟨k0 + 1, ?_⟩
      rw [ha, hb] at hk0
      rw [postroadlaw03_HuffWider.j0]
      unfold huff_Lengths.f
      simp only [Option.bind_some, ha, hb]
      rw [if_pos (by decide)]
      exact hk0
    | true =>
      obtain ⟨a1, a2, a3, a4⟩ := okLens_open ha
      obtain ⟨b1, b2, b3, b4⟩ := okLens_open hb
      have hf := counted_le a3
      have hc1 := cost_lens l a.toNat a1 hf (by omega) (by omega) a4
      have hc2 := cost_lens l b.toNat a1 hf (by omega) (by omega) b4
      obtain ⟨k, hk⟩ := wider_loop l (leastV l a.toNat) (leastV l b.toNat) (leastV_anti l (by omega) (by omega) a4) (leastV_sum a1 hf (by omega) (by omega) b4) a1 hf l.length 0 (by omega)
      refine ⟨k + 2, ?_⟩
      rw [postroadlaw03_HuffWider.j0]
      unfold huff_Lengths.f
      simp only [Option.bind_some, ha, hb, if_true]
      rw [show ((0 : Int) != 0) = false from rfl, postroadlaw03_HuffWider.j1, if_neg (by decide)]
      unfold huff_Cost.f
      rw [hc1, hc2]
      simp only [Option.bind_some]
      exact hk
theorem HuffWider : postroadlaw03_HuffWider.Pure := by
  intro l a b _ _ _ _ _
  unfold postroadlaw03_HuffWider.f
  by_cases h : a > b
  · obtain ⟨k, hk⟩ := wider_any l b a (by omega)
    exact ⟨k, by rw [if_pos h]; exact hk⟩
  · obtain ⟨k, hk⟩ := wider_any l a b (by omega)
    exact ⟨k, by rw [if_neg h]; exact hk⟩
end Go.Proofs.Ytmmoenleldcadaa.Pure
