/- The best code below a limit (HuffLengths): plain. -/
import Derived.Test.YtmmoenleldcadaaFnx9
import Derived.Test.YtmmoenleldcadaaGJ
namespace Go.Proofs.Ytmmoenleldcadaa.Pure
open Go.RowKit Go.Proofs.Ytmmoenleldcadaa.Fn Go.Proofs.Ytmmoenleldcadaa.HF Go.Proofs.Ytmmoenleldcadaa.HP Go.Proofs.Ytmmoenleldcadaa.MB Go.Proofs.YtmmoenleldcadaaW.PrintWords Go.Proofs.YtmmoenleldcadaaW.PrintLast Go.Proofs.YtmmoenleldcadaaW.PrintMore
theorem posn_next (l : List Int) (i : Nat) (h : i < l.length) : (coinsF 0 (l.take (i + 1))).length = (coinsF 0 (l.take i)).length + (if 0 < l[i] then 1 else 0) := by
  rw [List.take_succ_eq_append_getElem h, coinsF_snoc, List.length_append]
  split <;> rfl
theorem lens_tail (l : List Int) (m : Nat) (hl : l.length ≤ 288) (hf : ∀ f ∈ l, 0 ≤ f ∧ f ≤ 1099511627776) (hm : 1 ≤ m) (h15 : m ≤ 15) (hp : (coinsF 0 l).length ≤ 2 ^ m) :
    ∃ k, postroadlaw03_HuffLengths.l0 k l (m : Int) (lensL l m) ((coinsF 0 l).length : Int) (l.length : Int) = some true := by
  obtain ⟨d, D, ho, hco, hw⟩ := lens_facts hl hf hm h15 hp
  have hlen := lensL_len l m
  obtain ⟨k1, h1⟩ := awake_ok
  obtain ⟨k2, h2⟩ := refcost_ok l (lensL l m) (by omega)
  obtain ⟨k3, h3⟩ := least_ok l m hl hf hm h15 hp
  obtain ⟨k4, h4⟩ := full_ok (lensL l m) ho
  have g1 := at_ postroadlaw03_awake.mono h1 (k := k1 + k2 + k3 + k4) (by omega)
  have g2 := at_ (fun k => postroadref03_Cost.mono l (lensL l m) k) h2 (k := k1 + k2 + k3 + k4) (by omega)
  have g3 := at_ (fun k => postroadref03_Least.mono l (m : Int) k) h3 (k := k1 + k2 + k3 + k4) (by omega)
  have g4 := at_ (fun k => postroadref03_Full.mono (lensL l m) k) h4 (k := k1 + k2 + k3 + k4) (by omega)
  refine ⟨k1 + k2 + k3 + k4 + 1, ?_⟩
  generalize k1 + k2 + k3 + k4 = k at g1 g2 g3 g4
  have hc : costL l (lensL l m) = (leastV l m, 0) := by
    have hcc : countedL l = true := List.all_eq_true.2 fun f h => decide_eq_true (hf f h)
    unfold costL
    rw [if_pos hlen.symm, if_pos hcc, if_pos ho, hco, cost_least D hl]
  rw [hc] at g2
  rw [postroadlaw03_HuffLengths.l0, if_neg (by omega)]
  by_cases n0 : ((coinsF 0 l).length : Int) = 0
  · rw [if_pos n0, g1]
    rfl
  · rw [if_neg n0, g2]
    simp only [Option.bind_some, if_true]
    by_cases n1 : ((coinsF 0 l).length : Int) = 1
    · rw [if_pos n1, g3]
      simp only [Option.bind_some, if_true, g1]
    · rw [if_neg n1, g4, hw (by omega)]
      simp only [Option.bind_some, if_true, g3, g1]
theorem lens_loop (l : List Int) (m : Nat) (hl : l.length ≤ 288) (hf : ∀ f ∈ l, 0 ≤ f ∧ f ≤ 1099511627776) (hm : 1 ≤ m) (h15 : m ≤ 15) (hp : (coinsF 0 l).length ≤ 2 ^ m) : ∀ (e i : Nat), i + e = l.length →
    ∃ k, postroadlaw03_HuffLengths.l0 k l (m : Int) (lensL l m) ((coinsF 0 (l.take i)).length : Int) (i : Int) = some true := by
  obtain ⟨d, D, ho, hco, hw⟩ := lens_facts hl hf hm h15 hp
  have hlen := lensL_len l m
  intro e
  induction e with
  | zero =>
    intro i hi
    rw [List.take_of_length_le (by omega), show i = l.length by omega]
    exact lens_tail l m hl hf hm h15 hp
  | succ e ih =>
    intro i hi
    have hil : i < l.length := by omega
    obtain ⟨k, hk⟩ := ih (i + 1) (by omega)
    rw [posn_next l i hil] at hk
    have hle := coinsF_le (l.take i) 0
    have hle2 : (l.take i).length ≤ 288 := by rw [List.length_take]; omega
    have w1 : wrap64 ((i : Int) + 1) = ((i + 1 : Nat) : Int) := by unfold wrap64; omega
    have w2 : wrap64 (((coinsF 0 (l.take i)).length : Int) + 1) = (((coinsF 0 (l.take i)).length + 1 : Nat) : Int) := by unfold wrap64; omega
    have ha := D.at_ i hil
    refine ⟨k + 2, ?_⟩
    by_cases h0 : 0 < l[i]
    · have hr := D.rg i hil h0
      rw [if_pos h0] at ha hk
      rw [postroadlaw03_HuffLengths.l0, if_pos (by omega), if_pos (by omega), ha, if_neg (by omega), if_neg (by omega), if_pos (by omega), rd_get l i hil, decide_eq_true (show d (i : Int) > 0 by omega), decide_eq_true (show l[i] > 0 from h0), postroadlaw03_HuffLengths.j2, if_neg (by decide), if_pos (by omega), if_pos (by omega), ha, if_pos (by omega), w1, w2, hk]
    · rw [if_neg h0] at ha hk
      rw [Nat.add_zero] at hk
      rw [postroadlaw03_HuffLengths.l0, if_pos (by omega), if_pos (by omega), ha, if_neg (by omega), if_neg (by omega), if_pos (by omega), rd_get l i hil, decide_eq_false (show ¬ (0 : Int) > 0 by omega), decide_eq_false (show ¬ l[i] > 0 from h0), postroadlaw03_HuffLengths.j2, if_neg (by decide), if_pos (by omega), if_pos (by omega), ha, if_neg (by omega), w1, hk]
theorem HuffLengths : postroadlaw03_HuffLengths.Pure := by
  intro l a _ _ _ _
  cases h : okLens l a with
  | false =>
    obtain ⟨k, hk1, hk2⟩ := both (fun k => postroadref03_Refused.mono l a k) postroadlaw03_awake.mono (refused_ok l a) awake_ok
    refine ⟨k, ?_⟩
    unfold postroadlaw03_HuffLengths.f huff_Lengths.f
    rw [h] at hk1 ⊢
    simp only [Option.bind_some]
    rw [hk1]
    simp only [Option.bind_some, Bool.not_false, if_true]
    rw [if_pos (by decide), if_pos (by simp), hk2]
    rfl
  | true =>
    obtain ⟨o1, o2, o3, o4⟩ := okLens_open h
    obtain ⟨m, rfl⟩ : ∃ m : Nat, a = m := ⟨a.toNat, by omega⟩
    rw [Int.toNat_natCast] at o4
    obtain ⟨k0, hk0⟩ := lens_loop l m o1 (counted_le o3) (by omega) (by omega) o4 l.length 0 (by omega)
    have hj : ∃ k, postroadlaw03_HuffLengths.j0 k l (m : Int) (lensL l m) false = some true := ⟨k0 + 1, by rw [postroadlaw03_HuffLengths.j0, if_neg (by decide)]; exact hk0⟩
    obtain ⟨k, hk1, hk2⟩ := both (fun k => postroadref03_Refused.mono l (m : Int) k) (fun k => (postroadlaw03_HuffLengths.mono_l k).1 l (m : Int) (lensL l m) false) (refused_ok l (m : Int)) hj
    refine ⟨k, ?_⟩
    unfold postroadlaw03_HuffLengths.f huff_Lengths.f
    rw [h] at hk1 ⊢
    simp only [Option.bind_some]
    rw [hk1]
    simp only [Option.bind_some, Bool.not_true, if_true, Int.toNat_natCast, lensL_len, bne_self_eq_false]
    rw [if_neg (by decide)]
    exact hk2
end Go.Proofs.Ytmmoenleldcadaa.Pure
