/- A symbol that comes more often never has a longer word (HuffOrder): plain. -/
import Derived.Test.YtmmoenleldcadaaFnx6
import Derived.Test.YtmmoenleldcadaaPHL
namespace Go.Proofs.Ytmmoenleldcadaa.Pure
open Go.RowKit Go.Proofs.Ytmmoenleldcadaa.Fn Go.Proofs.Ytmmoenleldcadaa.HF Go.Proofs.Ytmmoenleldcadaa.HP Go.Proofs.YtmmoenleldcadaaW.PrintWords Go.Proofs.YtmmoenleldcadaaW.PrintLast Go.Proofs.YtmmoenleldcadaaW.PrintMore
theorem two_le {α : Type} {L : List α} {p q : α} (h1 : p ∈ L) (h2 : q ∈ L) (h : p ≠ q) : 2 ≤ L.length := by
  match L, h1, h2 with
  | [x], h1, h2 => rw [List.mem_singleton.1 h1, List.mem_singleton.1 h2] at h; exact absurd rfl h
  | _ :: _ :: _, _, _ => simp
theorem okLens_open {l : List Int} {a : Int} (h : okLens l a = true) : l.length ≤ 288 ∧ (1 ≤ a ∧ a ≤ 15) ∧ countedL l = true ∧ (coinsF 0 l).length ≤ 2 ^ a.toNat := by
  unfold okLens at h
  simp only [Bool.and_eq_true, decide_eq_true_eq] at h
  exact h
theorem counted_le {l : List Int} (h : countedL l = true) : ∀ f ∈ l, 0 ≤ f ∧ f ≤ 1099511627776 := fun f hf => of_decide_eq_true (List.all_eq_true.1 h f hf)
theorem lensL_len (l : List Int) (m : Nat) : (lensL l m).length = l.length := by
  unfold lensL
  split
  · rw [List.length_set, List.length_replicate]
  · split
    · rw [List.length_replicate]
    · rw [tally_len, List.length_replicate]
theorem order_in (l L : List Int) (hl : l.length ≤ 288) (hL : L.length = l.length) (hG : ∀ i j : Nat, i < l.length → j < l.length → rd l (j : Int) < rd l (i : Int) → 0 < rd l (j : Int) → rd L (i : Int) ≤ rd L (j : Int)) (i : Nat) (hi : i < l.length)
    (hn : ∃ k, postroadlaw03_HuffOrder.l0 k l L ((i + 1 : Nat) : Int) = some true) : ∀ (d j : Nat), j + d = l.length → ∃ k, postroadlaw03_HuffOrder.l1 k l L (i : Int) (j : Int) = some true := by
  intro d
  induction d with
  | zero =>
    intro j hj
    obtain ⟨k, hk⟩ := hn
    refine ⟨k + 1, ?_⟩
    have w1 : wrap64 ((i : Int) + 1) = ((i + 1 : Nat) : Int) := by unfold wrap64; omega
    rw [postroadlaw03_HuffOrder.l1, if_neg (by omega), w1, hk]
  | succ d ih =>
    intro j hj
    obtain ⟨k, hk⟩ := ih (j + 1) (by omega)
    refine ⟨k + 1, ?_⟩
    have w1 : wrap64 ((j : Int) + 1) = ((j + 1 : Nat) : Int) := by unfold wrap64; omega
    rw [postroadlaw03_HuffOrder.l1, if_pos (by omega), if_pos (by omega), if_pos (by omega), if_pos (by omega), if_pos (by omega), w1, hk]
    by_cases h1 : rd l (i : Int) > rd l (j : Int)
    · rw [if_pos h1]
      by_cases h2 : rd l (j : Int) > 0
      · rw [if_pos h2, if_pos (by omega), if_neg (by have := hG i j hi (by omega) h1 h2; omega)]
      · rw [if_neg h2]
    · rw [if_neg h1]
theorem order_out (l L : List Int) (hl : l.length ≤ 288) (hL : L.length = l.length) (hG : ∀ i j : Nat, i < l.length → j < l.length → rd l (j : Int) < rd l (i : Int) → 0 < rd l (j : Int) → rd L (i : Int) ≤ rd L (j : Int)) : ∀ (d i : Nat), i + d = l.length → ∃ k, postroadlaw03_HuffOrder.l0 k l L (i : Int) = some true := by
  intro d
  induction d with
  | zero =>
    intro i hi
    obtain ⟨k, hk⟩ := awake_ok
    refine ⟨k + 1, ?_⟩
    rw [postroadlaw03_HuffOrder.l0, if_neg (by omega), hk]
    rfl
  | succ d ih =>
    intro i hi
    obtain ⟨k, hk⟩ := order_in l L hl hL hG i (by omega) (ih (i + 1) (by omega)) l.length 0 (by omega)
    refine ⟨k + 1, ?_⟩
    rw [postroadlaw03_HuffOrder.l0, if_pos (by omega)]
    exact hk
theorem HuffOrder : postroadlaw03_HuffOrder.Pure := by
  intro l a _ _ _ _
  cases h : okLens l a with
  | false =>
    obtain ⟨k, hk1, hk2⟩ := both (fun k => postroadref03_Refused.mono l a k) postroadlaw03_awake.mono (refused_ok l a) awake_ok
    refine ⟨k, ?_⟩
    unfold postroadlaw03_HuffOrder.f huff_Lengths.f
    rw [h] at hk1 ⊢
    rw [hk1]
    simp only [Bool.not_false, Option.bind_some, hk2]
    rfl
  | true =>
    obtain ⟨o1, o2, o3, o4⟩ := okLens_open h
    obtain ⟨m, rfl⟩ : ∃ m : Nat, a = m := ⟨a.toNat, by omega⟩
    rw [Int.toNat_natCast] at o4
    have hG : ∀ i j : Nat, i < l.length → j < l.length → rd l (j : Int) < rd l (i : Int) → 0 < rd l (j : Int) → rd (lensL l m) (i : Int) ≤ rd (lensL l m) (j : Int) := fun i j hi hj h1 h2 => by
      rw [rd_get l j hj, rd_get l i hi] at h1
      rw [rd_get l j hj] at h2
      have hc : 2 ≤ (coinsF 0 l).length := two_le (mem_coin l 0 i hi (by omega)) (mem_coin l 0 j hj h2) (fun e => by
        have := congrArg Prod.fst e
        simp only at this
        omega)
      obtain ⟨cs, _, _, _, hd⟩ := lens_depth (m := m) (fun f hf => (counted_le o3 f hf).2) (by omega) hc o4
      rw [hd i hi, hd j hj]
      have := depth_mono cs i j hi hj h2 h1
      omega
    obtain ⟨k, hk⟩ := order_out l (lensL l m) o1 (lensL_len l m) hG l.length 0 (by omega)
    refine ⟨k, ?_⟩
    unfold postroadlaw03_HuffOrder.f huff_Lengths.f
    rw [h]
    simp only [Option.bind_some, if_true, Int.toNat_natCast]
    rw [lensL_len, if_pos rfl]
    exact hk
end Go.Proofs.Ytmmoenleldcadaa.Pure
