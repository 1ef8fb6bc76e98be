/- What every law of huff asks: awake; Refused; plain. -/
import Derived.Test.YtmmoenleldcadaaFnx6
import Derived.Test.YtmmoenleldcadaaPLen3
namespace Go.Proofs.Ytmmoenleldcadaa.HP
open Go.RowKit Go.Proofs.Ytmmoenleldcadaa.Fn Go.Proofs.Ytmmoenleldcadaa.HF Go.Proofs.YtmmoenleldcadaaW.PrintWords Go.Proofs.YtmmoenleldcadaaW.PrintLast Go.Proofs.YtmmoenleldcadaaW.PrintMore
theorem up {α : Type} {f : Nat → Option α} (hm : ∀ k, LeO (f k) (f (k + 1))) {K : Nat} {r : α} (h : f K = some r) : ∀ d, f (K + d) = some r
  | 0 => h
  | d + 1 => hm _ _ (up hm h d)
theorem both {α β : Type} {f : Nat → Option α} {g : Nat → Option β} (hm : ∀ k, LeO (f k) (f (k + 1))) (hg : ∀ k, LeO (g k) (g (k + 1))) {r : α} {s : β} (h1 : ∃ k, f k = some r) (h2 : ∃ k, g k = some s) : ∃ k, f k = some r ∧ g k = some s := by
  obtain ⟨a, ha⟩ := h1
  obtain ⟨b, hb⟩ := h2
  exact ⟨a + b, up hm ha b, by rw [Nat.add_comm]; exact up hg hb a⟩
theorem awake_ok : ∃ k, postroadlaw03_awake.f k = some true := ⟨20, by kernel_rfl⟩
theorem coinsF_len : ∀ (l : List Int) (i j : Int), (coinsF i l).length = (coinsF j l).length
  | [], _, _ => rfl
  | f :: r, i, j => by
    unfold coinsF
    have := coinsF_len r (i + 1) (j + 1)
    split <;> simp [this]
theorem coins_cons (x : Int) (r : List Int) : (coinsF 0 (x :: r)).length = (if 0 < x then 1 else 0) + (coinsF 0 r).length := by
  show (if 0 < x then (x, [(0 : Int)]) :: coinsF (0 + 1) r else coinsF (0 + 1) r).length = _
  have := coinsF_len r (0 + 1) 0
  split
  · rw [List.length_cons, this]; omega
  · rw [this]; omega
theorem shl_15 : ∀ m : Nat, m < 16 → shl .i64 1 (m : Int) = ((2 ^ m : Nat) : Int) := by decide
theorem refused_loop (l : List Int) (m : Nat) (hm : m ≤ 15) (hl : l.length ≤ 288) : ∀ (d i n : Nat), i + d = l.length → n ≤ i →
    ∃ k, postroadref03_Refused.l0 k l (m : Int) (n : Int) (i : Int) = some (!((l.drop i).all freqOk && decide (n + (coinsF 0 (l.drop i)).length ≤ 2 ^ m))) := by
  intro d
  induction d with
  | zero =>
    intro i n hi hn
    refine ⟨1, ?_⟩
    rw [postroadref03_Refused.l0, if_neg (by omega), if_pos (by omega), shl_15 m (by omega), List.drop_eq_nil_of_le (by omega)]
    have e : decide ((n : Int) > ((2 ^ m : Nat) : Int)) = !decide (n + (coinsF 0 []).length ≤ 2 ^ m) := by
      show decide _ = !decide (n + 0 ≤ 2 ^ m)
      by_cases h : n ≤ 2 ^ m
      · rw [decide_eq_true (show n + 0 ≤ 2 ^ m from h), decide_eq_false (by omega)]; rfl
      · rw [decide_eq_false (show ¬ n + 0 ≤ 2 ^ m from h), decide_eq_true (by omega)]; rfl
    rw [e]
    rfl
  | succ d ih =>
    intro i n hi hn
    have hlt : i < l.length := by omega
    have e0 : rd l (i : Int) = l[i] := rd_get l i hlt
    have ed : l.drop i = l[i] :: l.drop (i + 1) := List.drop_eq_getElem_cons hlt
    have w1 : wrap64 ((i : Int) + 1) = ((i + 1 : Nat) : Int) := by unfold wrap64; omega
    have w2 : wrap64 ((n : Int) + 1) = ((n + 1 : Nat) : Int) := by unfold wrap64; omega
    by_cases h1 : l[i] < 0
    · refine ⟨2, ?_⟩
      rw [postroadref03_Refused.l0, if_pos (by omega), if_pos (by omega), e0, if_pos h1, postroadref03_Refused.j2, if_pos rfl, ed, List.all_cons]
      have : freqOk l[i] = false := decide_eq_false (by omega)
      rw [this]
      rfl
    · by_cases h2 : l[i] > 1099511627776
      · refine ⟨2, ?_⟩
        rw [postroadref03_Refused.l0, if_pos (by omega), if_pos (by omega), e0, if_neg h1, decide_eq_true h2, postroadref03_Refused.j2, if_pos rfl, ed, List.all_cons]
        have : freqOk l[i] = false := decide_eq_false (by omega)
        rw [this]
        rfl
      · have hok : freqOk l[i] = true := decide_eq_true (by omega)
        by_cases h3 : l[i] > 0
        · obtain ⟨k, hk⟩ := ih (i + 1) (n + 1) (by omega) (by omega)
          refine ⟨k + 2, ?_⟩
          rw [postroadref03_Refused.l0, if_pos (by omega), if_pos (by omega), e0, if_neg h1, decide_eq_false h2, postroadref03_Refused.j2, if_neg (by decide), if_pos (by omega), if_pos (by omega), e0, if_pos h3, w1, w2, hk, ed, List.all_cons, hok, coins_cons, if_pos h3, Bool.true_and, Nat.add_assoc]
        · obtain ⟨k, hk⟩ := ih (i + 1) n (by omega) (by omega)
          refine ⟨k + 2, ?_⟩
          rw [postroadref03_Refused.l0, if_pos (by omega), if_pos (by omega), e0, if_neg h1, decide_eq_false h2, postroadref03_Refused.j2, if_neg (by decide), if_pos (by omega), if_pos (by omega), e0, if_neg h3, w1, hk, ed, List.all_cons, hok, coins_cons, if_neg h3, Bool.true_and, Nat.zero_add]
theorem refused_ok (l : List Int) (a : Int) : ∃ k, postroadref03_Refused.f k l a = some (!okLens l a) := by
  unfold postroadref03_Refused.f
  by_cases h1 : (l.length : Int) > 288
  · refine ⟨1, ?_⟩
    rw [if_pos h1, postroadref03_Refused.j0, if_pos rfl]
    unfold okLens
    rw [decide_eq_false (show ¬ l.length ≤ 288 by omega)]
    rfl
  · by_cases h2 : a < 1
    · refine ⟨1, ?_⟩
      rw [if_neg h1, if_pos h2, postroadref03_Refused.j0, if_pos rfl]
      unfold okLens
      rw [decide_eq_false (show ¬ (1 ≤ a ∧ a ≤ 15) by omega)]
      simp
    · by_cases h3 : a > 15
      · refine ⟨1, ?_⟩
        rw [if_neg h1, if_neg h2, decide_eq_true h3, postroadref03_Refused.j0, if_pos rfl]
        unfold okLens
        rw [decide_eq_false (show ¬ (1 ≤ a ∧ a ≤ 15) by omega)]
        simp
      · obtain ⟨m, rfl⟩ : ∃ m : Nat, a = m := ⟨a.toNat, by omega⟩
        obtain ⟨k, hk⟩ := refused_loop l m (by omega) (by omega) l.length 0 0 (by omega) (Nat.le_refl _)
        refine ⟨k + 1, ?_⟩
        rw [if_neg h1, if_neg h2, decide_eq_false h3, postroadref03_Refused.j0, if_neg (by decide)]
        have hk2 : postroadref03_Refused.l0 k l (m : Int) 0 0 = _ := hk
        rw [hk2]
        unfold okLens countedL
        rw [decide_eq_true (show l.length ≤ 288 by omega), decide_eq_true (show (1 : Int) ≤ (m : Int) ∧ (m : Int) ≤ 15 by omega), Int.toNat_natCast, List.drop_zero, Bool.true_and, Bool.true_and, Nat.zero_add]
end Go.Proofs.Ytmmoenleldcadaa.HP
