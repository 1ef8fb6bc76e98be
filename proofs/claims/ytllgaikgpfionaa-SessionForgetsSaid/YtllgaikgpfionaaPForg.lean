/- SessionForgets in plain Lean. -/
import Derived.Test.YtllgaikgpfionaaHCut
import Derived.Test.YtllgaikgpfionaaHPut
namespace Go.Proofs.Ytllgaikgpfionaa.SM
open Go.RowKit
def fS (nf : Nat → Int) : Nat → Int | 0 => 0 | i + 1 => fS nf i + nf i
def fB (nf : Nat → Int) (j : Nat) : Bat := ⟨fS nf j, nf j, 0, 1, j⟩
def fL (nf : Nat → Int) (i : Nat) : Ents := (List.range i).map (fun (j : Nat) => ((1, (j : Int)), fB nf j))
def fW (i : Nat) : List Wt := (List.range i).map (fun (j : Nat) => ⟨1, (j : Int), 100⟩)
def fE (nf : Nat → Int) (i : Nat) : List Int := (List.range i).map (fun (j : Nat) => fS nf (j + 1))
theorem fL_succ (nf : Nat → Int) (i : Nat) : fL nf (i + 1) = fL nf i ++ [((1, (i : Int)), fB nf i)] := by unfold fL; rw [List.range_succ, List.map_append]; rfl
theorem fW_succ (i : Nat) : fW (i + 1) = fW i ++ [⟨1, (i : Int), 100⟩] := by unfold fW; rw [List.range_succ, List.map_append]; rfl
theorem fE_succ (nf : Nat → Int) (i : Nat) : fE nf (i + 1) = fE nf i ++ [fS nf (i + 1)] := by unfold fE; rw [List.range_succ, List.map_append]; rfl
theorem fW_len (i : Nat) : (fW i).length = i := by unfold fW; rw [List.length_map, List.length_range]
theorem fE_len (nf : Nat → Int) (i : Nat) : (fE nf i).length = i := by unfold fE; rw [List.length_map, List.length_range]
theorem fE_rd (nf : Nat → Int) (i j : Nat) (h : j < i) : Go.Proofs.YtllgaikgpfionaaW.PrintWords.rd (fE nf i) (j : Int) = fS nf (j + 1) := by
  unfold Go.Proofs.YtllgaikgpfionaaW.PrintWords.rd fE
  rw [Int.toNat_natCast, List.getD_eq_getElem?_getD, List.getElem?_map, List.getElem?_range h]
  rfl
theorem look_fL (nf : Nat → Int) : ∀ (i k : Nat), look (fL nf i) (1, (k : Int)) = if k < i then some (fB nf k) else none
  | 0, k => rfl
  | i + 1, k => by
    rw [fL_succ, look_app, look_fL nf i k]
    by_cases h : k < i
    · simp [h, show k < i + 1 by omega]
    · rw [if_neg h]
      by_cases h2 : k = i
      · subst h2; rw [if_pos rfl, if_pos (by omega)]; rfl
      · rw [if_neg (by simp; omega), if_neg (by omega)]; rfl
theorem fS_le {nf : Nat → Int} (h : ∀ j, 1 ≤ nf j) {i : Nat} : ∀ {j : Nat}, i ≤ j → fS nf i ≤ fS nf j
  | 0, hij => by rw [show i = 0 by omega]; exact Int.le_refl _
  | j + 1, hij => by
    by_cases he : i = j + 1
    · rw [he]; exact Int.le_refl _
    · have h1 := fS_le h (i := i) (j := j) (by omega)
      have h2 := h j
      show fS nf i ≤ fS nf j + nf j
      omega
theorem fS_bd {nf : Nat → Int} (h : ∀ j, 1 ≤ nf j ∧ nf j ≤ 16) : ∀ i, 0 ≤ fS nf i ∧ fS nf i ≤ 16 * (i : Int)
  | 0 => ⟨Int.le_refl _, Int.le_refl _⟩
  | i + 1 => by
    have h1 := fS_bd h i
    have h2 := h i
    show 0 ≤ fS nf i + nf i ∧ fS nf i + nf i ≤ _
    omega
theorem fL_mem {nf : Nat → Int} {i : Nat} {p : (Int × Int) × Bat} (h : p ∈ fL nf i) : ∃ j, j < i ∧ p = ((1, (j : Int)), fB nf j) := by
  obtain ⟨j, hj, rfl⟩ := List.mem_map.1 h
  exact ⟨j, List.mem_range.1 hj, rfl⟩
theorem fL_apart (nf : Nat → Int) : ∀ i, (fL nf i).Pairwise (fun a b => a.1 ≠ b.1)
  | 0 => List.Pairwise.nil
  | i + 1 => by
    rw [fL_succ]
    refine List.pairwise_append.2 ⟨fL_apart nf i, List.pairwise_singleton _ _, fun a ha b hb => ?_⟩
    obtain ⟨j, hj, rfl⟩ := fL_mem ha
    rw [List.mem_singleton.1 hb]
    simp
    omega
theorem fB_ok {nf : Nat → Int} (h : ∀ j, 1 ≤ nf j ∧ nf j ≤ 16) {i : Nat} (hi : i ≤ 60) : headOk (fB nf i) := by
  have h1 := fS_bd h i
  have h2 := h i
  unfold headOk fB
  simp only
  omega
theorem fL_ok {nf : Nat → Int} (h : ∀ j, 1 ≤ nf j ∧ nf j ≤ 16) {i : Nat} (hi : i ≤ 60) : ∀ p ∈ fL nf i, headOk p.2 := fun p hp => by
  obtain ⟨j, hj, rfl⟩ := fL_mem hp
  exact fB_ok h (by omega)
theorem fL_end {nf : Nat → Int} (h : ∀ j, 1 ≤ nf j ∧ nf j ≤ 16) {i : Nat} (hi : i ≤ 60) : ∀ p ∈ fL nf i, p.2.base + p.2.count ≤ 960 := fun p hp => by
  obtain ⟨j, hj, rfl⟩ := fL_mem hp
  have h1 := fS_bd h j
  have h2 := h j
  show fS nf j + nf j ≤ 960
  omega
theorem stay_ex {nf : Nat → Int} (h : ∀ j, 1 ≤ nf j) (cut : Int) : ∀ i, ∃ s, s ≤ i ∧ (fL nf i).filter (fun p => !big cut p) = fL nf s ∧ ∀ j, j < i → (fS nf (j + 1) ≤ cut ↔ j < s)
  | 0 => ⟨0, Nat.le_refl _, rfl, fun j hj => by omega⟩
  | i + 1 => by
    obtain ⟨s, hs, hf, hj⟩ := stay_ex h cut i
    by_cases hc : fS nf (i + 1) ≤ cut
    · have hsi : s = i := by
        rcases Nat.lt_or_ge s i with h1 | h1
        · have h2 := fS_le h (i := s + 1) (j := i + 1) (by omega)
          have := (hj s h1).1 (by omega)
          omega
        · omega
      subst hsi
      refine ⟨s + 1, Nat.le_refl _, ?_, fun j hjs => ⟨fun _ => hjs, fun _ => ?_⟩⟩
      · rw [fL_succ, List.filter_append, hf, List.filter_cons_of_pos (by
          have hc' : fS nf s + nf s ≤ cut := hc
          unfold big fB
          simp
          omega)]
        rfl
      · exact Int.le_trans (fS_le h (by omega)) hc
    · refine ⟨s, by omega, ?_, fun j hjs => ?_⟩
      · rw [fL_succ, List.filter_append, hf, List.filter_cons_of_neg (by
          have hc' : ¬ fS nf s + nf s ≤ cut ∨ True := Or.inr trivial
          have hc2 : ¬ fS nf i + nf i ≤ cut := hc
          unfold big fB
          simp
          omega)]
        simp
      · by_cases he : j = i
        · subst he; exact ⟨fun h1 => absurd h1 hc, fun h1 => by omega⟩
        · exact hj j (by omega)
theorem fW_stay (nf : Nat → Int) (s : Nat) : ∀ i, s ≤ i → (fW i).filter (fun x => !gone (fL nf s) x) = fW s
  | 0, h => by rw [show s = 0 by omega]; rfl
  | i + 1, h => by
    have hg : gone (fL nf s) ⟨1, (i : Int), 100⟩ = !decide (i < s) := by
      unfold gone
      simp only
      rw [look_fL]
      by_cases h1 : i < s
      · rw [if_pos h1]; simp [h1]
      · rw [if_neg h1]; simp [h1]
    rw [fW_succ, List.filter_append]
    by_cases h1 : i < s
    · have he : s = i + 1 := by omega
      subst he
      rw [List.filter_cons_of_pos (by rw [hg]; simp), fW_succ]
      congr 1
      refine List.filter_eq_self.2 (fun x hx => ?_)
      obtain ⟨j, hj, rfl⟩ := List.mem_map.1 hx
      have := List.mem_range.1 hj
      unfold gone
      simp only
      rw [look_fL, if_pos (by omega)]
      rfl
    · rw [List.filter_cons_of_neg (by rw [hg]; simp [h1]), fW_stay nf s i (by omega)]
      simp
def fT (nf : Nat → Int) (i : Nat) : Tb := ⟨64, fL nf i, fS nf i, fW i⟩
def fT' (nf : Nat → Int) (i : Nat) : Tb := ⟨64, fL nf (i + 1), fS nf (i + 1), fW i⟩
theorem f_put (nf : Nat → Int) (i : Nat) : putR (fT nf i) (fB nf i) = (fT' nf i, 0) := by
  unfold putR
  have h1 : look (fT nf i).l ((fB nf i).prod, (fB nf i).seq) = none := by
    show look (fL nf i) (1, (i : Int)) = none
    rw [look_fL, if_neg (by omega)]
  rw [h1]
  rw [if_neg (by
    show ¬ ((none : Option Bat).isSome = true ∨ fS nf i < fS nf i)
    simp)]
  unfold fT fT'
  rw [fL_succ]
  rfl
theorem f_wait (nf : Nat → Int) (i : Nat) (hi : i < 60) : waitR (fT' nf i) (1, (i : Int)) 100 = (fT nf (i + 1), 0) := by
  unfold waitR
  have h1 : look (fT' nf i).l (1, (i : Int)) = some (fB nf i) := by
    show look (fL nf (i + 1)) (1, (i : Int)) = _
    rw [look_fL, if_pos (by omega)]
  rw [h1]
  simp only
  have h2 : hasWt ⟨1, (i : Int), 100⟩ (fT' nf i).ws = false := by
    show hasWt ⟨1, (i : Int), 100⟩ (fW i) = false
    unfold hasWt
    refine List.any_eq_false.2 (fun x hx => ?_)
    obtain ⟨j, hj, rfl⟩ := List.mem_map.1 hx
    have := List.mem_range.1 hj
    rw [sameWt_iff]
    simp
    omega
  rw [h2, if_neg (by decide), if_neg (by
    show ¬ (64 : Int) ≤ ((fW i).length : Int)
    rw [fW_len]
    omega)]
  unfold fT fT'
  rw [fW_succ]
theorem f_find (nf : Nat → Int) (T : Tb) (s k : Nat) (hl : T.l = fL nf s) : findR T (1, (k : Int)) = if k < s then (fB nf k, 0) else (Bat.zero, 3) := by
  unfold findR
  rw [hl, look_fL]
  by_cases h : k < s
  · rw [if_pos h, if_pos h]
  · rw [if_neg h, if_neg h]
theorem f_last (nf : Nat → Int) (T : Tb) (s : Nat) (hl : T.l = fL nf s) (he : T.e ≤ 960) : ∃ T', putR T ⟨5000, 1, 0, 1, (s : Int)⟩ = (T', 0) := by
  unfold putR
  simp only
  have h1 : look T.l (1, (s : Int)) = none := by rw [hl, look_fL, if_neg (by omega)]
  have h2 : ¬ ((look T.l (1, (s : Int))).isSome = true ∨ (5000 : Int) < T.e) := by rw [h1]; simp; omega
  exact ⟨_, if_neg h2⟩
end Go.Proofs.Ytllgaikgpfionaa.SM
