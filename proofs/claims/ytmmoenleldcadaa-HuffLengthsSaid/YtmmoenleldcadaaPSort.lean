/- Sorting packs, plain: swaps, what a part of a row keeps, order. -/
import Derived.Test.YtmmoenleldcadaaHPk
namespace Go.Proofs.Ytmmoenleldcadaa.HF
def wtP (xs : List Pk) (i : Nat) : Int := (rdP xs i).wt
def swp (xs : List Pk) (i j : Nat) : List Pk := (xs.set i (rdP xs j)).set j (rdP xs i)
theorem swp_len (xs : List Pk) (i j : Nat) : (swp xs i j).length = xs.length := by unfold swp; rw [List.length_set, List.length_set]
theorem rdP_set (xs : List Pk) (i k : Nat) (x : Pk) (h : i < xs.length) : rdP (xs.set i x) k = if k = i then x else rdP xs k := by
  unfold rdP
  rw [List.getD_eq_getElem?_getD, List.getElem?_set]
  by_cases hk : i = k
  · subst hk; rw [if_pos rfl, if_pos h, if_pos rfl]; rfl
  · rw [if_neg hk, if_neg (fun e => hk e.symm), List.getD_eq_getElem?_getD]
theorem rdP_swp (xs : List Pk) (i j k : Nat) (hi : i < xs.length) (hj : j < xs.length) : rdP (swp xs i j) k = if k = j then rdP xs i else if k = i then rdP xs j else rdP xs k := by
  unfold swp
  rw [rdP_set _ _ _ _ (by rw [List.length_set]; exact hj), rdP_set _ _ _ _ hi]
theorem swp_perm (xs : List Pk) (i j : Nat) (hi : i < xs.length) (hj : j < xs.length) : (swp xs i j).Perm xs := by
  have h := Array.swap_perm (xs := xs.toArray) (i := i) (j := j) (by simpa using hi) (by simpa using hj)
  have h2 := h.toList
  rw [List.toList_toArray] at h2
  have h3 : (xs.toArray.swap i j (by simpa using hi) (by simpa using hj)).toList = swp xs i j := by
    refine List.ext_getElem? fun k => ?_
    unfold swp
    rw [rdP_get xs i hi, rdP_get xs j hj]
    simp [Array.swap]
  rw [h3] at h2
  exact h2
/-- From xs to ys only the part from a to b was put in another order. -/
structure PermIn (a b : Nat) (xs ys : List Pk) : Prop where
  len : ys.length = xs.length
  pm : ys.Perm xs
  out : ∀ k, k < a ∨ b ≤ k → rdP ys k = rdP xs k
  inn : ∀ k, a ≤ k → k < b → ∃ k', a ≤ k' ∧ k' < b ∧ rdP ys k = rdP xs k'
theorem PermIn.refl (a b : Nat) (xs : List Pk) : PermIn a b xs xs := ⟨rfl, .refl _, fun _ _ => rfl, fun k h1 h2 => ⟨k, h1, h2, rfl⟩⟩
theorem PermIn.trans {a b : Nat} {xs ys zs : List Pk} (h : PermIn a b xs ys) (k : PermIn a b ys zs) : PermIn a b xs zs :=
  ⟨k.len.trans h.len, k.pm.trans h.pm, fun i hi => (k.out i hi).trans (h.out i hi), fun i h1 h2 => by
    obtain ⟨i', a1, a2, a3⟩ := k.inn i h1 h2
    obtain ⟨i2, b1, b2, b3⟩ := h.inn i' a1 a2
    exact ⟨i2, b1, b2, a3.trans b3⟩⟩
theorem PermIn.mono {a b a' b' : Nat} {xs ys : List Pk} (h : PermIn a b xs ys) (ha : a' ≤ a) (hb : b ≤ b') : PermIn a' b' xs ys :=
  ⟨h.len, h.pm, fun i hi => h.out i (by omega), fun i h1 h2 => by
    by_cases hi : a ≤ i ∧ i < b
    · obtain ⟨i', a1, a2, a3⟩ := h.inn i hi.1 hi.2
      exact ⟨i', by omega, by omega, a3⟩
    · exact ⟨i, h1, h2, h.out i (by omega)⟩⟩
theorem PermIn.swp {a b : Nat} (xs : List Pk) (i j : Nat) (hi : a ≤ i ∧ i < b) (hj : a ≤ j ∧ j < b) (hb : b ≤ xs.length) : PermIn a b xs (swp xs i j) := by
  have h1 : i < xs.length := by omega
  have h2 : j < xs.length := by omega
  refine ⟨swp_len _ _ _, swp_perm _ _ _ h1 h2, fun k hk => ?_, fun k hk1 hk2 => ?_⟩
  · rw [rdP_swp _ _ _ _ h1 h2, if_neg (by omega), if_neg (by omega)]
  · rw [rdP_swp _ _ _ _ h1 h2]
    by_cases e1 : k = j
    · rw [if_pos e1]; exact ⟨i, hi.1, hi.2, rfl⟩
    · rw [if_neg e1]
      by_cases e2 : k = i
      · rw [if_pos e2]; exact ⟨j, hj.1, hj.2, rfl⟩
      · rw [if_neg e2]; exact ⟨k, hk1, hk2, rfl⟩
/-- Weights do not fall from a to b. -/
def Sorted (a b : Nat) (xs : List Pk) : Prop := ∀ p q, a ≤ p → p < q → q < b → wtP xs p ≤ wtP xs q
theorem Sorted.le {a b : Nat} {xs : List Pk} (h : Sorted a b xs) {p q : Nat} (h1 : a ≤ p) (h2 : p ≤ q) (h3 : q < b) : wtP xs p ≤ wtP xs q := by
  by_cases e : p = q
  · subst e; exact Int.le_refl _
  · exact h p q h1 (by omega) h3
theorem Sorted.congr {a b : Nat} {xs ys : List Pk} (h : Sorted a b xs) (e : ∀ k, a ≤ k → k < b → rdP ys k = rdP xs k) : Sorted a b ys := fun p q h1 h2 h3 => by
  unfold wtP
  rw [e p h1 (by omega), e q (by omega) h3]
  exact h p q h1 h2 h3
def rotI (a m b k : Nat) : Nat := if a ≤ k ∧ k < a + (b - m) then k + (m - a) else if a + (b - m) ≤ k ∧ k < b then k - (b - m) else k
theorem rotI_cases (a m b k : Nat) : (a ≤ k ∧ k < a + (b - m) ∧ rotI a m b k = k + (m - a)) ∨ (a + (b - m) ≤ k ∧ k < b ∧ rotI a m b k = k - (b - m)) ∨ (¬ (a ≤ k ∧ k < a + (b - m)) ∧ ¬ (a + (b - m) ≤ k ∧ k < b) ∧ rotI a m b k = k) := by
  unfold rotI
  split
  · left; omega
  · split
    · right; left; omega
    · right; right; omega
/-- Packs of one weight stand in the same order. -/
def FilEq (xs ys : List Pk) : Prop := ∀ w : Int, ys.filter (fun p => p.wt == w) = xs.filter (fun p => p.wt == w)
theorem FilEq.refl (xs : List Pk) : FilEq xs xs := fun _ => rfl
theorem FilEq.trans {xs ys zs : List Pk} (h : FilEq xs ys) (k : FilEq ys zs) : FilEq xs zs := fun w => (k w).trans (h w)
theorem cut_four (xs : List Pk) {s m e : Nat} (h1 : s ≤ m) (h2 : m ≤ e) : xs = xs.take s ++ ((xs.drop s).take (m - s) ++ ((xs.drop m).take (e - m) ++ xs.drop e)) := by
  have a1 : xs.drop m = (xs.drop m).take (e - m) ++ xs.drop e := by
    have := (List.take_append_drop (e - m) (xs.drop m)).symm
    rw [List.drop_drop, show m + (e - m) = e by omega] at this
    exact this
  have a2 : xs.drop s = (xs.drop s).take (m - s) ++ xs.drop m := by
    have := (List.take_append_drop (m - s) (xs.drop s)).symm
    rw [List.drop_drop, show s + (m - s) = m by omega] at this
    exact this
  rw [← a1, ← a2, List.take_append_drop]
theorem fil_rot {xs ys : List Pk} {s m e : Nat} (hl : ys.length = xs.length) (h1 : s ≤ m) (h2 : m ≤ e) (h3 : e ≤ xs.length) (hy : ∀ k, rdP ys k = rdP xs (rotI s m e k))
    (hne : ∀ p q, s ≤ p → p < m → m ≤ q → q < e → wtP xs p ≠ wtP xs q) : FilEq xs ys := by
  have e1 : ys = xs.take s ++ ((xs.drop m).take (e - m) ++ ((xs.drop s).take (m - s) ++ xs.drop e)) := by
    refine List.ext_getElem (by simp; omega) fun k k1 k2 => ?_
    have hk : k < xs.length := by omega
    have hh := hy k
    have c := rotI_cases s m e k
    have hlt : rotI s m e k < xs.length := by omega
    rw [rdP_get ys k k1, rdP_get xs _ hlt] at hh
    rw [hh]
    by_cases g1 : k < s
    · rw [List.getElem_append_left (by simp; omega), List.getElem_take]
      congr 1; omega
    · rw [List.getElem_append_right (by simp; omega)]
      by_cases g2 : k < s + (e - m)
      · rw [List.getElem_append_left (by simp; omega), List.getElem_take, List.getElem_drop]
        congr 1; simp; omega
      · rw [List.getElem_append_right (by simp; omega)]
        by_cases g3 : k < e
        · rw [List.getElem_append_left (by simp; omega), List.getElem_take, List.getElem_drop]
          congr 1; simp; omega
        · rw [List.getElem_append_right (by simp; omega), List.getElem_drop]
          congr 1; simp; omega
  intro w
  rw [e1]
  conv => rhs; rw [cut_four xs h1 h2]
  simp only [List.filter_append]
  have k1 : ∀ p ∈ (xs.drop s).take (m - s), ∃ i, s ≤ i ∧ i < m ∧ p.wt = wtP xs i := fun p hp => by
    obtain ⟨i, hi, rfl⟩ := List.mem_iff_getElem.1 hp
    simp at hi
    refine ⟨s + i, by omega, by omega, ?_⟩
    rw [List.getElem_take, List.getElem_drop]
    unfold wtP
    rw [rdP_get _ _ (by omega)]
  have k2 : ∀ p ∈ (xs.drop m).take (e - m), ∃ i, m ≤ i ∧ i < e ∧ p.wt = wtP xs i := fun p hp => by
    obtain ⟨i, hi, rfl⟩ := List.mem_iff_getElem.1 hp
    simp at hi
    refine ⟨m + i, by omega, by omega, ?_⟩
    rw [List.getElem_take, List.getElem_drop]
    unfold wtP
    rw [rdP_get _ _ (by omega)]
  by_cases hz : ∃ p ∈ (xs.drop s).take (m - s), p.wt = w
  · obtain ⟨p, hp, rfl⟩ := hz
    obtain ⟨i, i1, i2, i3⟩ := k1 p hp
    have z : List.filter (fun q => q.wt == p.wt) ((xs.drop m).take (e - m)) = [] := by
      rw [List.filter_eq_nil_iff]
      intro q hq
      obtain ⟨j, j1, j2, j3⟩ := k2 q hq
      simp only [beq_iff_eq]
      intro hh
      exact hne i j i1 i2 j1 j2 (by rw [← i3, ← j3, hh])
    rw [z, List.nil_append, List.nil_append]
  · have z : List.filter (fun q => q.wt == w) ((xs.drop s).take (m - s)) = [] := by
      rw [List.filter_eq_nil_iff]
      intro q hq
      simp only [beq_iff_eq]
      exact fun hh => hz ⟨q, hq, hh⟩
    rw [z, List.nil_append, List.nil_append]
theorem FilEq.adj {ys : List Pk} {j : Nat} (hj : 0 < j) (hb : j < ys.length) (hlt : wtP ys j < wtP ys (j - 1)) : FilEq ys (swp ys j (j - 1)) := by
  refine fil_rot (s := j - 1) (m := j) (e := j + 1) (swp_len _ _ _) (by omega) (by omega) (by omega) (fun k => ?_) (fun p q h1 h2 h3 h4 => ?_)
  · rw [rdP_swp _ _ _ _ hb (by omega)]
    have c := rotI_cases (j - 1) j (j + 1) k
    split
    · rw [show rotI (j - 1) j (j + 1) k = j by omega]
    · split
      · rw [show rotI (j - 1) j (j + 1) k = j - 1 by omega]
      · rw [show rotI (j - 1) j (j + 1) k = k by omega]
  · rw [show p = j - 1 by omega, show q = j by omega]
    omega
/-- From xs to ys only the part from a to b was put in another order, packs of one weight stay in theirs. -/
structure PermS (a b : Nat) (xs ys : List Pk) : Prop extends PermIn a b xs ys where
  fil : FilEq xs ys
theorem PermS.refl (a b : Nat) (xs : List Pk) : PermS a b xs xs := ⟨PermIn.refl a b xs, FilEq.refl xs⟩
theorem PermS.trans {a b : Nat} {xs ys zs : List Pk} (h : PermS a b xs ys) (k : PermS a b ys zs) : PermS a b xs zs := ⟨h.toPermIn.trans k.toPermIn, h.fil.trans k.fil⟩
theorem PermS.mono {a b a' b' : Nat} {xs ys : List Pk} (h : PermS a b xs ys) (ha : a' ≤ a) (hb : b ≤ b') : PermS a' b' xs ys := ⟨h.toPermIn.mono ha hb, h.fil⟩
/-- The inner loop of the insertion sort: element j is still on its way down. -/
structure InsI (a b i j : Nat) (xs ys : List Pk) : Prop where
  pm : PermS a b xs ys
  rg : a ≤ j ∧ j ≤ i ∧ i < b
  so : ∀ p q, a ≤ p → p < q → q ≤ i → p ≠ j → q ≠ j → wtP ys p ≤ wtP ys q
  up : ∀ q, j < q → q ≤ i → wtP ys j ≤ wtP ys q
theorem InsI.start {a b i : Nat} {xs ys : List Pk} (hp : PermS a b xs ys) (hs : Sorted a i ys) (hi : a ≤ i ∧ i < b) : InsI a b i i xs ys :=
  ⟨hp, ⟨hi.1, Nat.le_refl _, hi.2⟩, fun p q h1 h2 h3 h4 h5 => hs p q h1 h2 (by omega), fun q h1 h2 => by omega⟩
theorem InsI.step {a b i j : Nat} {xs ys : List Pk} (h : InsI a b i j xs ys) (hj : a < j) (hb : b ≤ ys.length) (hlt : wtP ys j < wtP ys (j - 1)) : InsI a b i (j - 1) xs (swp ys j (j - 1)) := by
  have hj2 := h.rg
  have h1 : j < ys.length := by omega
  have h2 : j - 1 < ys.length := by omega
  have hw : ∀ k, wtP (swp ys j (j - 1)) k = if k = j - 1 then wtP ys j else if k = j then wtP ys (j - 1) else wtP ys k := fun k => by
    unfold wtP
    rw [rdP_swp _ _ _ _ h1 h2]
    split
    · rfl
    · split <;> rfl
  refine ⟨h.pm.trans ⟨PermIn.swp ys j (j - 1) (by omega) (by omega) hb, FilEq.adj (by omega) h1 hlt⟩, by omega, fun p q p1 p2 p3 p4 p5 => ?_, fun q q1 q2 => ?_⟩
  · rw [hw, hw, if_neg p4, if_neg p5]
    by_cases e1 : p = j
    · subst e1
      rw [if_pos rfl, if_neg (by omega)]
      exact h.so (p - 1) q (by omega) (by omega) p3 (by omega) (by omega)
    · rw [if_neg e1]
      by_cases e2 : q = j
      · subst e2
        rw [if_pos rfl]
        exact h.so p (q - 1) p1 (by omega) (by omega) e1 (by omega)
      · rw [if_neg e2]
        exact h.so p q p1 p2 p3 e1 e2
  · rw [hw, hw, if_pos rfl, if_neg (by omega)]
    by_cases e2 : q = j
    · rw [if_pos e2]; omega
    · rw [if_neg e2]; exact h.up q (by omega) q2
theorem InsI.done {a b i j : Nat} {xs ys : List Pk} (h : InsI a b i j xs ys) (hd : j = a ∨ wtP ys (j - 1) ≤ wtP ys j) : Sorted a (i + 1) ys := fun p q h1 h2 h3 => by
  have hj := h.rg
  by_cases e1 : p = j
  · subst e1; exact h.up q h2 (by omega)
  · by_cases e2 : q = j
    · subst e2
      rcases hd with hd | hd
      · omega
      · by_cases e3 : p = q - 1
        · subst e3; exact hd
        · exact Int.le_trans (h.so p (q - 1) h1 (by omega) (by omega) e1 (by omega)) hd
    · exact h.so p q h1 h2 (by omega) e1 e2
end Go.Proofs.Ytmmoenleldcadaa.HF
