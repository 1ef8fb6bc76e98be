/- Sorting packs, plain: swaps, what a part of a row keeps, order. Sorting packs, plain: parts are exchanged, turned, merged. Merging two parts that do not fall, plain. Blocks that do not fall, and their merging, plain. The best code's lengths, plain: the stable sort, the levels, the tally. -/
import Derived.Test.YtmmoenleldcadaaGC
namespace Go.Proofs.Ytmmoenleldcadaa.HF
def wtP (xs : List Pk) (i : Nat) : Int := (rdP xs i).wt
def swp (xs : List Pk) (i j : Nat) : List Pk := (xs.set i (rdP xs j)).set j (rdP xs i)
theorem swp_len (xs : List Pk) (i j : Nat) : (swp xs i j).length = xs.length := by unfold swp; rw [List.length_set, List.length_set]
theorem rdP_set (xs : List Pk) (i k : Nat) (x : Pk) (h : i < xs.length) : rdP (xs.set i x) k = if k = i then x else rdP xs k := by
  unfold rdP
  rw [List.getD_eq_getElem?_getD, List.getElem?_set]
  by_cases hk : i = k
  · subst hk; rw [if_pos rfl, if_pos h, if_pos rfl]; rfl
  · rw [if_neg hk, if_neg (fun e => hk e.symm), List.getD_eq_getElem?_getD]
theorem rdP_swp (xs : List Pk) (i j k : Nat) (hi : i < xs.length) (hj : j < xs.length) : rdP (swp xs i j) k = if k = j then rdP xs i else if k = i then rdP xs j else rdP xs k := by
  unfold swp
  rw [rdP_set _ _ _ _ (by rw [List.length_set]; exact hj), rdP_set _ _ _ _ hi]
theorem swp_perm (xs : List Pk) (i j : Nat) (hi : i < xs.length) (hj : j < xs.length) : (swp xs i j).Perm xs := by
  have h := Array.swap_perm (xs := xs.toArray) (i := i) (j := j) (by simpa using hi) (by simpa using hj)
  have h2 := h.toList
  rw [List.toList_toArray] at h2
  have h3 : (xs.toArray.swap i j (by simpa using hi) (by simpa using hj)).toList = swp xs i j := by
    refine List.ext_getElem? fun k => ?_
    unfold swp
    rw [rdP_get xs i hi, rdP_get xs j hj]
    simp [Array.swap]
  rw [h3] at h2
  exact h2
/-- From xs to ys only the part from a to b was put in another order. -/
structure PermIn (a b : Nat) (xs ys : List Pk) : Prop where
  len : ys.length = xs.length
  pm : ys.Perm xs
  out : ∀ k, k < a ∨ b ≤ k → rdP ys k = rdP xs k
  inn : ∀ k, a ≤ k → k < b → ∃ k', a ≤ k' ∧ k' < b ∧ rdP ys k = rdP xs k'
theorem PermIn.refl (a b : Nat) (xs : List Pk) : PermIn a b xs xs := ⟨rfl, .refl _, fun _ _ => rfl, fun k h1 h2 => ⟨k, h1, h2, rfl⟩⟩
theorem PermIn.trans {a b : Nat} {xs ys zs : List Pk} (h : PermIn a b xs ys) (k : PermIn a b ys zs) : PermIn a b xs zs :=
  ⟨k.len.trans h.len, k.pm.trans h.pm, fun i hi => (k.out i hi).trans (h.out i hi), fun i h1 h2 => by
    obtain ⟨i', a1, a2, a3⟩ := k.inn i h1 h2
    obtain ⟨i2, b1, b2, b3⟩ := h.inn i' a1 a2
    exact ⟨i2, b1, b2, a3.trans b3⟩⟩
theorem PermIn.mono {a b a' b' : Nat} {xs ys : List Pk} (h : PermIn a b xs ys) (ha : a' ≤ a) (hb : b ≤ b') : PermIn a' b' xs ys :=
  ⟨h.len, h.pm, fun i hi => h.out i (by omega), fun i h1 h2 => by
    by_cases hi : a ≤ i ∧ i < b
    · obtain ⟨i', a1, a2, a3⟩ := h.inn i hi.1 hi.2
      exact ⟨i', by omega, by omega, a3⟩
    · exact ⟨i, h1, h2, h.out i (by omega)⟩⟩
theorem PermIn.swp {a b : Nat} (xs : List Pk) (i j : Nat) (hi : a ≤ i ∧ i < b) (hj : a ≤ j ∧ j < b) (hb : b ≤ xs.length) : PermIn a b xs (swp xs i j) := by
  have h1 : i < xs.length := by omega
  have h2 : j < xs.length := by omega
  refine ⟨swp_len _ _ _, swp_perm _ _ _ h1 h2, fun k hk => ?_, fun k hk1 hk2 => ?_⟩
  · rw [rdP_swp _ _ _ _ h1 h2, if_neg (by omega), if_neg (by omega)]
  · rw [rdP_swp _ _ _ _ h1 h2]
    by_cases e1 : k = j
    · rw [if_pos e1]; exact ⟨i, hi.1, hi.2, rfl⟩
    · rw [if_neg e1]
      by_cases e2 : k = i
      · rw [if_pos e2]; exact ⟨j, hj.1, hj.2, rfl⟩
      · rw [if_neg e2]; exact ⟨k, hk1, hk2, rfl⟩
/-- Weights do not fall from a to b. -/
def Sorted (a b : Nat) (xs : List Pk) : Prop := ∀ p q, a ≤ p → p < q → q < b → wtP xs p ≤ wtP xs q
theorem Sorted.le {a b : Nat} {xs : List Pk} (h : Sorted a b xs) {p q : Nat} (h1 : a ≤ p) (h2 : p ≤ q) (h3 : q < b) : wtP xs p ≤ wtP xs q := by
  by_cases e : p = q
  · subst e; exact Int.le_refl _
  · exact h p q h1 (by omega) h3
theorem Sorted.congr {a b : Nat} {xs ys : List Pk} (h : Sorted a b xs) (e : ∀ k, a ≤ k → k < b → rdP ys k = rdP xs k) : Sorted a b ys := fun p q h1 h2 h3 => by
  unfold wtP
  rw [e p h1 (by omega), e q (by omega) h3]
  exact h p q h1 h2 h3
def rotI (a m b k : Nat) : Nat := if a ≤ k ∧ k < a + (b - m) then k + (m - a) else if a + (b - m) ≤ k ∧ k < b then k - (b - m) else k
theorem rotI_cases (a m b k : Nat) : (a ≤ k ∧ k < a + (b - m) ∧ rotI a m b k = k + (m - a)) ∨ (a + (b - m) ≤ k ∧ k < b ∧ rotI a m b k = k - (b - m)) ∨ (¬ (a ≤ k ∧ k < a + (b - m)) ∧ ¬ (a + (b - m) ≤ k ∧ k < b) ∧ rotI a m b k = k) := by
  unfold rotI
  split
  · left; omega
  · split
    · right; left; omega
    · right; right; omega
/-- Packs of one weight stand in the same order. -/
def FilEq (xs ys : List Pk) : Prop := ∀ w : Int, ys.filter (fun p => p.wt == w) = xs.filter (fun p => p.wt == w)
theorem FilEq.refl (xs : List Pk) : FilEq xs xs := fun _ => rfl
theorem FilEq.trans {xs ys zs : List Pk} (h : FilEq xs ys) (k : FilEq ys zs) : FilEq xs zs := fun w => (k w).trans (h w)
theorem cut_four (xs : List Pk) {s m e : Nat} (h1 : s ≤ m) (h2 : m ≤ e) : xs = xs.take s ++ ((xs.drop s).take (m - s) ++ ((xs.drop m).take (e - m) ++ xs.drop e)) := by
  have a1 : xs.drop m = (xs.drop m).take (e - m) ++ xs.drop e := by
    have := (List.take_append_drop (e - m) (xs.drop m)).symm
    rw [List.drop_drop, show m + (e - m) = e by omega] at this
    exact this
  have a2 : xs.drop s = (xs.drop s).take (m - s) ++ xs.drop m := by
    have := (List.take_append_drop (m - s) (xs.drop s)).symm
    rw [List.drop_drop, show s + (m - s) = m by omega] at this
    exact this
  rw [← a1, ← a2, List.take_append_drop]
theorem fil_rot {xs ys : List Pk} {s m e : Nat} (hl : ys.length = xs.length) (h1 : s ≤ m) (h2 : m ≤ e) (h3 : e ≤ xs.length) (hy : ∀ k, rdP ys k = rdP xs (rotI s m e k))
    (hne : ∀ p q, s ≤ p → p < m → m ≤ q → q < e → wtP xs p ≠ wtP xs q) : FilEq xs ys := by
  have e1 : ys = xs.take s ++ ((xs.drop m).take (e - m) ++ ((xs.drop s).take (m - s) ++ xs.drop e)) := by
    refine List.ext_getElem (by simp; omega) fun k k1 k2 => ?_
    have hk : k < xs.length := by omega
    have hh := hy k
    have c := rotI_cases s m e k
    have hlt : rotI s m e k < xs.length := by omega
    rw [rdP_get ys k k1, rdP_get xs _ hlt] at hh
    rw [hh]
    by_cases g1 : k < s
    · rw [List.getElem_append_left (by simp; omega), List.getElem_take]
      congr 1; omega
    · rw [List.getElem_append_right (by simp; omega)]
      by_cases g2 : k < s + (e - m)
      · rw [List.getElem_append_left (by simp; omega), List.getElem_take, List.getElem_drop]
        congr 1; simp; omega
      · rw [List.getElem_append_right (by simp; omega)]
        by_cases g3 : k < e
        · rw [List.getElem_append_left (by simp; omega), List.getElem_take, List.getElem_drop]
          congr 1; simp; omega
        · rw [List.getElem_append_right (by simp; omega), List.getElem_drop]
          congr 1; simp; omega
  intro w
  rw [e1]
  conv => rhs; rw [cut_four xs h1 h2]
  simp only [List.filter_append]
  have k1 : ∀ p ∈ (xs.drop s).take (m - s), ∃ i, s ≤ i ∧ i < m ∧ p.wt = wtP xs i := fun p hp => by
    obtain ⟨i, hi, rfl⟩ := List.mem_iff_getElem.1 hp
    simp at hi
    refine ⟨s + i, by omega, by omega, ?_⟩
    rw [List.getElem_take, List.getElem_drop]
    unfold wtP
    rw [rdP_get _ _ (by omega)]
  have k2 : ∀ p ∈ (xs.drop m).take (e - m), ∃ i, m ≤ i ∧ i < e ∧ p.wt = wtP xs i := fun p hp => by
    obtain ⟨i, hi, rfl⟩ := List.mem_iff_getElem.1 hp
    simp at hi
    refine ⟨m + i, by omega, by omega, ?_⟩
    rw [List.getElem_take, List.getElem_drop]
    unfold wtP
    rw [rdP_get _ _ (by omega)]
  by_cases hz : ∃ p ∈ (xs.drop s).take (m - s), p.wt = w
  · obtain ⟨p, hp, rfl⟩ := hz
    obtain ⟨i, i1, i2, i3⟩ := k1 p hp
    have z : List.filter (fun q => q.wt == p.wt) ((xs.drop m).take (e - m)) = [] := by
      rw [List.filter_eq_nil_iff]
      intro q hq
      obtain ⟨j, j1, j2, j3⟩ := k2 q hq
      simp only [beq_iff_eq]
      intro hh
      exact hne i j i1 i2 j1 j2 (by rw [← i3, ← j3, hh])
    rw [z, List.nil_append, List.nil_append]
  · have z : List.filter (fun q => q.wt == w) ((xs.drop s).take (m - s)) = [] := by
      rw [List.filter_eq_nil_iff]
      intro q hq
      simp only [beq_iff_eq]
      exact fun hh => hz ⟨q, hq, hh⟩
    rw [z, List.nil_append, List.nil_append]
theorem FilEq.adj {ys : List Pk} {j : Nat} (hj : 0 < j) (hb : j < ys.length) (hlt : wtP ys j < wtP ys (j - 1)) : FilEq ys (swp ys j (j - 1)) := by
  refine fil_rot (s := j - 1) (m := j) (e := j + 1) (swp_len _ _ _) (by omega) (by omega) (by omega) (fun k => ?_) (fun p q h1 h2 h3 h4 => ?_)
  · rw [rdP_swp _ _ _ _ hb (by omega)]
    have c := rotI_cases (j - 1) j (j + 1) k
    split
    · rw [show rotI (j - 1) j (j + 1) k = j by omega]
    · split
      · rw [show rotI (j - 1) j (j + 1) k = j - 1 by omega]
      · rw [show rotI (j - 1) j (j + 1) k = k by omega]
  · rw [show p = j - 1 by omega, show q = j by omega]
    omega
/-- From xs to ys only the part from a to b was put in another order, packs of one weight stay in theirs. -/
structure PermS (a b : Nat) (xs ys : List Pk) : Prop extends PermIn a b xs ys where
  fil : FilEq xs ys
theorem PermS.refl (a b : Nat) (xs : List Pk) : PermS a b xs xs := ⟨PermIn.refl a b xs, FilEq.refl xs⟩
theorem PermS.trans {a b : Nat} {xs ys zs : List Pk} (h : PermS a b xs ys) (k : PermS a b ys zs) : PermS a b xs zs := ⟨h.toPermIn.trans k.toPermIn, h.fil.trans k.fil⟩
theorem PermS.mono {a b a' b' : Nat} {xs ys : List Pk} (h : PermS a b xs ys) (ha : a' ≤ a) (hb : b ≤ b') : PermS a' b' xs ys := ⟨h.toPermIn.mono ha hb, h.fil⟩
/-- The inner loop of the insertion sort: element j is still on its way down. -/
structure InsI (a b i j : Nat) (xs ys : List Pk) : Prop where
  pm : PermS a b xs ys
  rg : a ≤ j ∧ j ≤ i ∧ i < b
  so : ∀ p q, a ≤ p → p < q → q ≤ i → p ≠ j → q ≠ j → wtP ys p ≤ wtP ys q
  up : ∀ q, j < q → q ≤ i → wtP ys j ≤ wtP ys q
theorem InsI.start {a b i : Nat} {xs ys : List Pk} (hp : PermS a b xs ys) (hs : Sorted a i ys) (hi : a ≤ i ∧ i < b) : InsI a b i i xs ys :=
  ⟨hp, ⟨hi.1, Nat.le_refl _, hi.2⟩, fun p q h1 h2 h3 h4 h5 => hs p q h1 h2 (by omega), fun q h1 h2 => by omega⟩
theorem InsI.step {a b i j : Nat} {xs ys : List Pk} (h : InsI a b i j xs ys) (hj : a < j) (hb : b ≤ ys.length) (hlt : wtP ys j < wtP ys (j - 1)) : InsI a b i (j - 1) xs (swp ys j (j - 1)) := by
  have hj2 := h.rg
  have h1 : j < ys.length := by omega
  have h2 : j - 1 < ys.length := by omega
  have hw : ∀ k, wtP (swp ys j (j - 1)) k = if k = j - 1 then wtP ys j else if k = j then wtP ys (j - 1) else wtP ys k := fun k => by
    unfold wtP
    rw [rdP_swp _ _ _ _ h1 h2]
    split
    · rfl
    · split <;> rfl
  refine ⟨h.pm.trans ⟨PermIn.swp ys j (j - 1) (by omega) (by omega) hb, FilEq.adj (by omega) h1 hlt⟩, by omega, fun p q p1 p2 p3 p4 p5 => ?_, fun q q1 q2 => ?_⟩
  · rw [hw, hw, if_neg p4, if_neg p5]
    by_cases e1 : p = j
    · subst e1
      rw [if_pos rfl, if_neg (by omega)]
      exact h.so (p - 1) q (by omega) (by omega) p3 (by omega) (by omega)
    · rw [if_neg e1]
      by_cases e2 : q = j
      · subst e2
        rw [if_pos rfl]
        exact h.so p (q - 1) p1 (by omega) (by omega) e1 (by omega)
      · rw [if_neg e2]
        exact h.so p q p1 p2 p3 e1 e2
  · rw [hw, hw, if_pos rfl, if_neg (by omega)]
    by_cases e2 : q = j
    · rw [if_pos e2]; omega
    · rw [if_neg e2]; exact h.up q (by omega) q2
theorem InsI.done {a b i j : Nat} {xs ys : List Pk} (h : InsI a b i j xs ys) (hd : j = a ∨ wtP ys (j - 1) ≤ wtP ys j) : Sorted a (i + 1) ys := fun p q h1 h2 h3 => by
  have hj := h.rg
  by_cases e1 : p = j
  · subst e1; exact h.up q h2 (by omega)
  · by_cases e2 : q = j
    · subst e2
      rcases hd with hd | hd
      · omega
      · by_cases e3 : p = q - 1
        · subst e3; exact hd
        · exact Int.le_trans (h.so p (q - 1) h1 (by omega) (by omega) e1 (by omega)) hd
    · exact h.so p q h1 h2 (by omega) e1 e2
end Go.Proofs.Ytmmoenleldcadaa.HF
namespace Go.Proofs.Ytmmoenleldcadaa.HF
/-- Where the element at i stood, ahead of the exchange of k elements from a and from b. -/
def swI (a b k i : Nat) : Nat := if a ≤ i ∧ i < a + k then i - a + b else if b ≤ i ∧ i < b + k then i - b + a else i
theorem swI_cases (a b k i : Nat) : (a ≤ i ∧ i < a + k ∧ swI a b k i = i - a + b) ∨ (¬ (a ≤ i ∧ i < a + k) ∧ b ≤ i ∧ i < b + k ∧ swI a b k i = i - b + a) ∨ (¬ (a ≤ i ∧ i < a + k) ∧ ¬ (b ≤ i ∧ i < b + k) ∧ swI a b k i = i) := by
  unfold swI
  split
  · left; omega
  · split
    · right; left; omega
    · right; right; omega
/-- So far k elements from a and from b were exchanged. -/
structure SwR (lo hi a b k : Nat) (xs ys : List Pk) : Prop where
  pm : PermIn lo hi xs ys
  rd : ∀ i, rdP ys i = rdP xs (swI a b k i)
theorem SwR.start (lo hi a b : Nat) (xs : List Pk) : SwR lo hi a b 0 xs xs := ⟨PermIn.refl _ _ _, fun i => by
  have := swI_cases a b 0 i
  rw [show swI a b 0 i = i by omega]⟩
theorem SwR.step {lo hi a b k : Nat} {xs ys : List Pk} (h : SwR lo hi a b k xs ys) (ha : lo ≤ a) (hab : a + k < b) (hb : b + k < hi) (hh : hi ≤ ys.length) : SwR lo hi a b (k + 1) xs (swp ys (a + k) (b + k)) := by
  refine ⟨h.pm.trans (PermIn.swp ys (a + k) (b + k) (by omega) (by omega) hh), fun i => ?_⟩
  rw [rdP_swp _ _ _ _ (by omega) (by omega), h.rd, h.rd, h.rd]
  have c1 := swI_cases a b k (a + k)
  have c2 := swI_cases a b k (b + k)
  have c3 := swI_cases a b k i
  have c4 := swI_cases a b (k + 1) i
  split
  · congr 1; omega
  · split
    · congr 1; omega
    · congr 1; omega
theorem rot_gt {m i j : Nat} (hi_ : i ≤ m) (hj : j < i) (hj0 : 0 < j) (k : Nat) : rotI (m - i) m (m + j) k = swI (m - i) m j (rotI (m - (i - j)) m (m + j) k) := by
  have c1 := rotI_cases (m - i) m (m + j) k
  have c2 := rotI_cases (m - (i - j)) m (m + j) k
  generalize rotI (m - (i - j)) m (m + j) k = r at c2 ⊢
  have c3 := swI_cases (m - i) m j r
  omega
theorem rot_lt {m i j : Nat} (hi_ : i ≤ m) (hj : i < j) (hi0 : 0 < i) (k : Nat) : rotI (m - i) m (m + j) k = swI (m - i) (m + j - i) i (rotI (m - i) m (m + (j - i)) k) := by
  have c1 := rotI_cases (m - i) m (m + j) k
  have c2 := rotI_cases (m - i) m (m + (j - i)) k
  generalize rotI (m - i) m (m + (j - i)) k = r at c2 ⊢
  have c3 := swI_cases (m - i) (m + j - i) i r
  omega
theorem rot_eq {m i : Nat} (hi_ : i ≤ m) (k : Nat) : rotI (m - i) m (m + i) k = swI (m - i) m i k := by
  have c1 := rotI_cases (m - i) m (m + i) k
  have c3 := swI_cases (m - i) m i k
  omega
end Go.Proofs.Ytmmoenleldcadaa.HF
namespace Go.Proofs.Ytmmoenleldcadaa.HF
/-- One element, at a, goes up behind the elements ahead of i. -/
def upI (a k q : Nat) : Nat := if a ≤ q ∧ q < k then q + 1 else if q = k then a else q
theorem upI_cases (a k q : Nat) : (a ≤ q ∧ q < k ∧ upI a k q = q + 1) ∨ (q = k ∧ ¬ (a ≤ q ∧ q < k) ∧ upI a k q = a) ∨ (¬ (a ≤ q ∧ q < k) ∧ q ≠ k ∧ upI a k q = q) := by
  unfold upI
  split
  · left; omega
  · split
    · right; left; omega
    · right; right; omega
structure UpR (a b k : Nat) (xs ys : List Pk) : Prop where
  pm : PermIn a b xs ys
  rd : ∀ q, rdP ys q = rdP xs (upI a k q)
theorem UpR.start (a b : Nat) (xs : List Pk) : UpR a b a xs xs := ⟨PermIn.refl _ _ _, fun q => by
  have := upI_cases a a q
  rw [show upI a a q = q by omega]⟩
theorem UpR.step {a b k : Nat} {xs ys : List Pk} (h : UpR a b k xs ys) (ha : a ≤ k) (hb : k + 1 < b) (hh : b ≤ ys.length) : UpR a b (k + 1) xs (swp ys k (k + 1)) := by
  refine ⟨h.pm.trans (PermIn.swp ys k (k + 1) (by omega) (by omega) hh), fun q => ?_⟩
  rw [rdP_swp _ _ _ _ (by omega) (by omega), h.rd, h.rd, h.rd]
  have c1 := upI_cases a k k
  have c2 := upI_cases a k (k + 1)
  have c3 := upI_cases a k q
  have c4 := upI_cases a (k + 1) q
  split
  · congr 1; omega
  · split
    · congr 1; omega
    · congr 1; omega
theorem UpR.sorted {a b i : Nat} {xs ys : List Pk} (h : UpR a b (i - 1) xs ys) (hi : a < i ∧ i ≤ b) (hs : Sorted (a + 1) b xs) (h1 : ∀ q, a < q → q < i → wtP xs q < wtP xs a) (h2 : ∀ q, i ≤ q → q < b → wtP xs a ≤ wtP xs q) : Sorted a b ys := fun p q p1 p2 p3 => by
  unfold wtP
  rw [h.rd, h.rd]
  have c1 := upI_cases a (i - 1) p
  have c2 := upI_cases a (i - 1) q
  by_cases e1 : p = i - 1
  · rw [show upI a (i - 1) p = a by omega, show upI a (i - 1) q = q by omega]
    exact h2 q (by omega) p3
  · by_cases e2 : q = i - 1
    · rw [show upI a (i - 1) p = p + 1 by omega, show upI a (i - 1) q = a by omega]
      exact Int.le_of_lt (h1 (p + 1) (by omega) (by omega))
    · exact hs.le (p := upI a (i - 1) p) (q := upI a (i - 1) q) (by omega) (by omega) (by omega)
theorem UpR.perm {a b i : Nat} {xs ys : List Pk} (h : UpR a b (i - 1) xs ys) (hi : a < i ∧ i ≤ b) (hb : b ≤ xs.length) (h1 : ∀ q, a < q → q < i → wtP xs q < wtP xs a) : PermS a b xs ys :=
  ⟨h.pm, fil_rot (s := a) (m := a + 1) (e := i) h.pm.len (by omega) (by omega) (by omega) (fun q => by
    rw [h.rd]
    have c1 := upI_cases a (i - 1) q
    have c2 := rotI_cases a (a + 1) i q
    congr 1; omega) (fun p q p1 p2 p3 p4 => by
    have := h1 q (by omega) p4
    rw [show p = a by omega]
    omega)⟩
/-- One element, at m, goes down to i. -/
def dnI (k m q : Nat) : Nat := if q = k then m else if k < q ∧ q ≤ m then q - 1 else q
theorem dnI_cases (k m q : Nat) : (q = k ∧ dnI k m q = m) ∨ (q ≠ k ∧ k < q ∧ q ≤ m ∧ dnI k m q = q - 1) ∨ (q ≠ k ∧ ¬ (k < q ∧ q ≤ m) ∧ dnI k m q = q) := by
  unfold dnI
  split
  · left; omega
  · split
    · right; left; omega
    · right; right; omega
structure DnR (a b m k : Nat) (xs ys : List Pk) : Prop where
  pm : PermIn a b xs ys
  rd : ∀ q, rdP ys q = rdP xs (dnI k m q)
theorem DnR.start (a b m : Nat) (xs : List Pk) : DnR a b m m xs xs := ⟨PermIn.refl _ _ _, fun q => by
  have := dnI_cases m m q
  rw [show dnI m m q = q by omega]⟩
theorem DnR.step {a b m k : Nat} {xs ys : List Pk} (h : DnR a b m k xs ys) (ha : a < k) (hk : k ≤ m) (hb : m < b) (hh : b ≤ ys.length) : DnR a b m (k - 1) xs (swp ys k (k - 1)) := by
  refine ⟨h.pm.trans (PermIn.swp ys k (k - 1) (by omega) (by omega) hh), fun q => ?_⟩
  rw [rdP_swp _ _ _ _ (by omega) (by omega), h.rd, h.rd, h.rd]
  have c1 := dnI_cases k m k
  have c2 := dnI_cases k m (k - 1)
  have c3 := dnI_cases k m q
  have c4 := dnI_cases (k - 1) m q
  split
  · congr 1; omega
  · split
    · congr 1; omega
    · congr 1; omega
theorem DnR.sorted {a b m i : Nat} {xs ys : List Pk} (h : DnR a b m i xs ys) (hi : a ≤ i ∧ i ≤ m) (hb : b = m + 1) (hs : Sorted a m xs) (h1 : ∀ q, a ≤ q → q < i → wtP xs q ≤ wtP xs m) (h2 : ∀ q, i ≤ q → q < m → wtP xs m < wtP xs q) : Sorted a b ys := fun p q p1 p2 p3 => by
  unfold wtP
  rw [h.rd, h.rd]
  have c1 := dnI_cases i m p
  have c2 := dnI_cases i m q
  by_cases e1 : p = i
  · rw [show dnI i m p = m by omega, show dnI i m q = q - 1 by omega]
    exact Int.le_of_lt (h2 (q - 1) (by omega) (by omega))
  · by_cases e2 : q = i
    · rw [show dnI i m p = p by omega, show dnI i m q = m by omega]
      exact h1 p p1 (by omega)
    · exact hs.le (p := dnI i m p) (q := dnI i m q) (by omega) (by omega) (by omega)
theorem DnR.perm {a b m i : Nat} {xs ys : List Pk} (h : DnR a b m i xs ys) (hi : a ≤ i ∧ i ≤ m) (hb : m < xs.length) (h2 : ∀ q, i ≤ q → q < m → wtP xs m < wtP xs q) : PermS a b xs ys :=
  ⟨h.pm, fil_rot (s := i) (m := m) (e := m + 1) h.pm.len (by omega) (by omega) (by omega) (fun q => by
    rw [h.rd]
    have c1 := dnI_cases i m q
    have c2 := rotI_cases i m (m + 1) q
    congr 1; omega) (fun p q p1 p2 p3 p4 => by
    have := h2 p p1 p2
    rw [show q = m by omega]
    omega)⟩
/-- The parts are cut and turned: what stands ahead of mid is no heavier than what stands behind it. -/
theorem merge_split {a m b st en mid : Nat} {xs ys : List Pk} (h1 : Sorted a m xs) (h2 : Sorted m b xs) (hr : a ≤ st ∧ st ≤ m ∧ m ≤ en ∧ en ≤ b) (hm : mid = st + (en - m))
    (x1 : a < st → en < b → wtP xs (st - 1) ≤ wtP xs en) (x2 : st < m → m < en → wtP xs (en - 1) ≤ wtP xs st) (hy : ∀ k, rdP ys k = rdP xs (rotI st m en k)) :
    Sorted a st ys ∧ Sorted st mid ys ∧ Sorted mid en ys ∧ Sorted en b ys ∧ ∀ p q, a ≤ p → p < mid → mid ≤ q → q < b → wtP ys p ≤ wtP ys q := by
  have hw : ∀ k, wtP ys k = wtP xs (rotI st m en k) := fun k => by unfold wtP; rw [hy]
  refine ⟨fun p q p1 p2 p3 => ?_, fun p q p1 p2 p3 => ?_, fun p q p1 p2 p3 => ?_, fun p q p1 p2 p3 => ?_, fun p q p1 p2 p3 p4 => ?_⟩
  · have c1 := rotI_cases st m en p
    have c2 := rotI_cases st m en q
    rw [hw, hw]
    exact h1.le (by omega) (by omega) (by omega)
  · have c1 := rotI_cases st m en p
    have c2 := rotI_cases st m en q
    rw [hw, hw]
    exact h2.le (by omega) (by omega) (by omega)
  · have c1 := rotI_cases st m en p
    have c2 := rotI_cases st m en q
    rw [hw, hw]
    exact h1.le (by omega) (by omega) (by omega)
  · have c1 := rotI_cases st m en p
    have c2 := rotI_cases st m en q
    rw [hw, hw]
    exact h2.le (by omega) (by omega) (by omega)
  · have c1 := rotI_cases st m en p
    have c2 := rotI_cases st m en q
    rw [hw, hw]
    by_cases e1 : p < st
    · by_cases e2 : q < en
      · exact h1.le (by omega) (by omega) (by omega)
      · have y1 : wtP xs (rotI st m en p) ≤ wtP xs (st - 1) := h1.le (by omega) (by omega) (by omega)
        have y2 : wtP xs en ≤ wtP xs (rotI st m en q) := h2.le (by omega) (by omega) (by omega)
        have := x1 (by omega) (by omega)
        omega
    · by_cases e2 : q < en
      · have y1 : wtP xs (rotI st m en p) ≤ wtP xs (en - 1) := h2.le (by omega) (by omega) (by omega)
        have y2 : wtP xs st ≤ wtP xs (rotI st m en q) := h1.le (by omega) (by omega) (by omega)
        have := x2 (by omega) (by omega)
        omega
      · exact h2.le (by omega) (by omega) (by omega)
/-- The turn keeps packs of one weight in their order. -/
theorem merge_perm {a m b st en : Nat} {xs ys : List Pk} (hp : PermIn a b xs ys) (h1 : Sorted a m xs) (h2 : Sorted m b xs) (hr : a ≤ st ∧ st ≤ m ∧ m ≤ en ∧ en ≤ b) (hb : b ≤ xs.length)
    (x2 : st < m → m < en → wtP xs (en - 1) < wtP xs st) (hy : ∀ k, rdP ys k = rdP xs (rotI st m en k)) : PermS a b xs ys :=
  ⟨hp, fil_rot hp.len hr.2.1 hr.2.2.1 (by omega) hy (fun p q p1 p2 p3 p4 => by
    have y1 : wtP xs st ≤ wtP xs p := h1.le hr.1 p1 p2
    have y2 : wtP xs q ≤ wtP xs (en - 1) := h2.le p3 (by omega) (by omega)
    have := x2 (by omega) (by omega)
    omega)⟩
theorem merge_join {a mid b : Nat} {ys zs us : List Pk} (hz : PermIn a mid ys zs) (sz : Sorted a mid zs) (hu : PermIn mid b zs us) (su : Sorted mid b us) (hx : ∀ p q, a ≤ p → p < mid → mid ≤ q → q < b → wtP ys p ≤ wtP ys q) : Sorted a b us := fun p q p1 p2 p3 => by
  by_cases e1 : q < mid
  · unfold wtP
    rw [hu.out p (by omega), hu.out q (by omega)]
    exact sz p q p1 p2 e1
  · by_cases e2 : mid ≤ p
    · exact su p q e2 p2 p3
    · obtain ⟨p', a1, a2, a3⟩ := hz.inn p p1 (by omega)
      obtain ⟨q', b1, b2, b3⟩ := hu.inn q (by omega) p3
      unfold wtP
      rw [hu.out p (by omega), a3, b3, hz.out q' (by omega)]
      exact hx p' q' a1 a2 b1 b2
/-- The cut is looked for: behind c the second part is lighter. -/
structure CutR (a m b lo hi n s r : Nat) (xs : List Pk) : Prop where
  rg : lo ≤ s ∧ s ≤ r ∧ r ≤ hi
  lt : ∀ c, lo ≤ c → c < s → wtP xs c ≤ wtP xs (n - 1 - c)
  ge : ∀ c, r ≤ c → c < hi → wtP xs (n - 1 - c) < wtP xs c
/-- The bounds of the search. -/
structure CutB (a m b lo hi n : Nat) : Prop where
  ham : a < m ∧ m < b
  hn : n = (a + b) / 2 + m
  hlo : a ≤ lo ∧ lo ≤ hi ∧ hi ≤ m
  hin : ∀ c, lo ≤ c → c < hi → m ≤ n - 1 - c ∧ n - 1 - c < b
  hl : lo = a ∨ n - lo = b
  hh : hi = m ∨ n - hi = m
  hen : m ≤ n - hi ∧ n - lo ≤ b
theorem CutB.mk1 {a m b : Nat} (h : a < m ∧ m < b) (hm : (a + b) / 2 < m) : CutB a m b ((a + b) / 2 + m - b) ((a + b) / 2) ((a + b) / 2 + m) := ⟨h, rfl, by omega, fun c h1 h2 => by omega, Or.inr (by omega), Or.inr (by omega), by omega⟩
theorem CutB.mk2 {a m b : Nat} (h : a < m ∧ m < b) (hm : m ≤ (a + b) / 2) : CutB a m b a m ((a + b) / 2 + m) := ⟨h, rfl, by omega, fun c h1 h2 => by omega, Or.inl rfl, Or.inl rfl, by omega⟩
theorem CutR.start {a m b lo hi n : Nat} {xs : List Pk} (h : CutB a m b lo hi n) : CutR a m b lo hi n lo hi xs := ⟨by have := h.hlo; omega, fun c h1 h2 => by omega, fun c h1 h2 => by omega⟩
theorem CutR.up {a m b lo hi n s r c : Nat} {xs : List Pk} (hb : CutB a m b lo hi n) (h1 : Sorted a m xs) (h2 : Sorted m b xs) (h : CutR a m b lo hi n s r xs) (hc : s ≤ c ∧ c < r) (hw : wtP xs c ≤ wtP xs (n - 1 - c)) : CutR a m b lo hi n (c + 1) r xs := by
  have hr := h.rg
  have hl := hb.hlo
  refine ⟨by omega, fun d d1 d2 => ?_, h.ge⟩
  have i1 := hb.hin c (by omega) (by omega)
  have i2 := hb.hin d (by omega) (by omega)
  have y1 : wtP xs d ≤ wtP xs c := h1.le (by omega) (by omega) (by omega)
  have y2 : wtP xs (n - 1 - c) ≤ wtP xs (n - 1 - d) := h2.le (by omega) (by omega) (by omega)
  omega
theorem CutR.dn {a m b lo hi n s r c : Nat} {xs : List Pk} (hb : CutB a m b lo hi n) (h1 : Sorted a m xs) (h2 : Sorted m b xs) (h : CutR a m b lo hi n s r xs) (hc : s ≤ c ∧ c < r) (hw : wtP xs (n - 1 - c) < wtP xs c) : CutR a m b lo hi n s c xs := by
  have hr := h.rg
  have hl := hb.hlo
  refine ⟨by omega, h.lt, fun d d1 d2 => ?_⟩
  have i1 := hb.hin c (by omega) (by omega)
  have i2 := hb.hin d (by omega) (by omega)
  have y1 : wtP xs c ≤ wtP xs d := h1.le (by omega) (by omega) (by omega)
  have y2 : wtP xs (n - 1 - d) ≤ wtP xs (n - 1 - c) := h2.le (by omega) (by omega) (by omega)
  omega
theorem CutR.done {a m b lo hi n s : Nat} {xs : List Pk} (hb : CutB a m b lo hi n) (h : CutR a m b lo hi n s s xs) : (a ≤ s ∧ s ≤ m ∧ m ≤ n - s ∧ n - s ≤ b) ∧ (a + b) / 2 = s + (n - s - m) ∧ (a < s → n - s < b → wtP xs (s - 1) ≤ wtP xs (n - s)) ∧ (s < m → m < n - s → wtP xs (n - s - 1) < wtP xs s) := by
  have hr := h.rg
  have hl := hb.hlo
  have hn := hb.hn
  have he := hb.hen
  have h5 := hb.hl
  have h6 := hb.hh
  refine ⟨by omega, by omega, fun c1 c2 => ?_, fun c1 c2 => ?_⟩
  · have := h.lt (s - 1) (by omega) (by omega)
    rw [show n - 1 - (s - 1) = n - s by omega] at this
    exact this
  · have := h.ge s (Nat.le_refl _) (by omega)
    rw [show n - 1 - s = n - s - 1 by omega] at this
    exact this
end Go.Proofs.Ytmmoenleldcadaa.HF
namespace Go.Proofs.Ytmmoenleldcadaa.HF
/-- Every block of s elements of the first n does not fall. -/
def Bl (s n : Nat) (xs : List Pk) : Prop := ∀ x, s ∣ x → x < n → Sorted x (min (x + s) n) xs
/-- The whole blocks of d elements ahead of a do not fall. -/
def Pre (d a : Nat) (xs : List Pk) : Prop := ∀ x, d ∣ x → x < a → Sorted x (x + d) xs
/-- The blocks of s elements from a on do not fall. -/
def Rest (s a n : Nat) (xs : List Pk) : Prop := ∀ x, s ∣ x → a ≤ x → x < n → Sorted x (min (x + s) n) xs
theorem dvd_step {d x a : Nat} (hx : d ∣ x) (ha : d ∣ a) (h : x < a) : x + d ≤ a := by
  obtain ⟨k, rfl⟩ := hx
  obtain ⟨l, rfl⟩ := ha
  have hkl : k < l := by
    by_cases c : k < l
    · exact c
    · have := Nat.mul_le_mul_left d (show l ≤ k by omega)
      omega
  have := Nat.mul_le_mul_left d (show k + 1 ≤ l by omega)
  rw [Nat.mul_add] at this
  omega
theorem Pre.zero (d : Nat) (xs : List Pk) : Pre d 0 xs := fun x _ h => by omega
theorem Pre.step {d a : Nat} {xs ys : List Pk} (h : Pre d a xs) (ha : d ∣ a) (hp : PermIn a (a + d) xs ys) (hs : Sorted a (a + d) ys) : Pre d (a + d) ys := fun x hx hl => by
  by_cases c : x < a
  · have := dvd_step hx ha c
    exact (h x hx c).congr (fun k h1 h2 => hp.out k (by omega))
  · by_cases e : a < x
    · have := dvd_step ha hx e
      omega
    · rw [show x = a by omega]
      exact hs
theorem Pre.close {d a n : Nat} {xs ys : List Pk} (h : Pre d a xs) (ha : d ∣ a) (hn : a ≤ n ∧ n < a + d) (hp : PermIn a n xs ys) (hs : Sorted a n ys) : Bl d n ys := fun x hx hl => by
  by_cases c : x < a
  · have := dvd_step hx ha c
    rw [show min (x + d) n = x + d by omega]
    exact (h x hx c).congr (fun k h1 h2 => hp.out k (by omega))
  · by_cases e : a < x
    · have := dvd_step ha hx e
      omega
    · rw [show min (x + d) n = n by omega, show x = a by omega]
      exact hs
theorem Rest.start {s n : Nat} {xs : List Pk} (h : Bl s n xs) : Rest s 0 n xs := fun x hx _ hl => h x hx hl
theorem Rest.step {s a b n : Nat} {xs ys : List Pk} (h : Rest s a n xs) (hp : PermIn a b xs ys) (hab : a ≤ b) : Rest s b n ys := fun x hx h1 h2 => (h x hx (by omega) h2).congr (fun k k1 _ => hp.out k (by omega))
theorem Rest.fst {s a n : Nat} {xs : List Pk} (h : Rest s a n xs) (ha : s ∣ a) (hn : a + s ≤ n) (hs : 0 < s) : Sorted a (a + s) xs := by
  have := h a ha (Nat.le_refl _) (by omega)
  rw [show min (a + s) n = a + s by omega] at this
  exact this
theorem Rest.snd {s a e n : Nat} {xs : List Pk} (h : Rest s a n xs) (ha : s ∣ a) (hn : a + s < n) (he : e = min (a + s + s) n) : Sorted (a + s) e xs := by
  rw [he]
  exact h (a + s) (Nat.dvd_add ha (Nat.dvd_refl s)) (by omega) hn
theorem Rest.one {s a n : Nat} {xs : List Pk} (h : Rest s a n xs) (ha : s ∣ a) (hn : a ≤ n ∧ n ≤ a + s) : Sorted a n xs := by
  by_cases c : a < n
  · have := h a ha (Nat.le_refl _) c
    rw [show min (a + s) n = n by omega] at this
    exact this
  · exact fun p q h1 h2 h3 => by omega
theorem Bl.all {s n : Nat} {xs : List Pk} (h : Bl s n xs) (hs : n ≤ s) : Sorted 0 n xs := by
  by_cases c : 0 < n
  · have := h 0 (Nat.dvd_zero s) c
    rw [show min (0 + s) n = n by omega] at this
    exact this
  · exact fun p q h1 h2 h3 => by omega
end Go.Proofs.Ytmmoenleldcadaa.HF
namespace Go.Proofs.Ytmmoenleldcadaa.HF
open Go.Proofs.YtmmoenleldcadaaW.PrintWords
/-- A pack: its weight, its symbols. -/
abbrev PkA := Int × List Int
def Pk.abs (p : Pk) : PkA := (p.wt, p.of)
def ins1 (x : PkA) : List PkA → List PkA
  | [] => [x]
  | y :: r => if x.1 ≤ y.1 then x :: y :: r else y :: ins1 x r
def isort : List PkA → List PkA
  | [] => []
  | x :: r => ins1 x (isort r)
theorem ins1_perm (x : PkA) : ∀ l, (ins1 x l).Perm (x :: l)
  | [] => .refl _
  | y :: r => by
    unfold ins1
    split
    · exact .refl _
    · exact ((ins1_perm x r).cons y).trans (List.Perm.swap x y r)
theorem isort_perm : ∀ l, (isort l).Perm l
  | [] => .refl _
  | x :: r => (ins1_perm x (isort r)).trans ((isort_perm r).cons x)
def LeA (a b : PkA) : Prop := a.1 ≤ b.1
theorem ins1_sorted (x : PkA) : ∀ l, l.Pairwise LeA → (ins1 x l).Pairwise LeA
  | [], _ => List.pairwise_singleton _ _
  | y :: r, h => by
    obtain ⟨h1, h2⟩ := List.pairwise_cons.1 h
    unfold ins1
    split
    · rename_i hxy
      exact List.pairwise_cons.2 ⟨fun z hz => by
        rcases List.mem_cons.1 hz with rfl | hz
        · exact hxy
        · exact Int.le_trans hxy (h1 z hz), h⟩
    · rename_i hxy
      refine List.pairwise_cons.2 ⟨fun z hz => ?_, ins1_sorted x r h2⟩
      rcases List.mem_cons.1 ((ins1_perm x r).mem_iff.1 hz) with rfl | hz
      · show y.1 ≤ z.1
        omega
      · exact h1 z hz
theorem isort_sorted : ∀ l, (isort l).Pairwise LeA
  | [] => List.Pairwise.nil
  | x :: r => ins1_sorted x _ (isort_sorted r)
theorem ins1_fil (w : Int) (x : PkA) : ∀ l, l.Pairwise LeA → (ins1 x l).filter (fun p => p.1 == w) = (x :: l).filter (fun p => p.1 == w)
  | [], _ => rfl
  | y :: r, h => by
    obtain ⟨h1, h2⟩ := List.pairwise_cons.1 h
    unfold ins1
    split
    · rfl
    · rename_i hxy
      have ih := ins1_fil w x r h2
      rw [List.filter_cons, ih, List.filter_cons, List.filter_cons, List.filter_cons]
      by_cases e1 : y.1 = w
      · have e2 : ¬ x.1 = w := by omega
        simp [e1, e2]
      · simp [e1]
theorem isort_fil (w : Int) : ∀ l, (isort l).filter (fun p => p.1 == w) = l.filter (fun p => p.1 == w)
  | [] => rfl
  | x :: r => by
    unfold isort
    rw [ins1_fil w x _ (isort_sorted r), List.filter_cons, List.filter_cons, isort_fil w r]
theorem sorted_uniq : ∀ xs ys : List PkA, xs.Pairwise LeA → ys.Pairwise LeA → (∀ w, xs.filter (fun p => p.1 == w) = ys.filter (fun p => p.1 == w)) → xs = ys
  | [], [], _, _, _ => rfl
  | [], y :: ys, _, _, h => by
    have := h y.1
    simp at this
  | x :: xs, [], _, _, h => by
    have := h x.1
    simp at this
  | x :: xs, y :: ys, h1, h2, h => by
    obtain ⟨a1, a2⟩ := List.pairwise_cons.1 h1
    obtain ⟨b1, b2⟩ := List.pairwise_cons.1 h2
    have hx := h x.1
    have hy := h y.1
    have m1 : y ∈ (x :: xs).filter (fun p => p.1 == y.1) := by rw [hy]; simp
    have m2 : x ∈ (y :: ys).filter (fun p => p.1 == x.1) := by rw [← hx]; simp
    have l1 : x.1 ≤ y.1 := by
      rcases List.mem_cons.1 (List.mem_filter.1 m1).1 with rfl | hm
      · exact Int.le_refl _
      · exact a1 y hm
    have l2 : y.1 ≤ x.1 := by
      rcases List.mem_cons.1 (List.mem_filter.1 m2).1 with rfl | hm
      · exact Int.le_refl _
      · exact b1 x hm
    have e : y.1 = x.1 := by omega
    rw [List.filter_cons, List.filter_cons] at hx
    simp only [e, beq_self_eq_true, if_true] at hx
    injection hx with hxy _
    subst hxy
    refine congrArg (x :: ·) (sorted_uniq xs ys a2 b2 fun w => ?_)
    have hw := h w
    rw [List.filter_cons, List.filter_cons] at hw
    split at hw
    · injection hw
    · exact hw
theorem fil_abs (w : Int) (xs : List Pk) : (xs.map Pk.abs).filter (fun p => p.1 == w) = (xs.filter (fun p => p.wt == w)).map Pk.abs := by
  rw [List.filter_map]
  rfl
/-- What the sort leaves, plain. -/
theorem sort_abs {xs ys : List Pk} {n : Nat} (hl : n = xs.length) (hp : PermS 0 n xs ys) (hs : Sorted 0 n ys) : ys.map Pk.abs = isort (xs.map Pk.abs) := by
  refine sorted_uniq _ _ ?_ (isort_sorted _) fun w => ?_
  · rw [List.pairwise_iff_getElem]
    intro i j hi hj hij
    simp only [List.length_map] at hi hj
    have hll := hp.len
    have := hs i j (Nat.zero_le _) hij (by omega)
    unfold wtP at this
    rw [rdP_get _ _ hi, rdP_get _ _ hj] at this
    rw [List.getElem_map, List.getElem_map]
    exact this
  · rw [isort_fil, fil_abs, fil_abs, hp.fil w]
/-- The coins: a pack for each symbol that comes. -/
def coinsF : Int → List Int → List PkA
  | _, [] => []
  | i, f :: r => if 0 < f then (f, [i]) :: coinsF (i + 1) r else coinsF (i + 1) r
theorem coinsF_snoc (f : Int) : ∀ (l : List Int) (i : Int), coinsF i (l ++ [f]) = coinsF i l ++ (if 0 < f then [(f, [i + l.length])] else [])
  | [], i => by
    simp only [List.nil_append, coinsF, List.length_nil]
    split <;> simp
  | x :: r, i => by
    have ih := coinsF_snoc f r (i + 1)
    simp only [List.cons_append, coinsF]
    rw [ih]
    have e : i + 1 + (r.length : Int) = i + ((x :: r).length : Int) := by simp; omega
    rw [e]
    split <;> simp
theorem coinsF_le : ∀ (l : List Int) (i : Int), (coinsF i l).length ≤ l.length
  | [], _ => Nat.le_refl _
  | x :: r, i => by
    have := coinsF_le r (i + 1)
    unfold coinsF
    split <;> simp <;> omega
def pairsL : List PkA → List PkA
  | x :: y :: r => (x.1 + y.1, x.2 ++ y.2) :: pairsL r
  | _ => []
theorem pairsL_len : ∀ l : List PkA, (pairsL l).length = l.length / 2
  | [] => rfl
  | [_] => by simp [pairsL]
  | x :: y :: r => by
    unfold pairsL
    simp only [List.length_cons]
    rw [pairsL_len r]
    omega
theorem pairsL_step : ∀ (l : List PkA) (j : Nat) (h : 2 * j + 1 < l.length), pairsL (l.take (2 * (j + 1))) = pairsL (l.take (2 * j)) ++ [(l[2 * j].1 + l[2 * j + 1].1, l[2 * j].2 ++ l[2 * j + 1].2)]
  | [], _, h => by simp at h
  | [_], _, h => by simp at h
  | x :: y :: r, 0, _ => by simp [pairsL]
  | x :: y :: r, j + 1, h => by
    have ih := pairsL_step r j (by simp at h; omega)
    have e1 : (x :: y :: r).take (2 * (j + 1 + 1)) = x :: y :: r.take (2 * (j + 1)) := by rw [show 2 * (j + 1 + 1) = 2 * (j + 1) + 1 + 1 by omega]; rfl
    have e2 : (x :: y :: r).take (2 * (j + 1)) = x :: y :: r.take (2 * j) := by rw [show 2 * (j + 1) = 2 * j + 1 + 1 by omega]; rfl
    rw [e1, e2]
    simp only [pairsL, ih, List.cons_append]
    have e3 : 2 * (j + 1) = 2 * j + 1 + 1 := by omega
    simp [e3]
theorem pairsL_end : ∀ (l : List PkA) (j : Nat), l.length ≤ 2 * j + 1 → pairsL (l.take (2 * j)) = pairsL l
  | [], _, _ => by simp
  | [x], j, _ => by
    cases j with
    | zero => rfl
    | succ j => rw [show 2 * (j + 1) = 2 * j + 1 + 1 by omega]; rfl
  | x :: y :: r, 0, h => by simp at h
  | x :: y :: r, j + 1, h => by
    have ih := pairsL_end r j (by simp at h; omega)
    have e2 : (x :: y :: r).take (2 * (j + 1)) = x :: y :: r.take (2 * j) := by rw [show 2 * (j + 1) = 2 * j + 1 + 1 by omega]; rfl
    rw [e2]
    simp only [pairsL, ih]
/-- The packs and coins of each level, by weight. -/
def levels (SC : List PkA) : Nat → List PkA
  | 0 => SC
  | k + 1 => isort (SC ++ pairsL (levels SC k))
theorem levels_len (SC : List PkA) (k : Nat) : (levels SC (k + 1)).length = SC.length + (levels SC k).length / 2 := by
  show (isort _).length = _
  rw [(isort_perm _).length_eq, List.length_append, pairsL_len]
theorem levels_le (SC : List PkA) : ∀ k, (levels SC k).length ≤ 2 * SC.length
  | 0 => by show SC.length ≤ _; omega
  | k + 1 => by have := levels_le SC k; rw [levels_len]; omega
/-- Enough packs stand at the last level. -/
theorem levels_ge (SC : List PkA) {m : Nat} (h : SC.length ≤ 2 ^ m) : ∀ k, k ≤ m → 2 * SC.length - (levels SC k).length ≤ 2 ^ (m - k)
  | 0, _ => by show 2 * SC.length - SC.length ≤ _; rw [Nat.sub_zero]; omega
  | k + 1, hk => by
    have ih := levels_ge SC h k (by omega)
    have hl := levels_le SC k
    rw [levels_len]
    have e : 2 ^ (m - k) = 2 * 2 ^ (m - (k + 1)) := by rw [show m - k = (m - (k + 1)) + 1 by omega, Nat.pow_succ]; omega
    rw [e] at ih
    omega
/-- What is known of a pack of level k: weight, symbols. -/
structure PB (k m : Nat) (p : PkA) : Prop where
  pos : 0 < p.1
  wle : p.1 ≤ 1099511627776 * (2 ^ k : Nat)
  ole : p.2.length ≤ 2 ^ k
  rng : ∀ i ∈ p.2, 0 ≤ i ∧ i < m
theorem PB.up {k m : Nat} {p : PkA} (h : PB k m p) : PB (k + 1) m p := by
  have e : 2 ^ (k + 1) = 2 * 2 ^ k := by rw [Nat.pow_succ]; omega
  exact ⟨h.pos, by have := h.wle; have := h.pos; omega, by have := h.ole; omega, h.rng⟩
theorem PB.two {k m : Nat} {p q : PkA} (h : PB k m p) (h2 : PB k m q) : PB (k + 1) m (p.1 + q.1, p.2 ++ q.2) := by
  have e : 2 ^ (k + 1) = 2 * 2 ^ k := by rw [Nat.pow_succ]; omega
  have a1 := h.wle
  have a2 := h2.wle
  have a3 := h.ole
  have a4 := h2.ole
  have a5 := h.pos
  have a6 := h2.pos
  refine ⟨by show 0 < p.1 + q.1; omega, by show p.1 + q.1 ≤ _; omega, by show (p.2 ++ q.2).length ≤ _; rw [List.length_append]; omega, fun i hi => ?_⟩
  rcases List.mem_append.1 hi with hi | hi
  · exact h.rng i hi
  · exact h2.rng i hi
theorem pairs_PB {k m : Nat} : ∀ l : List PkA, (∀ p ∈ l, PB k m p) → ∀ p ∈ pairsL l, PB (k + 1) m p
  | [], _ => fun p hp => by cases hp
  | [_], _ => fun p hp => by cases hp
  | x :: y :: r, h => fun p hp => by
    unfold pairsL at hp
    rcases List.mem_cons.1 hp with rfl | hp
    · exact (h x (by simp)).two (h y (by simp))
    · exact pairs_PB r (fun q hq => h q (by simp [hq])) p hp
theorem PB.upN {m : Nat} {p : PkA} (h : PB 0 m p) : ∀ k, PB k m p
  | 0 => h
  | k + 1 => (PB.upN h k).up
theorem levels_PB {m : Nat} {SC : List PkA} (h : ∀ p ∈ SC, PB 0 m p) : ∀ k, ∀ p ∈ levels SC k, PB k m p
  | 0 => h
  | k + 1 => fun p hp => by
    rcases List.mem_append.1 ((isort_perm _).mem_iff.1 hp) with hp | hp
    · exact (h p hp).upN (k + 1)
    · exact pairs_PB _ (levels_PB h k) p hp
theorem coins_PB {m : Nat} : ∀ (l : List Int) (i : Nat), (∀ f ∈ l, f ≤ 1099511627776) → i + l.length ≤ m → ∀ p ∈ coinsF i l, PB 0 m p
  | [], _, _, _ => fun p hp => by cases hp
  | f :: r, i, h, hm => fun p hp => by
    have ih := coins_PB (m := m) r (i + 1) (fun g hg => h g (by simp [hg])) (by simp at hm; omega)
    unfold coinsF at hp
    split at hp
    · rcases List.mem_cons.1 hp with rfl | hp
      · refine ⟨by assumption, by have := h f (by simp); show f ≤ _; simpa using this, by simp, fun j hj => ?_⟩
        rw [List.mem_singleton.1 hj]
        simp at hm
        omega
      · exact ih p (by simpa using hp)
    · exact ih p (by simpa using hp)
def bump (o : List Int) (i : Int) : List Int := o.set i.toNat (rd o i + 1)
theorem bump_len (o : List Int) (i : Int) : (bump o i).length = o.length := by unfold bump; rw [List.length_set]
def tally (o : List Int) (ps : List PkA) : List Int := ps.foldl (fun o p => p.2.foldl bump o) o
theorem bumps_len : ∀ (is : List Int) (o : List Int), (is.foldl bump o).length = o.length
  | [], _ => rfl
  | i :: is, o => by rw [List.foldl_cons, bumps_len is, bump_len]
theorem tally_len : ∀ (ps : List PkA) (o : List Int), (tally o ps).length = o.length
  | [], _ => rfl
  | p :: ps, o => by
    show (tally (p.2.foldl bump o) ps).length = _
    rw [tally_len ps, bumps_len]
/-- Every number lies between. -/
def Bd (o : List Int) (b : Nat) : Prop := ∀ x ∈ o, 0 ≤ x ∧ x ≤ b
theorem Bd.at_ {o : List Int} {b : Nat} (h : Bd o b) (i : Int) : 0 ≤ rd o i ∧ rd o i ≤ b := by
  unfold rd
  rw [List.getD_eq_getElem?_getD]
  cases e : o[i.toNat]? with
  | none => simp
  | some x => exact h x (List.mem_of_getElem? e)
theorem Bd.bump {o : List Int} {b : Nat} (h : Bd o b) (i : Int) : Bd (bump o i) (b + 1) := fun x hx => by
  rcases List.mem_or_eq_of_mem_set hx with hx | rfl
  · have := h x hx; omega
  · have := h.at_ i; omega
theorem Bd.mono {o : List Int} {b b' : Nat} (h : Bd o b) (hb : b ≤ b') : Bd o b' := fun x hx => by have := h x hx; omega
theorem Bd.zero (n : Nat) : Bd (List.replicate n 0) 0 := fun x hx => by rw [List.eq_of_mem_replicate hx]; omega
/-- The lengths. -/
def lensL (freqs : List Int) (most : Nat) : List Int :=
  if (coinsF 0 freqs).length = 1 then (List.replicate freqs.length 0).set (((coinsF 0 freqs).getD 0 (0, [])).2.getD 0 0).toNat 1
  else if (coinsF 0 freqs).length < 2 then List.replicate freqs.length 0
  else tally (List.replicate freqs.length 0) ((levels (isort (coinsF 0 freqs)) (most - 1)).take (2 * (coinsF 0 freqs).length - 2))
def okLens (freqs : List Int) (most : Int) : Bool := decide (freqs.length ≤ 288) && (decide (1 ≤ most ∧ most ≤ 15) && (countedL freqs && decide ((coinsF 0 freqs).length ≤ 2 ^ most.toNat)))
end Go.Proofs.Ytmmoenleldcadaa.HF
