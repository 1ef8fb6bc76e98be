/- The best code's lengths, plain: the stable sort, the levels, the tally. -/
import Derived.Test.YtmmoenleldcadaaPStab
import Derived.Test.YtmmoenleldcadaaHCost
namespace Go.Proofs.Ytmmoenleldcadaa.HF
open Go.Proofs.YtmmoenleldcadaaW.PrintWords
/-- A pack: its weight, its symbols. -/
abbrev PkA := Int × List Int
def Pk.abs (p : Pk) : PkA := (p.wt, p.of)
def ins1 (x : PkA) : List PkA → List PkA
  | [] => [x]
  | y :: r => if x.1 ≤ y.1 then x :: y :: r else y :: ins1 x r
def isort : List PkA → List PkA
  | [] => []
  | x :: r => ins1 x (isort r)
theorem ins1_perm (x : PkA) : ∀ l, (ins1 x l).Perm (x :: l)
  | [] => .refl _
  | y :: r => by
    unfold ins1
    split
    · exact .refl _
    · exact ((ins1_perm x r).cons y).trans (List.Perm.swap x y r)
theorem isort_perm : ∀ l, (isort l).Perm l
  | [] => .refl _
  | x :: r => (ins1_perm x (isort r)).trans ((isort_perm r).cons x)
def LeA (a b : PkA) : Prop := a.1 ≤ b.1
theorem ins1_sorted (x : PkA) : ∀ l, l.Pairwise LeA → (ins1 x l).Pairwise LeA
  | [], _ => List.pairwise_singleton _ _
  | y :: r, h => by
    obtain ⟨h1, h2⟩ := List.pairwise_cons.1 h
    unfold ins1
    split
    · rename_i hxy
      exact List.pairwise_cons.2 ⟨fun z hz => by
        rcases List.mem_cons.1 hz with rfl | hz
        · exact hxy
        · exact Int.le_trans hxy (h1 z hz), h⟩
    · rename_i hxy
      refine List.pairwise_cons.2 ⟨fun z hz => ?_, ins1_sorted x r h2⟩
      rcases List.mem_cons.1 ((ins1_perm x r).mem_iff.1 hz) with rfl | hz
      · show y.1 ≤ z.1
        omega
      · exact h1 z hz
theorem isort_sorted : ∀ l, (isort l).Pairwise LeA
  | [] => List.Pairwise.nil
  | x :: r => ins1_sorted x _ (isort_sorted r)
theorem ins1_fil (w : Int) (x : PkA) : ∀ l, l.Pairwise LeA → (ins1 x l).filter (fun p => p.1 == w) = (x :: l).filter (fun p => p.1 == w)
  | [], _ => rfl
  | y :: r, h => by
    obtain ⟨h1, h2⟩ := List.pairwise_cons.1 h
    unfold ins1
    split
    · rfl
    · rename_i hxy
      have ih := ins1_fil w x r h2
      rw [List.filter_cons, ih, List.filter_cons, List.filter_cons, List.filter_cons]
      by_cases e1 : y.1 = w
      · have e2 : ¬ x.1 = w := by omega
        simp [e1, e2]
      · simp [e1]
theorem isort_fil (w : Int) : ∀ l, (isort l).filter (fun p => p.1 == w) = l.filter (fun p => p.1 == w)
  | [] => rfl
  | x :: r => by
    unfold isort
    rw [ins1_fil w x _ (isort_sorted r), List.filter_cons, List.filter_cons, isort_fil w r]
theorem sorted_uniq : ∀ xs ys : List PkA, xs.Pairwise LeA → ys.Pairwise LeA → (∀ w, xs.filter (fun p => p.1 == w) = ys.filter (fun p => p.1 == w)) → xs = ys
  | [], [], _, _, _ => rfl
  | [], y :: ys, _, _, h => by
    have := h y.1
    simp at this
  | x :: xs, [], _, _, h => by
    have := h x.1
    simp at this
  | x :: xs, y :: ys, h1, h2, h => by
    obtain ⟨a1, a2⟩ := List.pairwise_cons.1 h1
    obtain ⟨b1, b2⟩ := List.pairwise_cons.1 h2
    have hx := h x.1
    have hy := h y.1
    have m1 : y ∈ (x :: xs).filter (fun p => p.1 == y.1) := by rw [hy]; simp
    have m2 : x ∈ (y :: ys).filter (fun p => p.1 == x.1) := by rw [← hx]; simp
    have l1 : x.1 ≤ y.1 := by
      rcases List.mem_cons.1 (List.mem_filter.1 m1).1 with rfl | hm
      · exact Int.le_refl _
      · exact a1 y hm
    have l2 : y.1 ≤ x.1 := by
      rcases List.mem_cons.1 (List.mem_filter.1 m2).1 with rfl | hm
      · exact Int.le_refl _
      · exact b1 x hm
    have e : y.1 = x.1 := by omega
    rw [List.filter_cons, List.filter_cons] at hx
    simp only [e, beq_self_eq_true, if_true] at hx
    injection hx with hxy _
    subst hxy
    refine congrArg (x :: ·) (sorted_uniq xs ys a2 b2 fun w => ?_)
    have hw := h w
    rw [List.filter_cons, List.filter_cons] at hw
    split at hw
    · injection hw
    · exact hw
theorem fil_abs (w : Int) (xs : List Pk) : (xs.map Pk.abs).filter (fun p => p.1 == w) = (xs.filter (fun p => p.wt == w)).map Pk.abs := by
  rw [List.filter_map]
  rfl
/-- What the sort leaves, plain. -/
theorem sort_abs {xs ys : List Pk} {n : Nat} (hl : n = xs.length) (hp : PermS 0 n xs ys) (hs : Sorted 0 n ys) : ys.map Pk.abs = isort (xs.map Pk.abs) := by
  refine sorted_uniq _ _ ?_ (isort_sorted _) fun w => ?_
  · rw [List.pairwise_iff_getElem]
    intro i j hi hj hij
    simp only [List.length_map] at hi hj
    have hll := hp.len
    have := hs i j (Nat.zero_le _) hij (by omega)
    unfold wtP at this
    rw [rdP_get _ _ hi, rdP_get _ _ hj] at this
    rw [List.getElem_map, List.getElem_map]
    exact this
  · rw [isort_fil, fil_abs, fil_abs, hp.fil w]
/-- The coins: a pack for each symbol that comes. -/
def coinsF : Int → List Int → List PkA
  | _, [] => []
  | i, f :: r => if 0 < f then (f, [i]) :: coinsF (i + 1) r else coinsF (i + 1) r
theorem coinsF_snoc (f : Int) : ∀ (l : List Int) (i : Int), coinsF i (l ++ [f]) = coinsF i l ++ (if 0 < f then [(f, [i + l.length])] else [])
  | [], i => by
    simp only [List.nil_append, coinsF, List.length_nil]
    split <;> simp
  | x :: r, i => by
    have ih := coinsF_snoc f r (i + 1)
    simp only [List.cons_append, coinsF]
    rw [ih]
    have e : i + 1 + (r.length : Int) = i + ((x :: r).length : Int) := by simp; omega
    rw [e]
    split <;> simp
theorem coinsF_le : ∀ (l : List Int) (i : Int), (coinsF i l).length ≤ l.length
  | [], _ => Nat.le_refl _
  | x :: r, i => by
    have := coinsF_le r (i + 1)
    unfold coinsF
    split <;> simp <;> omega
def pairsL : List PkA → List PkA
  | x :: y :: r => (x.1 + y.1, x.2 ++ y.2) :: pairsL r
  | _ => []
theorem pairsL_len : ∀ l : List PkA, (pairsL l).length = l.length / 2
  | [] => rfl
  | [_] => by simp [pairsL]
  | x :: y :: r => by
    unfold pairsL
    simp only [List.length_cons]
    rw [pairsL_len r]
    omega
theorem pairsL_step : ∀ (l : List PkA) (j : Nat) (h : 2 * j + 1 < l.length), pairsL (l.take (2 * (j + 1))) = pairsL (l.take (2 * j)) ++ [(l[2 * j].1 + l[2 * j + 1].1, l[2 * j].2 ++ l[2 * j + 1].2)]
  | [], _, h => by simp at h
  | [_], _, h => by simp at h
  | x :: y :: r, 0, _ => by simp [pairsL]
  | x :: y :: r, j + 1, h => by
    have ih := pairsL_step r j (by simp at h; omega)
    have e1 : (x :: y :: r).take (2 * (j + 1 + 1)) = x :: y :: r.take (2 * (j + 1)) := by rw [show 2 * (j + 1 + 1) = 2 * (j + 1) + 1 + 1 by omega]; rfl
    have e2 : (x :: y :: r).take (2 * (j + 1)) = x :: y :: r.take (2 * j) := by rw [show 2 * (j + 1) = 2 * j + 1 + 1 by omega]; rfl
    rw [e1, e2]
    simp only [pairsL, ih, List.cons_append]
    have e3 : 2 * (j + 1) = 2 * j + 1 + 1 := by omega
    simp [e3]
theorem pairsL_end : ∀ (l : List PkA) (j : Nat), l.length ≤ 2 * j + 1 → pairsL (l.take (2 * j)) = pairsL l
  | [], _, _ => by simp
  | [x], j, _ => by
    cases j with
    | zero => rfl
    | succ j => rw [show 2 * (j + 1) = 2 * j + 1 + 1 by omega]; rfl
  | x :: y :: r, 0, h => by simp at h
  | x :: y :: r, j + 1, h => by
    have ih := pairsL_end r j (by simp at h; omega)
    have e2 : (x :: y :: r).take (2 * (j + 1)) = x :: y :: r.take (2 * j) := by rw [show 2 * (j + 1) = 2 * j + 1 + 1 by omega]; rfl
    rw [e2]
    simp only [pairsL, ih]
/-- The packs and coins of each level, by weight. -/
def levels (SC : List PkA) : Nat → List PkA
  | 0 => SC
  | k + 1 => isort (SC ++ pairsL (levels SC k))
theorem levels_len (SC : List PkA) (k : Nat) : (levels SC (k + 1)).length = SC.length + (levels SC k).length / 2 := by
  show (isort _).length = _
  rw [(isort_perm _).length_eq, List.length_append, pairsL_len]
theorem levels_le (SC : List PkA) : ∀ k, (levels SC k).length ≤ 2 * SC.length
  | 0 => by show SC.length ≤ _; omega
  | k + 1 => by have := levels_le SC k; rw [levels_len]; omega
/-- Enough packs stand at the last level. -/
theorem levels_ge (SC : List PkA) {m : Nat} (h : SC.length ≤ 2 ^ m) : ∀ k, k ≤ m → 2 * SC.length - (levels SC k).length ≤ 2 ^ (m - k)
  | 0, _ => by show 2 * SC.length - SC.length ≤ _; rw [Nat.sub_zero]; omega
  | k + 1, hk => by
    have ih := levels_ge SC h k (by omega)
    have hl := levels_le SC k
    rw [levels_len]
    have e : 2 ^ (m - k) = 2 * 2 ^ (m - (k + 1)) := by rw [show m - k = (m - (k + 1)) + 1 by omega, Nat.pow_succ]; omega
    rw [e] at ih
    omega
/-- What is known of a pack of level k: weight, symbols. -/
structure PB (k m : Nat) (p : PkA) : Prop where
  pos : 0 < p.1
  wle : p.1 ≤ 1099511627776 * (2 ^ k : Nat)
  ole : p.2.length ≤ 2 ^ k
  rng : ∀ i ∈ p.2, 0 ≤ i ∧ i < m
theorem PB.up {k m : Nat} {p : PkA} (h : PB k m p) : PB (k + 1) m p := by
  have e : 2 ^ (k + 1) = 2 * 2 ^ k := by rw [Nat.pow_succ]; omega
  exact ⟨h.pos, by have := h.wle; have := h.pos; omega, by have := h.ole; omega, h.rng⟩
theorem PB.two {k m : Nat} {p q : PkA} (h : PB k m p) (h2 : PB k m q) : PB (k + 1) m (p.1 + q.1, p.2 ++ q.2) := by
  have e : 2 ^ (k + 1) = 2 * 2 ^ k := by rw [Nat.pow_succ]; omega
  have a1 := h.wle
  have a2 := h2.wle
  have a3 := h.ole
  have a4 := h2.ole
  have a5 := h.pos
  have a6 := h2.pos
  refine ⟨by show 0 < p.1 + q.1; omega, by show p.1 + q.1 ≤ _; omega, by show (p.2 ++ q.2).length ≤ _; rw [List.length_append]; omega, fun i hi => ?_⟩
  rcases List.mem_append.1 hi with hi | hi
  · exact h.rng i hi
  · exact h2.rng i hi
theorem pairs_PB {k m : Nat} : ∀ l : List PkA, (∀ p ∈ l, PB k m p) → ∀ p ∈ pairsL l, PB (k + 1) m p
  | [], _ => fun p hp => by cases hp
  | [_], _ => fun p hp => by cases hp
  | x :: y :: r, h => fun p hp => by
    unfold pairsL at hp
    rcases List.mem_cons.1 hp with rfl | hp
    · exact (h x (by simp)).two (h y (by simp))
    · exact pairs_PB r (fun q hq => h q (by simp [hq])) p hp
theorem PB.upN {m : Nat} {p : PkA} (h : PB 0 m p) : ∀ k, PB k m p
  | 0 => h
  | k + 1 => (PB.upN h k).up
theorem levels_PB {m : Nat} {SC : List PkA} (h : ∀ p ∈ SC, PB 0 m p) : ∀ k, ∀ p ∈ levels SC k, PB k m p
  | 0 => h
  | k + 1 => fun p hp => by
    rcases List.mem_append.1 ((isort_perm _).mem_iff.1 hp) with hp | hp
    · exact (h p hp).upN (k + 1)
    · exact pairs_PB _ (levels_PB h k) p hp
theorem coins_PB {m : Nat} : ∀ (l : List Int) (i : Nat), (∀ f ∈ l, f ≤ 1099511627776) → i + l.length ≤ m → ∀ p ∈ coinsF i l, PB 0 m p
  | [], _, _, _ => fun p hp => by cases hp
  | f :: r, i, h, hm => fun p hp => by
    have ih := coins_PB (m := m) r (i + 1) (fun g hg => h g (by simp [hg])) (by simp at hm; omega)
    unfold coinsF at hp
    split at hp
    · rcases List.mem_cons.1 hp with rfl | hp
      · refine ⟨by assumption, by have := h f (by simp); show f ≤ _; simpa using this, by simp, fun j hj => ?_⟩
        rw [List.mem_singleton.1 hj]
        simp at hm
        omega
      · exact ih p (by simpa using hp)
    · exact ih p (by simpa using hp)
def bump (o : List Int) (i : Int) : List Int := o.set i.toNat (rd o i + 1)
theorem bump_len (o : List Int) (i : Int) : (bump o i).length = o.length := by unfold bump; rw [List.length_set]
def tally (o : List Int) (ps : List PkA) : List Int := ps.foldl (fun o p => p.2.foldl bump o) o
theorem bumps_len : ∀ (is : List Int) (o : List Int), (is.foldl bump o).length = o.length
  | [], _ => rfl
  | i :: is, o => by rw [List.foldl_cons, bumps_len is, bump_len]
theorem tally_len : ∀ (ps : List PkA) (o : List Int), (tally o ps).length = o.length
  | [], _ => rfl
  | p :: ps, o => by
    show (tally (p.2.foldl bump o) ps).length = _
    rw [tally_len ps, bumps_len]
/-- Every number lies between. -/
def Bd (o : List Int) (b : Nat) : Prop := ∀ x ∈ o, 0 ≤ x ∧ x ≤ b
theorem Bd.at_ {o : List Int} {b : Nat} (h : Bd o b) (i : Int) : 0 ≤ rd o i ∧ rd o i ≤ b := by
  unfold rd
  rw [List.getD_eq_getElem?_getD]
  cases e : o[i.toNat]? with
  | none => simp
  | some x => exact h x (List.mem_of_getElem? e)
theorem Bd.bump {o : List Int} {b : Nat} (h : Bd o b) (i : Int) : Bd (bump o i) (b + 1) := fun x hx => by
  rcases List.mem_or_eq_of_mem_set hx with hx | rfl
  · have := h x hx; omega
  · have := h.at_ i; omega
theorem Bd.mono {o : List Int} {b b' : Nat} (h : Bd o b) (hb : b ≤ b') : Bd o b' := fun x hx => by have := h x hx; omega
theorem Bd.zero (n : Nat) : Bd (List.replicate n 0) 0 := fun x hx => by rw [List.eq_of_mem_replicate hx]; omega
/-- The lengths. -/
def lensL (freqs : List Int) (most : Nat) : List Int :=
  if (coinsF 0 freqs).length = 1 then (List.replicate freqs.length 0).set (((coinsF 0 freqs).getD 0 (0, [])).2.getD 0 0).toNat 1
  else if (coinsF 0 freqs).length < 2 then List.replicate freqs.length 0
  else tally (List.replicate freqs.length 0) ((levels (isort (coinsF 0 freqs)) (most - 1)).take (2 * (coinsF 0 freqs).length - 2))
def okLens (freqs : List Int) (most : Int) : Bool := decide (freqs.length ≤ 288) && (decide (1 ≤ most ∧ most ≤ 15) && (countedL freqs && decide ((coinsF 0 freqs).length ≤ 2 ^ most.toNat)))
end Go.Proofs.Ytmmoenleldcadaa.HF
