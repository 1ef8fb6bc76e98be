/- How often a symbol stands in the first packs of a level, plain. -/
import Derived.Test.YtmmoenleldcadaaPLen
namespace Go.Proofs.Ytmmoenleldcadaa.HF
open Go.Proofs.YtmmoenleldcadaaW.PrintWords
def mrg : List PkA → List PkA → List PkA
  | [], B => B
  | x :: A, [] => x :: A
  | x :: A, y :: B => if x.1 ≤ y.1 then x :: mrg A (y :: B) else y :: mrg (x :: A) B
termination_by A B => A.length + B.length
theorem mrg_nil (B : List PkA) : mrg [] B = B := by rw [mrg]
theorem mrg_nil2 (A : List PkA) : mrg A [] = A := by cases A <;> rw [mrg]
theorem mrg_cons (x y : PkA) (A B : List PkA) : mrg (x :: A) (y :: B) = if x.1 ≤ y.1 then x :: mrg A (y :: B) else y :: mrg (x :: A) B := by rw [mrg]
theorem mrg_perm : ∀ (A B : List PkA), (mrg A B).Perm (A ++ B)
  | [], B => by rw [mrg_nil]; exact .refl _
  | x :: A, [] => by rw [mrg_nil2, List.append_nil]
  | x :: A, y :: B => by
    rw [mrg_cons]
    split
    · exact (mrg_perm A (y :: B)).cons x
    · exact ((mrg_perm (x :: A) B).cons y).trans List.perm_middle.symm
termination_by A B => A.length + B.length
theorem mrg_sorted : ∀ (A B : List PkA), A.Pairwise LeA → B.Pairwise LeA → (mrg A B).Pairwise LeA
  | [], B, _, h => by rw [mrg_nil]; exact h
  | x :: A, [], h, _ => by rw [mrg_nil2]; exact h
  | x :: A, y :: B, h1, h2 => by
    obtain ⟨a1, a2⟩ := List.pairwise_cons.1 h1
    obtain ⟨b1, b2⟩ := List.pairwise_cons.1 h2
    rw [mrg_cons]
    split
    · rename_i hxy
      refine List.pairwise_cons.2 ⟨fun z hz => ?_, mrg_sorted A (y :: B) a2 h2⟩
      rcases List.mem_append.1 ((mrg_perm A (y :: B)).mem_iff.1 hz) with hz | hz
      · exact a1 z hz
      · rcases List.mem_cons.1 hz with rfl | hz
        · exact hxy
        · exact Int.le_trans hxy (b1 z hz)
    · rename_i hxy
      have hyx : y.1 ≤ x.1 := by omega
      refine List.pairwise_cons.2 ⟨fun z hz => ?_, mrg_sorted (x :: A) B h1 b2⟩
      rcases List.mem_append.1 ((mrg_perm (x :: A) B).mem_iff.1 hz) with hz | hz
      · rcases List.mem_cons.1 hz with rfl | hz
        · exact hyx
        · exact Int.le_trans hyx (a1 z hz)
      · exact b1 z hz
termination_by A B => A.length + B.length
theorem mrg_fil (w : Int) : ∀ (A B : List PkA), A.Pairwise LeA → (mrg A B).filter (fun p => p.1 == w) = (A ++ B).filter (fun p => p.1 == w)
  | [], B, _ => by rw [mrg_nil]; rfl
  | x :: A, [], _ => by rw [mrg_nil2, List.append_nil]
  | x :: A, y :: B, h1 => by
    obtain ⟨a1, a2⟩ := List.pairwise_cons.1 h1
    rw [mrg_cons]
    split
    · rw [List.filter_cons, mrg_fil w A (y :: B) a2, List.cons_append, List.filter_cons]
    · rename_i hxy
      rw [List.filter_cons, mrg_fil w (x :: A) B h1, List.filter_append, List.filter_append]
      by_cases e : y.1 = w
      · have z : List.filter (fun p => p.1 == w) (x :: A) = [] := by
          rw [List.filter_eq_nil_iff]
          intro q hq
          simp only [beq_iff_eq]
          rcases List.mem_cons.1 hq with rfl | hq
          · omega
          · have : x.1 ≤ q.1 := a1 q hq
            omega
        rw [z, List.filter_cons]
        simp [e]
      · rw [List.filter_cons (x := y)]
        simp [e]
termination_by A B => A.length + B.length
theorem isort_mrg {A B : List PkA} (h1 : A.Pairwise LeA) (h2 : B.Pairwise LeA) : isort (A ++ B) = mrg A B :=
  sorted_uniq _ _ (isort_sorted _) (mrg_sorted A B h1 h2) (fun w => (isort_fil w _).trans (mrg_fil w A B h1).symm)
theorem mrg_take : ∀ (A B : List PkA) (t : Nat), t ≤ A.length + B.length → ∃ c p, c ≤ A.length ∧ p ≤ B.length ∧ c + p = t ∧ ((mrg A B).take t).Perm (A.take c ++ B.take p)
  | A, B, 0, _ => ⟨0, 0, Nat.zero_le _, Nat.zero_le _, rfl, by simp⟩
  | [], B, t + 1, h => ⟨0, t + 1, Nat.zero_le _, by simpa using h, by omega, by rw [mrg_nil]; simp⟩
  | x :: A, [], t + 1, h => ⟨t + 1, 0, by simpa using h, Nat.zero_le _, by omega, by rw [mrg_nil2]; simp⟩
  | x :: A, y :: B, t + 1, h => by
    rw [mrg_cons]
    split
    · obtain ⟨c, p, h1, h2, h3, h4⟩ := mrg_take A (y :: B) t (by simp at h ⊢; omega)
      exact ⟨c + 1, p, by simp; omega, h2, by omega, by rw [List.take_succ_cons, List.take_succ_cons]; exact h4.cons x⟩
    · obtain ⟨c, p, h1, h2, h3, h4⟩ := mrg_take (x :: A) B t (by simp at h ⊢; omega)
      exact ⟨c, p + 1, h1, by simp; omega, by omega, by rw [List.take_succ_cons, List.take_succ_cons]; exact (h4.cons y).trans List.perm_middle.symm⟩
termination_by A B => A.length + B.length
theorem pairs_sorted : ∀ (l : List PkA), l.Pairwise LeA → (pairsL l).Pairwise LeA
  | [], _ => List.Pairwise.nil
  | [_], _ => List.Pairwise.nil
  | x :: y :: r, h => by
    obtain ⟨a1, a2⟩ := List.pairwise_cons.1 h
    obtain ⟨b1, b2⟩ := List.pairwise_cons.1 a2
    unfold pairsL
    refine List.pairwise_cons.2 ⟨?_, pairs_sorted r b2⟩
    have key : ∀ (r : List PkA) (m1 m2 : Int), (∀ z ∈ r, m1 ≤ z.1) → (∀ z ∈ r, m2 ≤ z.1) → ∀ q ∈ pairsL r, m1 + m2 ≤ q.1 := by
      intro r
      induction r using pairsL.induct with
      | case1 u v r ih =>
        intro m1 m2 h1 h2 q hq
        unfold pairsL at hq
        rcases List.mem_cons.1 hq with rfl | hq
        · have k1 := h1 u (by simp)
          have k2 := h2 v (by simp)
          show m1 + m2 ≤ u.1 + v.1
          omega
        · exact ih m1 m2 (fun z hz => h1 z (by simp [hz])) (fun z hz => h2 z (by simp [hz])) q hq
      | case2 l hl =>
        intro m1 m2 h1 h2 q hq
        rw [pairsL] at hq
        · cases hq
        · exact hl
    intro q hq
    exact key r x.1 y.1 (fun z hz => a1 z (by simp [hz])) (fun z hz => b1 z hz) q hq
theorem pairs_take : ∀ (l : List PkA) (p : Nat), (pairsL l).take p = pairsL (l.take (2 * p))
  | [], _ => by simp [pairsL]
  | [x], 0 => by simp [pairsL]
  | [x], p + 1 => by
    have e2 : [x].take (2 * (p + 1)) = [x] := by rw [show 2 * (p + 1) = 2 * p + 1 + 1 by omega]; rfl
    rw [e2]
    simp [pairsL]
  | x :: y :: r, 0 => by simp [pairsL]
  | x :: y :: r, p + 1 => by
    have e2 : (x :: y :: r).take (2 * (p + 1)) = x :: y :: r.take (2 * p) := by rw [show 2 * (p + 1) = 2 * p + 1 + 1 by omega]; rfl
    rw [e2]
    simp only [pairsL, List.take_succ_cons, pairs_take r p]
def symsL (l : List PkA) : List Int := l.flatMap Prod.snd
theorem syms_app (a b : List PkA) : symsL (a ++ b) = symsL a ++ symsL b := by unfold symsL; rw [List.flatMap_append]
theorem syms_cons (a : PkA) (b : List PkA) : symsL (a :: b) = a.2 ++ symsL b := by unfold symsL; rw [List.flatMap_cons]
theorem syms_pairs : ∀ (l : List PkA), l.length % 2 = 0 → symsL (pairsL l) = symsL l
  | [], _ => rfl
  | [_], h => by simp at h
  | x :: y :: r, h => by
    unfold pairsL
    rw [syms_cons, syms_cons, syms_cons, syms_pairs r (by simp at h; omega), List.append_assoc]
theorem syms_perm {a b : List PkA} (h : a.Perm b) : (symsL a).Perm (symsL b) := h.flatMap_right _
theorem levels_sorted {SC : List PkA} (h : SC.Pairwise LeA) : ∀ k, (levels SC k).Pairwise LeA
  | 0 => h
  | _ + 1 => isort_sorted _
/-- The symbols of the first t packs: those of so many first coins on each level. -/
theorem first_syms {SC : List PkA} (h : SC.Pairwise LeA) : ∀ (k t : Nat), t ≤ (levels SC k).length → ∃ cs : List Nat, cs.length = k + 1 ∧ (∀ c ∈ cs, c ≤ SC.length) ∧ (symsL ((levels SC k).take t)).Perm (cs.flatMap fun c => symsL (SC.take c))
  | 0, t, ht => ⟨[t], rfl, (fun c hc => by rw [List.mem_singleton.1 hc]; exact ht), by simp [levels]⟩
  | k + 1, t, ht => by
    have hs := levels_sorted h k
    have e : levels SC (k + 1) = mrg SC (pairsL (levels SC k)) := isort_mrg h (pairs_sorted _ hs)
    rw [e] at ht ⊢
    rw [(mrg_perm _ _).length_eq, List.length_append] at ht
    obtain ⟨c, p, h1, h2, h3, h4⟩ := mrg_take SC (pairsL (levels SC k)) t ht
    rw [pairsL_len] at h2
    obtain ⟨cs, k1, k2, k3⟩ := first_syms h k (2 * p) (by omega)
    refine ⟨c :: cs, by simp [k1], fun c' hc => ?_, ?_⟩
    · rcases List.mem_cons.1 hc with rfl | hc
      · exact h1
      · exact k2 c' hc
    · refine (syms_perm h4).trans ?_
      rw [syms_app, pairs_take, syms_pairs _ (by rw [List.length_take]; omega), List.flatMap_cons]
      exact List.Perm.append_left _ k3
theorem coin_mem : ∀ (l : List Int) (i : Int) (p : PkA), p ∈ coinsF i l → ∃ j : Nat, ∃ h : j < l.length, 0 < l[j] ∧ p = (l[j], [i + j])
  | [], _, _, h => by cases h
  | f :: r, i, p, h => by
    unfold coinsF at h
    have go : p ∈ coinsF (i + 1) r → ∃ j : Nat, ∃ h : j < (f :: r).length, 0 < (f :: r)[j] ∧ p = ((f :: r)[j], [i + j]) := fun hp => by
      obtain ⟨j, hj, h1, h2⟩ := coin_mem r (i + 1) p hp
      refine ⟨j + 1, by simp; omega, by simpa using h1, ?_⟩
      rw [h2]
      simp
      omega
    split at h
    · rename_i hf
      rcases List.mem_cons.1 h with rfl | h
      · exact ⟨0, by simp, by simpa using hf, by simp⟩
      · exact go h
    · exact go h
theorem mem_coin : ∀ (l : List Int) (i : Int) (j : Nat) (h : j < l.length), 0 < l[j] → (l[j], [i + (j : Int)]) ∈ coinsF i l
  | [], _, _, h, _ => by simp at h
  | f :: r, i, 0, h, h1 => by
    unfold coinsF
    have : 0 < f := by simpa using h1
    rw [if_pos this]
    simp
  | f :: r, i, j + 1, h, h1 => by
    have ih := mem_coin r (i + 1) j (by simp at h; omega) (by simpa using h1)
    have e : i + 1 + (j : Int) = i + ((j + 1 : Nat) : Int) := by omega
    rw [e] at ih
    unfold coinsF
    split
    · exact List.mem_cons_of_mem _ (by simpa using ih)
    · simpa using ih
theorem coins_nodup : ∀ (l : List Int) (i : Int), (symsL (coinsF i l)).Nodup ∧ ∀ s ∈ symsL (coinsF i l), i ≤ s
  | [], _ => ⟨List.nodup_nil, (fun s hs => by cases hs)⟩
  | f :: r, i => by
    obtain ⟨h1, h2⟩ := coins_nodup r (i + 1)
    unfold coinsF
    split
    · rw [syms_cons]
      refine ⟨?_, fun s hs => ?_⟩
      · show (i :: symsL (coinsF (i + 1) r)).Nodup
        exact List.nodup_cons.2 ⟨fun hm => by have := h2 i hm; omega, h1⟩
      · rcases List.mem_append.1 hs with hs | hs
        · rw [List.mem_singleton.1 hs]; exact Int.le_refl _
        · have := h2 s hs; omega
    · exact ⟨h1, fun s hs => by have := h2 s hs; omega⟩
/-- How often a symbol stands in the coins' prefixes. -/
def depth (SC : List PkA) (cs : List Nat) (s : Int) : Nat := (cs.flatMap fun c => symsL (SC.take c)).count s
theorem depth_cons (SC : List PkA) (c : Nat) (cs : List Nat) (s : Int) : depth SC (c :: cs) s = (symsL (SC.take c)).count s + depth SC cs s := by
  unfold depth
  rw [List.flatMap_cons, List.count_append]
theorem tally_eq (o : List Int) : ∀ ps : List PkA, tally o ps = (symsL ps).foldl bump o := by
  intro ps
  induction ps generalizing o with
  | nil => rfl
  | cons p ps ih =>
    rw [syms_cons, List.foldl_append]
    exact ih _
theorem bumps_rd : ∀ (is o : List Int) (s : Nat), s < o.length → (∀ i ∈ is, 0 ≤ i ∧ i < o.length) → rd (is.foldl bump o) (s : Int) = rd o (s : Int) + (is.count (s : Int) : Int)
  | [], o, s, _, _ => by simp
  | i :: is, o, s, hs, h => by
    have hi := h i (by simp)
    rw [List.foldl_cons, bumps_rd is (bump o i) s (by rw [bump_len]; exact hs) (fun j hj => by rw [bump_len]; exact h j (by simp [hj])), List.count_cons]
    unfold bump rd
    rw [Int.toNat_natCast, List.getD_eq_getElem?_getD, List.getElem?_set, List.getD_eq_getElem?_getD (l := o) (i := s)]
    by_cases e : i.toNat = s
    · have e2 : i = (s : Int) := by omega
      subst e2
      simp [hs]
      omega
    · have e2 : ¬ i = (s : Int) := by omega
      simp [e, e2]
/-- The prefix counts of the lengths. -/
theorem lens_depth {l : List Int} {m : Nat} (hf : ∀ f ∈ l, f ≤ 1099511627776) (hm : 1 ≤ m) (hn : 2 ≤ (coinsF 0 l).length) (hp : (coinsF 0 l).length ≤ 2 ^ m) :
    ∃ cs : List Nat, cs.length = m ∧ (∀ c ∈ cs, c ≤ (coinsF 0 l).length) ∧ (symsL ((levels (isort (coinsF 0 l)) (m - 1)).take (2 * (coinsF 0 l).length - 2))).Perm (cs.flatMap fun c => symsL ((isort (coinsF 0 l)).take c)) ∧
      ∀ s : Nat, s < l.length → rd (lensL l m) (s : Int) = (depth (isort (coinsF 0 l)) cs (s : Int) : Int) := by
  have hl := (isort_perm (coinsF 0 l)).length_eq
  have hge := levels_ge (isort (coinsF 0 l)) (m := m) (by rw [hl]; exact hp) (m - 1) (by omega)
  rw [hl, show m - (m - 1) = 1 by omega] at hge
  obtain ⟨cs, h1, h2, h3⟩ := first_syms (isort_sorted (coinsF 0 l)) (m - 1) (2 * (coinsF 0 l).length - 2) (by omega)
  refine ⟨cs, by omega, fun c hc => by rw [← hl]; exact h2 c hc, h3, fun s hs => ?_⟩
  have e1 : ¬ (coinsF 0 l).length = 1 := by omega
  have e2 : ¬ (coinsF 0 l).length < 2 := by omega
  unfold lensL
  rw [if_neg e1, if_neg e2, tally_eq, bumps_rd _ _ s (by rw [List.length_replicate]; exact hs)]
  · have e3 : rd (List.replicate l.length 0) (s : Int) = 0 := by unfold rd; rw [List.getD_eq_getElem?_getD, List.getElem?_replicate]; split <;> rfl
    rw [e3, Int.zero_add, h3.count_eq]
    rfl
  · intro i hi
    rw [List.length_replicate]
    unfold symsL at hi
    obtain ⟨p, hp1, hp2⟩ := List.mem_flatMap.1 hi
    have hpb := levels_PB (SC := isort (coinsF 0 l)) (m := l.length) (fun q hq => by
      have := (isort_perm _).mem_iff.1 hq
      exact coins_PB l 0 hf (by omega) q (by rw [show ((0 : Nat) : Int) = 0 from rfl]; exact this)) (m - 1) p (List.mem_of_mem_take hp1)
    exact hpb.rng i hp2
theorem syms_take (L : List PkA) (c : Nat) : (symsL (L.take c)).Sublist (symsL L) := by
  have h := syms_app (L.take c) (L.drop c)
  rw [List.take_append_drop] at h
  rw [h]
  exact List.sublist_append_left _ _
theorem depth_le {l : List Int} (cs : List Nat) (s : Int) : depth (isort (coinsF 0 l)) cs s ≤ cs.length := by
  induction cs with
  | nil => exact Nat.le_refl _
  | cons c cs ih =>
    rw [depth_cons]
    have nd : (symsL (isort (coinsF 0 l))).Nodup := (syms_perm (isort_perm _)).nodup_iff.2 (coins_nodup l 0).1
    have nd2 : (symsL ((isort (coinsF 0 l)).take c)).Nodup := nd.sublist (syms_take _ c)
    have := List.nodup_iff_count.1 nd2 s
    simp only [List.length_cons]
    omega
/-- What weighs more stands no more often. -/
theorem depth_mono {l : List Int} (cs : List Nat) (a b : Nat) (ha : a < l.length) (hb : b < l.length) (h0 : 0 < l[b]) (hlt : l[b] < l[a]) : depth (isort (coinsF 0 l)) cs (a : Int) ≤ depth (isort (coinsF 0 l)) cs (b : Int) := by
  induction cs with
  | nil => exact Nat.le_refl _
  | cons c cs ih =>
    rw [depth_cons, depth_cons]
    have nd : (symsL (isort (coinsF 0 l))).Nodup := (syms_perm (isort_perm _)).nodup_iff.2 (coins_nodup l 0).1
    have nd2 : (symsL ((isort (coinsF 0 l)).take c)).Nodup := nd.sublist (syms_take _ c)
    have c1 := List.nodup_iff_count.1 nd2 (a : Int)
    have key : (a : Int) ∈ symsL ((isort (coinsF 0 l)).take c) → (b : Int) ∈ symsL ((isort (coinsF 0 l)).take c) := fun hm => by
      unfold symsL at hm ⊢
      obtain ⟨p, hp1, hp2⟩ := List.mem_flatMap.1 hm
      obtain ⟨j, hj, h1, rfl⟩ := coin_mem l 0 p ((isort_perm _).mem_iff.1 (List.mem_of_mem_take hp1))
      have hja : j = a := by
        have := List.mem_singleton.1 hp2
        omega
      subst hja
      have hbm : (l[b], [(0 : Int) + (b : Int)]) ∈ isort (coinsF 0 l) := (isort_perm _).mem_iff.2 (mem_coin l 0 b hb h0)
      rw [← List.take_append_drop c (isort (coinsF 0 l))] at hbm
      rcases List.mem_append.1 hbm with hbm | hbm
      · exact List.mem_flatMap.2 ⟨_, hbm, by simp⟩
      · have hs := isort_sorted (coinsF 0 l)
        rw [← List.take_append_drop c (isort (coinsF 0 l))] at hs
        have := (List.pairwise_append.1 hs).2.2 _ hp1 _ hbm
        unfold LeA at this
        simp only at this
        omega
    by_cases hm : (a : Int) ∈ symsL ((isort (coinsF 0 l)).take c)
    · have := List.count_pos_iff.2 (key hm)
      omega
    · rw [List.count_eq_zero.2 hm]
      omega
end Go.Proofs.Ytmmoenleldcadaa.HF
