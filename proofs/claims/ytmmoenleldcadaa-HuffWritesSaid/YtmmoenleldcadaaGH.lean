/- How often a symbol stands in the first packs of a level, plain. What every law of huff asks: awake; Refused; plain. Lengths that may be, by shares and by what is left; no word begins another: plain. -/
import Derived.Test.YtmmoenleldcadaaGS
import Derived.Test.YtmmoenleldcadaaFK
import Derived.Test.YtmmoenleldcadaaFnx3
namespace Go.Proofs.Ytmmoenleldcadaa.HF
open Go.Proofs.YtmmoenleldcadaaW.PrintWords
def mrg : List PkA → List PkA → List PkA
  | [], B => B
  | x :: A, [] => x :: A
  | x :: A, y :: B => if x.1 ≤ y.1 then x :: mrg A (y :: B) else y :: mrg (x :: A) B
termination_by A B => A.length + B.length
theorem mrg_nil (B : List PkA) : mrg [] B = B := by rw [mrg]
theorem mrg_nil2 (A : List PkA) : mrg A [] = A := by cases A <;> rw [mrg]
theorem mrg_cons (x y : PkA) (A B : List PkA) : mrg (x :: A) (y :: B) = if x.1 ≤ y.1 then x :: mrg A (y :: B) else y :: mrg (x :: A) B := by rw [mrg]
theorem mrg_perm : ∀ (A B : List PkA), (mrg A B).Perm (A ++ B)
  | [], B => by rw [mrg_nil]; exact .refl _
  | x :: A, [] => by rw [mrg_nil2, List.append_nil]
  | x :: A, y :: B => by
    rw [mrg_cons]
    split
    · exact (mrg_perm A (y :: B)).cons x
    · exact ((mrg_perm (x :: A) B).cons y).trans List.perm_middle.symm
termination_by A B => A.length + B.length
theorem mrg_sorted : ∀ (A B : List PkA), A.Pairwise LeA → B.Pairwise LeA → (mrg A B).Pairwise LeA
  | [], B, _, h => by rw [mrg_nil]; exact h
  | x :: A, [], h, _ => by rw [mrg_nil2]; exact h
  | x :: A, y :: B, h1, h2 => by
    obtain ⟨a1, a2⟩ := List.pairwise_cons.1 h1
    obtain ⟨b1, b2⟩ := List.pairwise_cons.1 h2
    rw [mrg_cons]
    split
    · rename_i hxy
      refine List.pairwise_cons.2 ⟨fun z hz => ?_, mrg_sorted A (y :: B) a2 h2⟩
      rcases List.mem_append.1 ((mrg_perm A (y :: B)).mem_iff.1 hz) with hz | hz
      · exact a1 z hz
      · rcases List.mem_cons.1 hz with rfl | hz
        · exact hxy
        · exact Int.le_trans hxy (b1 z hz)
    · rename_i hxy
      have hyx : y.1 ≤ x.1 := by omega
      refine List.pairwise_cons.2 ⟨fun z hz => ?_, mrg_sorted (x :: A) B h1 b2⟩
      rcases List.mem_append.1 ((mrg_perm (x :: A) B).mem_iff.1 hz) with hz | hz
      · rcases List.mem_cons.1 hz with rfl | hz
        · exact hyx
        · exact Int.le_trans hyx (a1 z hz)
      · exact b1 z hz
termination_by A B => A.length + B.length
theorem mrg_fil (w : Int) : ∀ (A B : List PkA), A.Pairwise LeA → (mrg A B).filter (fun p => p.1 == w) = (A ++ B).filter (fun p => p.1 == w)
  | [], B, _ => by rw [mrg_nil]; rfl
  | x :: A, [], _ => by rw [mrg_nil2, List.append_nil]
  | x :: A, y :: B, h1 => by
    obtain ⟨a1, a2⟩ := List.pairwise_cons.1 h1
    rw [mrg_cons]
    split
    · rw [List.filter_cons, mrg_fil w A (y :: B) a2, List.cons_append, List.filter_cons]
    · rename_i hxy
      rw [List.filter_cons, mrg_fil w (x :: A) B h1, List.filter_append, List.filter_append]
      by_cases e : y.1 = w
      · have z : List.filter (fun p => p.1 == w) (x :: A) = [] := by
          rw [List.filter_eq_nil_iff]
          intro q hq
          simp only [beq_iff_eq]
          rcases List.mem_cons.1 hq with rfl | hq
          · omega
          · have : x.1 ≤ q.1 := a1 q hq
            omega
        rw [z, List.filter_cons]
        simp [e]
      · rw [List.filter_cons (x := y)]
        simp [e]
termination_by A B => A.length + B.length
theorem isort_mrg {A B : List PkA} (h1 : A.Pairwise LeA) (h2 : B.Pairwise LeA) : isort (A ++ B) = mrg A B :=
  sorted_uniq _ _ (isort_sorted _) (mrg_sorted A B h1 h2) (fun w => (isort_fil w _).trans (mrg_fil w A B h1).symm)
theorem mrg_take : ∀ (A B : List PkA) (t : Nat), t ≤ A.length + B.length → ∃ c p, c ≤ A.length ∧ p ≤ B.length ∧ c + p = t ∧ ((mrg A B).take t).Perm (A.take c ++ B.take p)
  | A, B, 0, _ => ⟨0, 0, Nat.zero_le _, Nat.zero_le _, rfl, by simp⟩
  | [], B, t + 1, h => ⟨0, t + 1, Nat.zero_le _, by simpa using h, by omega, by rw [mrg_nil]; simp⟩
  | x :: A, [], t + 1, h => ⟨t + 1, 0, by simpa using h, Nat.zero_le _, by omega, by rw [mrg_nil2]; simp⟩
  | x :: A, y :: B, t + 1, h => by
    rw [mrg_cons]
    split
    · obtain ⟨c, p, h1, h2, h3, h4⟩ := mrg_take A (y :: B) t (by simp at h ⊢; omega)
      exact ⟨c + 1, p, by simp; omega, h2, by omega, by rw [List.take_succ_cons, List.take_succ_cons]; exact h4.cons x⟩
    · obtain ⟨c, p, h1, h2, h3, h4⟩ := mrg_take (x :: A) B t (by simp at h ⊢; omega)
      exact ⟨c, p + 1, h1, by simp; omega, by omega, by rw [List.take_succ_cons, List.take_succ_cons]; exact (h4.cons y).trans List.perm_middle.symm⟩
termination_by A B => A.length + B.length
theorem pairs_sorted : ∀ (l : List PkA), l.Pairwise LeA → (pairsL l).Pairwise LeA
  | [], _ => List.Pairwise.nil
  | [_], _ => List.Pairwise.nil
  | x :: y :: r, h => by
    obtain ⟨a1, a2⟩ := List.pairwise_cons.1 h
    obtain ⟨b1, b2⟩ := List.pairwise_cons.1 a2
    unfold pairsL
    refine List.pairwise_cons.2 ⟨?_, pairs_sorted r b2⟩
    have key : ∀ (r : List PkA) (m1 m2 : Int), (∀ z ∈ r, m1 ≤ z.1) → (∀ z ∈ r, m2 ≤ z.1) → ∀ q ∈ pairsL r, m1 + m2 ≤ q.1 := by
      intro r
      induction r using pairsL.induct with
      | case1 u v r ih =>
        intro m1 m2 h1 h2 q hq
        unfold pairsL at hq
        rcases List.mem_cons.1 hq with rfl | hq
        · have k1 := h1 u (by simp)
          have k2 := h2 v (by simp)
          show m1 + m2 ≤ u.1 + v.1
          omega
        · exact ih m1 m2 (fun z hz => h1 z (by simp [hz])) (fun z hz => h2 z (by simp [hz])) q hq
      | case2 l hl =>
        intro m1 m2 h1 h2 q hq
        rw [pairsL] at hq
        · cases hq
        · exact hl
    intro q hq
    exact key r x.1 y.1 (fun z hz => a1 z (by simp [hz])) (fun z hz => b1 z hz) q hq
theorem pairs_take : ∀ (l : List PkA) (p : Nat), (pairsL l).take p = pairsL (l.take (2 * p))
  | [], _ => by simp [pairsL]
  | [x], 0 => by simp [pairsL]
  | [x], p + 1 => by
    have e2 : [x].take (2 * (p + 1)) = [x] := by rw [show 2 * (p + 1) = 2 * p + 1 + 1 by omega]; rfl
    rw [e2]
    simp [pairsL]
  | x :: y :: r, 0 => by simp [pairsL]
  | x :: y :: r, p + 1 => by
    have e2 : (x :: y :: r).take (2 * (p + 1)) = x :: y :: r.take (2 * p) := by rw [show 2 * (p + 1) = 2 * p + 1 + 1 by omega]; rfl
    rw [e2]
    simp only [pairsL, List.take_succ_cons, pairs_take r p]
def symsL (l : List PkA) : List Int := l.flatMap Prod.snd
theorem syms_app (a b : List PkA) : symsL (a ++ b) = symsL a ++ symsL b := by unfold symsL; rw [List.flatMap_append]
theorem syms_cons (a : PkA) (b : List PkA) : symsL (a :: b) = a.2 ++ symsL b := by unfold symsL; rw [List.flatMap_cons]
theorem syms_pairs : ∀ (l : List PkA), l.length % 2 = 0 → symsL (pairsL l) = symsL l
  | [], _ => rfl
  | [_], h => by simp at h
  | x :: y :: r, h => by
    unfold pairsL
    rw [syms_cons, syms_cons, syms_cons, syms_pairs r (by simp at h; omega), List.append_assoc]
theorem syms_perm {a b : List PkA} (h : a.Perm b) : (symsL a).Perm (symsL b) := h.flatMap_right _
theorem levels_sorted {SC : List PkA} (h : SC.Pairwise LeA) : ∀ k, (levels SC k).Pairwise LeA
  | 0 => h
  | _ + 1 => isort_sorted _
/-- The symbols of the first t packs: those of so many first coins on each level. -/
theorem first_syms {SC : List PkA} (h : SC.Pairwise LeA) : ∀ (k t : Nat), t ≤ (levels SC k).length → ∃ cs : List Nat, cs.length = k + 1 ∧ (∀ c ∈ cs, c ≤ SC.length) ∧ (symsL ((levels SC k).take t)).Perm (cs.flatMap fun c => symsL (SC.take c))
  | 0, t, ht => ⟨[t], rfl, (fun c hc => by rw [List.mem_singleton.1 hc]; exact ht), by simp [levels]⟩
  | k + 1, t, ht => by
    have hs := levels_sorted h k
    have e : levels SC (k + 1) = mrg SC (pairsL (levels SC k)) := isort_mrg h (pairs_sorted _ hs)
    rw [e] at ht ⊢
    rw [(mrg_perm _ _).length_eq, List.length_append] at ht
    obtain ⟨c, p, h1, h2, h3, h4⟩ := mrg_take SC (pairsL (levels SC k)) t ht
    rw [pairsL_len] at h2
    obtain ⟨cs, k1, k2, k3⟩ := first_syms h k (2 * p) (by omega)
    refine ⟨c :: cs, by simp [k1], fun c' hc => ?_, ?_⟩
    · rcases List.mem_cons.1 hc with rfl | hc
      · exact h1
      · exact k2 c' hc
    · refine (syms_perm h4).trans ?_
      rw [syms_app, pairs_take, syms_pairs _ (by rw [List.length_take]; omega), List.flatMap_cons]
      exact List.Perm.append_left _ k3
theorem coin_mem : ∀ (l : List Int) (i : Int) (p : PkA), p ∈ coinsF i l → ∃ j : Nat, ∃ h : j < l.length, 0 < l[j] ∧ p = (l[j], [i + j])
  | [], _, _, h => by cases h
  | f :: r, i, p, h => by
    unfold coinsF at h
    have go : p ∈ coinsF (i + 1) r → ∃ j : Nat, ∃ h : j < (f :: r).length, 0 < (f :: r)[j] ∧ p = ((f :: r)[j], [i + j]) := fun hp => by
      obtain ⟨j, hj, h1, h2⟩ := coin_mem r (i + 1) p hp
      refine ⟨j + 1, by simp; omega, by simpa using h1, ?_⟩
      rw [h2]
      simp
      omega
    split at h
    · rename_i hf
      rcases List.mem_cons.1 h with rfl | h
      · exact ⟨0, by simp, by simpa using hf, by simp⟩
      · exact go h
    · exact go h
theorem mem_coin : ∀ (l : List Int) (i : Int) (j : Nat) (h : j < l.length), 0 < l[j] → (l[j], [i + (j : Int)]) ∈ coinsF i l
  | [], _, _, h, _ => by simp at h
  | f :: r, i, 0, h, h1 => by
    unfold coinsF
    have : 0 < f := by simpa using h1
    rw [if_pos this]
    simp
  | f :: r, i, j + 1, h, h1 => by
    have ih := mem_coin r (i + 1) j (by simp at h; omega) (by simpa using h1)
    have e : i + 1 + (j : Int) = i + ((j + 1 : Nat) : Int) := by omega
    rw [e] at ih
    unfold coinsF
    split
    · exact List.mem_cons_of_mem _ (by simpa using ih)
    · simpa using ih
theorem coins_nodup : ∀ (l : List Int) (i : Int), (symsL (coinsF i l)).Nodup ∧ ∀ s ∈ symsL (coinsF i l), i ≤ s
  | [], _ => ⟨List.nodup_nil, (fun s hs => by cases hs)⟩
  | f :: r, i => by
    obtain ⟨h1, h2⟩ := coins_nodup r (i + 1)
    unfold coinsF
    split
    · rw [syms_cons]
      refine ⟨?_, fun s hs => ?_⟩
      · show (i :: symsL (coinsF (i + 1) r)).Nodup
        exact List.nodup_cons.2 ⟨fun hm => by have := h2 i hm; omega, h1⟩
      · rcases List.mem_append.1 hs with hs | hs
        · rw [List.mem_singleton.1 hs]; exact Int.le_refl _
        · have := h2 s hs; omega
    · exact ⟨h1, fun s hs => by have := h2 s hs; omega⟩
/-- How often a symbol stands in the coins' prefixes. -/
def depth (SC : List PkA) (cs : List Nat) (s : Int) : Nat := (cs.flatMap fun c => symsL (SC.take c)).count s
theorem depth_cons (SC : List PkA) (c : Nat) (cs : List Nat) (s : Int) : depth SC (c :: cs) s = (symsL (SC.take c)).count s + depth SC cs s := by
  unfold depth
  rw [List.flatMap_cons, List.count_append]
theorem tally_eq (o : List Int) : ∀ ps : List PkA, tally o ps = (symsL ps).foldl bump o := by
  intro ps
  induction ps generalizing o with
  | nil => rfl
  | cons p ps ih =>
    rw [syms_cons, List.foldl_append]
    exact ih _
theorem bumps_rd : ∀ (is o : List Int) (s : Nat), s < o.length → (∀ i ∈ is, 0 ≤ i ∧ i < o.length) → rd (is.foldl bump o) (s : Int) = rd o (s : Int) + (is.count (s : Int) : Int)
  | [], o, s, _, _ => by simp
  | i :: is, o, s, hs, h => by
    have hi := h i (by simp)
    rw [List.foldl_cons, bumps_rd is (bump o i) s (by rw [bump_len]; exact hs) (fun j hj => by rw [bump_len]; exact h j (by simp [hj])), List.count_cons]
    unfold bump rd
    rw [Int.toNat_natCast, List.getD_eq_getElem?_getD, List.getElem?_set, List.getD_eq_getElem?_getD (l := o) (i := s)]
    by_cases e : i.toNat = s
    · have e2 : i = (s : Int) := by omega
      subst e2
      simp [hs]
      omega
    · have e2 : ¬ i = (s : Int) := by omega
      simp [e, e2]
/-- The prefix counts of the lengths. -/
theorem lens_depth {l : List Int} {m : Nat} (hf : ∀ f ∈ l, f ≤ 1099511627776) (hm : 1 ≤ m) (hn : 2 ≤ (coinsF 0 l).length) (hp : (coinsF 0 l).length ≤ 2 ^ m) :
    ∃ cs : List Nat, cs.length = m ∧ (∀ c ∈ cs, c ≤ (coinsF 0 l).length) ∧ (symsL ((levels (isort (coinsF 0 l)) (m - 1)).take (2 * (coinsF 0 l).length - 2))).Perm (cs.flatMap fun c => symsL ((isort (coinsF 0 l)).take c)) ∧
      ∀ s : Nat, s < l.length → rd (lensL l m) (s : Int) = (depth (isort (coinsF 0 l)) cs (s : Int) : Int) := by
  have hl := (isort_perm (coinsF 0 l)).length_eq
  have hge := levels_ge (isort (coinsF 0 l)) (m := m) (by rw [hl]; exact hp) (m - 1) (by omega)
  rw [hl, show m - (m - 1) = 1 by omega] at hge
  obtain ⟨cs, h1, h2, h3⟩ := first_syms (isort_sorted (coinsF 0 l)) (m - 1) (2 * (coinsF 0 l).length - 2) (by omega)
  refine ⟨cs, by omega, fun c hc => by rw [← hl]; exact h2 c hc, h3, fun s hs => ?_⟩
  have e1 : ¬ (coinsF 0 l).length = 1 := by omega
  have e2 : ¬ (coinsF 0 l).length < 2 := by omega
  unfold lensL
  rw [if_neg e1, if_neg e2, tally_eq, bumps_rd _ _ s (by rw [List.length_replicate]; exact hs)]
  · have e3 : rd (List.replicate l.length 0) (s : Int) = 0 := by unfold rd; rw [List.getD_eq_getElem?_getD, List.getElem?_replicate]; split <;> rfl
    rw [e3, Int.zero_add, h3.count_eq]
    rfl
  · intro i hi
    rw [List.length_replicate]
    unfold symsL at hi
    obtain ⟨p, hp1, hp2⟩ := List.mem_flatMap.1 hi
    have hpb := levels_PB (SC := isort (coinsF 0 l)) (m := l.length) (fun q hq => by
      have := (isort_perm _).mem_iff.1 hq
      exact coins_PB l 0 hf (by omega) q (by rw [show ((0 : Nat) : Int) = 0 from rfl]; exact this)) (m - 1) p (List.mem_of_mem_take hp1)
    exact hpb.rng i hp2
theorem syms_take (L : List PkA) (c : Nat) : (symsL (L.take c)).Sublist (symsL L) := by
  have h := syms_app (L.take c) (L.drop c)
  rw [List.take_append_drop] at h
  rw [h]
  exact List.sublist_append_left _ _
theorem depth_le {l : List Int} (cs : List Nat) (s : Int) : depth (isort (coinsF 0 l)) cs s ≤ cs.length := by
  induction cs with
  | nil => exact Nat.le_refl _
  | cons c cs ih =>
    rw [depth_cons]
    have nd : (symsL (isort (coinsF 0 l))).Nodup := (syms_perm (isort_perm _)).nodup_iff.2 (coins_nodup l 0).1
    have nd2 : (symsL ((isort (coinsF 0 l)).take c)).Nodup := nd.sublist (syms_take _ c)
    have := List.nodup_iff_count.1 nd2 s
    simp only [List.length_cons]
    omega
/-- What weighs more stands no more often. -/
theorem depth_mono {l : List Int} (cs : List Nat) (a b : Nat) (ha : a < l.length) (hb : b < l.length) (h0 : 0 < l[b]) (hlt : l[b] < l[a]) : depth (isort (coinsF 0 l)) cs (a : Int) ≤ depth (isort (coinsF 0 l)) cs (b : Int) := by
  induction cs with
  | nil => exact Nat.le_refl _
  | cons c cs ih =>
    rw [depth_cons, depth_cons]
    have nd : (symsL (isort (coinsF 0 l))).Nodup := (syms_perm (isort_perm _)).nodup_iff.2 (coins_nodup l 0).1
    have nd2 : (symsL ((isort (coinsF 0 l)).take c)).Nodup := nd.sublist (syms_take _ c)
    have c1 := List.nodup_iff_count.1 nd2 (a : Int)
    have key : (a : Int) ∈ symsL ((isort (coinsF 0 l)).take c) → (b : Int) ∈ symsL ((isort (coinsF 0 l)).take c) := fun hm => by
      unfold symsL at hm ⊢
      obtain ⟨p, hp1, hp2⟩ := List.mem_flatMap.1 hm
      obtain ⟨j, hj, h1, rfl⟩ := coin_mem l 0 p ((isort_perm _).mem_iff.1 (List.mem_of_mem_take hp1))
      have hja : j = a := by
        have := List.mem_singleton.1 hp2
        omega
      subst hja
      have hbm : (l[b], [(0 : Int) + (b : Int)]) ∈ isort (coinsF 0 l) := (isort_perm _).mem_iff.2 (mem_coin l 0 b hb h0)
      rw [← List.take_append_drop c (isort (coinsF 0 l))] at hbm
      rcases List.mem_append.1 hbm with hbm | hbm
      · exact List.mem_flatMap.2 ⟨_, hbm, by simp⟩
      · have hs := isort_sorted (coinsF 0 l)
        rw [← List.take_append_drop c (isort (coinsF 0 l))] at hs
        have := (List.pairwise_append.1 hs).2.2 _ hp1 _ hbm
        unfold LeA at this
        simp only at this
        omega
    by_cases hm : (a : Int) ∈ symsL ((isort (coinsF 0 l)).take c)
    · have := List.count_pos_iff.2 (key hm)
      omega
    · rw [List.count_eq_zero.2 hm]
      omega
end Go.Proofs.Ytmmoenleldcadaa.HF
namespace Go.Proofs.Ytmmoenleldcadaa.HP
open Go.RowKit Go.Proofs.Ytmmoenleldcadaa.Fn Go.Proofs.Ytmmoenleldcadaa.HF Go.Proofs.YtmmoenleldcadaaW.PrintWords Go.Proofs.YtmmoenleldcadaaW.PrintLast Go.Proofs.YtmmoenleldcadaaW.PrintMore
theorem up {α : Type} {f : Nat → Option α} (hm : ∀ k, LeO (f k) (f (k + 1))) {K : Nat} {r : α} (h : f K = some r) : ∀ d, f (K + d) = some r
  | 0 => h
  | d + 1 => hm _ _ (up hm h d)
theorem both {α β : Type} {f : Nat → Option α} {g : Nat → Option β} (hm : ∀ k, LeO (f k) (f (k + 1))) (hg : ∀ k, LeO (g k) (g (k + 1))) {r : α} {s : β} (h1 : ∃ k, f k = some r) (h2 : ∃ k, g k = some s) : ∃ k, f k = some r ∧ g k = some s := by
  obtain ⟨a, ha⟩ := h1
  obtain ⟨b, hb⟩ := h2
  exact ⟨a + b, up hm ha b, by rw [Nat.add_comm]; exact up hg hb a⟩
theorem awake_ok : ∃ k, postroadlaw03_awake.f k = some true := ⟨20, by kernel_rfl⟩
theorem coinsF_len : ∀ (l : List Int) (i j : Int), (coinsF i l).length = (coinsF j l).length
  | [], _, _ => rfl
  | f :: r, i, j => by
    unfold coinsF
    have := coinsF_len r (i + 1) (j + 1)
    split <;> simp [this]
theorem coins_cons (x : Int) (r : List Int) : (coinsF 0 (x :: r)).length = (if 0 < x then 1 else 0) + (coinsF 0 r).length := by
  show (if 0 < x then (x, [(0 : Int)]) :: coinsF (0 + 1) r else coinsF (0 + 1) r).length = _
  have := coinsF_len r (0 + 1) 0
  split
  · rw [List.length_cons, this]; omega
  · rw [this]; omega
theorem shl_15 : ∀ m : Nat, m < 16 → shl .i64 1 (m : Int) = ((2 ^ m : Nat) : Int) := by decide
theorem refused_loop (l : List Int) (m : Nat) (hm : m ≤ 15) (hl : l.length ≤ 288) : ∀ (d i n : Nat), i + d = l.length → n ≤ i →
    ∃ k, postroadref03_Refused.l0 k l (m : Int) (n : Int) (i : Int) = some (!((l.drop i).all freqOk && decide (n + (coinsF 0 (l.drop i)).length ≤ 2 ^ m))) := by
  intro d
  induction d with
  | zero =>
    intro i n hi hn
    refine ⟨1, ?_⟩
    rw [postroadref03_Refused.l0, if_neg (by omega), if_pos (by omega), shl_15 m (by omega), List.drop_eq_nil_of_le (by omega)]
    have e : decide ((n : Int) > ((2 ^ m : Nat) : Int)) = !decide (n + (coinsF 0 []).length ≤ 2 ^ m) := by
      show decide _ = !decide (n + 0 ≤ 2 ^ m)
      by_cases h : n ≤ 2 ^ m
      · rw [decide_eq_true (show n + 0 ≤ 2 ^ m from h), decide_eq_false (by omega)]; rfl
      · rw [decide_eq_false (show ¬ n + 0 ≤ 2 ^ m from h), decide_eq_true (by omega)]; rfl
    rw [e]
    rfl
  | succ d ih =>
    intro i n hi hn
    have hlt : i < l.length := by omega
    have e0 : rd l (i : Int) = l[i] := rd_get l i hlt
    have ed : l.drop i = l[i] :: l.drop (i + 1) := List.drop_eq_getElem_cons hlt
    have w1 : wrap64 ((i : Int) + 1) = ((i + 1 : Nat) : Int) := by unfold wrap64; omega
    have w2 : wrap64 ((n : Int) + 1) = ((n + 1 : Nat) : Int) := by unfold wrap64; omega
    by_cases h1 : l[i] < 0
    · refine ⟨2, ?_⟩
      rw [postroadref03_Refused.l0, if_pos (by omega), if_pos (by omega), e0, if_pos h1, postroadref03_Refused.j2, if_pos rfl, ed, List.all_cons]
      have : freqOk l[i] = false := decide_eq_false (by omega)
      rw [this]
      rfl
    · by_cases h2 : l[i] > 1099511627776
      · refine ⟨2, ?_⟩
        rw [postroadref03_Refused.l0, if_pos (by omega), if_pos (by omega), e0, if_neg h1, decide_eq_true h2, postroadref03_Refused.j2, if_pos rfl, ed, List.all_cons]
        have : freqOk l[i] = false := decide_eq_false (by omega)
        rw [this]
        rfl
      · have hok : freqOk l[i] = true := decide_eq_true (by omega)
        by_cases h3 : l[i] > 0
        · obtain ⟨k, hk⟩ := ih (i + 1) (n + 1) (by omega) (by omega)
          refine ⟨k + 2, ?_⟩
          rw [postroadref03_Refused.l0, if_pos (by omega), if_pos (by omega), e0, if_neg h1, decide_eq_false h2, postroadref03_Refused.j2, if_neg (by decide), if_pos (by omega), if_pos (by omega), e0, if_pos h3, w1, w2, hk, ed, List.all_cons, hok, coins_cons, if_pos h3, Bool.true_and, Nat.add_assoc]
        · obtain ⟨k, hk⟩ := ih (i + 1) n (by omega) (by omega)
          refine ⟨k + 2, ?_⟩
          rw [postroadref03_Refused.l0, if_pos (by omega), if_pos (by omega), e0, if_neg h1, decide_eq_false h2, postroadref03_Refused.j2, if_neg (by decide), if_pos (by omega), if_pos (by omega), e0, if_neg h3, w1, hk, ed, List.all_cons, hok, coins_cons, if_neg h3, Bool.true_and, Nat.zero_add]
theorem refused_ok (l : List Int) (a : Int) : ∃ k, postroadref03_Refused.f k l a = some (!okLens l a) := by
  unfold postroadref03_Refused.f
  by_cases h1 : (l.length : Int) > 288
  · refine ⟨1, ?_⟩
    rw [if_pos h1, postroadref03_Refused.j0, if_pos rfl]
    unfold okLens
    rw [decide_eq_false (show ¬ l.length ≤ 288 by omega)]
    rfl
  · by_cases h2 : a < 1
    · refine ⟨1, ?_⟩
      rw [if_neg h1, if_pos h2, postroadref03_Refused.j0, if_pos rfl]
      unfold okLens
      rw [decide_eq_false (show ¬ (1 ≤ a ∧ a ≤ 15) by omega)]
      simp
    · by_cases h3 : a > 15
      · refine ⟨1, ?_⟩
        rw [if_neg h1, if_neg h2, decide_eq_true h3, postroadref03_Refused.j0, if_pos rfl]
        unfold okLens
        rw [decide_eq_false (show ¬ (1 ≤ a ∧ a ≤ 15) by omega)]
        simp
      · obtain ⟨m, rfl⟩ : ∃ m : Nat, a = m := ⟨a.toNat, by omega⟩
        obtain ⟨k, hk⟩ := refused_loop l m (by omega) (by omega) l.length 0 0 (by omega) (Nat.le_refl _)
        refine ⟨k + 1, ?_⟩
        rw [if_neg h1, if_neg h2, decide_eq_false h3, postroadref03_Refused.j0, if_neg (by decide)]
        have hk2 : postroadref03_Refused.l0 k l (m : Int) 0 0 = _ := hk
        rw [hk2]
        unfold okLens countedL
        rw [decide_eq_true (show l.length ≤ 288 by omega), decide_eq_true (show (1 : Int) ≤ (m : Int) ∧ (m : Int) ≤ 15 by omega), Int.toNat_natCast, List.drop_zero, Bool.true_and, Bool.true_and, Nat.zero_add]
end Go.Proofs.Ytmmoenleldcadaa.HP
namespace Go.Proofs.Ytmmoenleldcadaa.HP
open Go.RowKit Go.Proofs.Ytmmoenleldcadaa.Fn Go.Proofs.Ytmmoenleldcadaa.HF Go.Proofs.YtmmoenleldcadaaW.PrintWords Go.Proofs.YtmmoenleldcadaaW.PrintLast Go.Proofs.YtmmoenleldcadaaW.PrintMore
def shareS : List Int → Int
  | [] => 0
  | x :: r => (if 0 < x then ((2 ^ (15 - x.toNat) : Nat) : Int) else 0) + shareS r
theorem shareS_cons (x : Int) (r : List Int) : shareS (x :: r) = (if 0 < x then ((2 ^ (15 - x.toNat) : Nat) : Int) else 0) + shareS r := rfl
theorem pow15 (d : Nat) (h : d ≤ 15) : 2 ^ d ≤ 32768 := Nat.pow_le_pow_right (n := 2) (by decide) h
theorem share_loop (l : List Int) (hl : l.length ≤ 288) : ∀ (d i : Nat) (s : Int), i + d = l.length → 0 ≤ s → s ≤ i * 32768 → ∃ k, postroadref03_share.l0 k l s (i : Int) = some (if (l.drop i).all lenOk then s + shareS (l.drop i) else -1) := by
  intro d
  induction d with
  | zero =>
    intro i s hi h0 h1
    refine ⟨1, ?_⟩
    rw [postroadref03_share.l0, if_neg (by omega), List.drop_eq_nil_of_le (by omega)]
    show some s = some (s + 0)
    rw [Int.add_zero]
  | succ d ih =>
    intro i s hi h0 h1
    have hlt : i < l.length := by omega
    have e0 : rd l (i : Int) = l[i] := rd_get l i hlt
    have ed : l.drop i = l[i] :: l.drop (i + 1) := List.drop_eq_getElem_cons hlt
    have w1 : wrap64 ((i : Int) + 1) = ((i + 1 : Nat) : Int) := by unfold wrap64; omega
    by_cases c1 : l[i] < 0
    · refine ⟨2, ?_⟩
      have hb : lenOk l[i] = false := decide_eq_false (by omega)
      rw [postroadref03_share.l0, if_pos (by omega), if_pos (by omega), e0, if_pos c1, postroadref03_share.j1, if_pos rfl, ed, List.all_cons, hb]
      rfl
    · by_cases c2 : l[i] > 15
      · refine ⟨2, ?_⟩
        have hb : lenOk l[i] = false := decide_eq_false (by omega)
        rw [postroadref03_share.l0, if_pos (by omega), if_pos (by omega), e0, if_neg c1, decide_eq_true c2, postroadref03_share.j1, if_pos rfl, ed, List.all_cons, hb]
        rfl
      · have hb : lenOk l[i] = true := decide_eq_true (by omega)
        by_cases c3 : l[i] > 0
        · obtain ⟨x, hx⟩ : ∃ x : Nat, l[i] = x := ⟨l[i].toNat, by omega⟩
          have w2 : wrap64 (15 - l[i]) = ((15 - x : Nat) : Int) := by unfold wrap64; omega
          have hp := pow15 (15 - x) (by omega)
          obtain ⟨y, hy⟩ : ∃ y : Nat, 2 ^ (15 - x) = y := ⟨_, rfl⟩
          rw [hy] at hp
          have w3 : wrap64 (s + (y : Int)) = s + (y : Int) := by unfold wrap64; omega
          obtain ⟨k, hk⟩ := ih (i + 1) (s + (y : Int)) (by omega) (by omega) (by omega)
          refine ⟨k + 2, ?_⟩
          rw [postroadref03_share.l0, if_pos (by omega), if_pos (by omega), e0, if_neg c1, decide_eq_false c2, postroadref03_share.j1, if_neg (by decide), if_pos (by omega), if_pos (by omega), e0, if_pos c3, w2, if_pos (by omega), shl_15 (15 - x) (by omega), hy, w3, w1, hk, ed, List.all_cons, hb, Bool.true_and, shareS_cons, if_pos c3, hx, Int.toNat_natCast, hy, ← Int.add_assoc]
        · obtain ⟨k, hk⟩ := ih (i + 1) s (by omega) h0 (by omega)
          refine ⟨k + 2, ?_⟩
          rw [postroadref03_share.l0, if_pos (by omega), if_pos (by omega), e0, if_neg c1, decide_eq_false c2, postroadref03_share.j1, if_neg (by decide), if_pos (by omega), if_pos (by omega), e0, if_neg c3, w1, hk, ed, List.all_cons, hb, Bool.true_and]
          show _ = some (if _ then s + ((if 0 < l[i] then _ else 0) + shareS _) else -1)
          rw [if_neg c3, Int.zero_add]
def shareL (l : List Int) : Int := if decide (l.length ≤ 288) && l.all lenOk then shareS l else -1
theorem share_ok (l : List Int) : ∃ k, postroadref03_share.f k l = some (shareL l) := by
  unfold postroadref03_share.f shareL
  by_cases h : (l.length : Int) > 288
  · exact ⟨0, by rw [if_pos h, decide_eq_false (show ¬ l.length ≤ 288 by omega)]; rfl⟩
  · obtain ⟨k, hk⟩ := share_loop l (by omega) l.length 0 0 (by omega) (Int.le_refl _) (by omega)
    refine ⟨k, ?_⟩
    have hk2 : postroadref03_share.l0 k l 0 0 = _ := hk
    rw [if_neg h, hk2, decide_eq_true (show l.length ≤ 288 by omega), List.drop_zero, Bool.true_and, Int.zero_add]
theorem shareS_nn : ∀ l : List Int, 0 ≤ shareS l
  | [] => Int.le_refl _
  | x :: r => by
    have := shareS_nn r
    rw [shareS_cons]
    split
    · exact Int.add_nonneg (Int.natCast_nonneg _) this
    · omega
/-- One word more of length x. -/
theorem rooms_one (f g : Nat → Int) (x : Nat) (hx : 1 ≤ x) (h : ∀ l, g l = f l + (if l = x then 1 else 0)) : ∀ j, rooms g j = rooms f j - (if x ≤ j then ((2 ^ (j - x) : Nat) : Int) else 0)
  | 0 => by
    rw [if_neg (by omega)]
    show (1 : Int) = 1 - 0
    rfl
  | j + 1 => by
    have ih := rooms_one f g x hx h j
    show 2 * rooms g j - g (j + 1) = 2 * rooms f j - f (j + 1) - _
    rw [ih, h]
    by_cases e : j + 1 = x
    · rw [if_pos e, if_neg (by omega), if_pos (by omega), e, Nat.sub_self]
      show 2 * (rooms f j - 0) - (f x + 1) = 2 * rooms f j - f x - ((1 : Nat) : Int)
      omega
    · rw [if_neg e]
      by_cases e2 : x ≤ j
      · rw [if_pos e2, if_pos (by omega), show j + 1 - x = (j - x) + 1 by omega, Nat.pow_succ]
        generalize 2 ^ (j - x) = y
        omega
      · rw [if_neg e2, if_neg (by omega)]
        omega
theorem rooms_congr {f g : Nat → Int} (h : ∀ l, 1 ≤ l → g l = f l) : ∀ j, rooms g j = rooms f j
  | 0 => rfl
  | j + 1 => by
    show 2 * rooms g j - g (j + 1) = 2 * rooms f j - f (j + 1)
    rw [rooms_congr h j, h (j + 1) (by omega)]
theorem rooms_share : ∀ l : List Int, l.all lenOk = true → rooms (fun k => cntL l k) 15 = 32768 - shareS l
  | [], _ => by decide
  | x :: r, h => by
    rw [List.all_cons, Bool.and_eq_true] at h
    have ih := rooms_share r h.2
    have hx := of_decide_eq_true h.1
    obtain ⟨n, rfl⟩ : ∃ n : Nat, x = n := ⟨x.toNat, by omega⟩
    rw [shareS_cons]
    by_cases h0 : (0 : Int) < (n : Int)
    · rw [if_pos h0, rooms_one (fun k => cntL r k) (fun k => cntL ((n : Int) :: r) k) n (by omega) (fun l => by
        show cntL ((n : Int) :: r) l = cntL r l + _
        rw [cntL_cons]
        by_cases e : l = n
        · subst e; rw [if_pos rfl, if_pos rfl]; omega
        · rw [if_neg e, if_neg (by omega)]; omega) 15, ih, if_pos (by omega), Int.toNat_natCast]
      omega
    · rw [if_neg h0, Int.zero_add, ← ih]
      exact rooms_congr (fun l hl => by
        show cntL ((n : Int) :: r) l = cntL r l
        rw [cntL_cons, if_neg (by omega), Int.zero_add]) 15
theorem okL_share (l : List Int) : okL l = (decide (0 ≤ shareL l) && decide (shareL l ≤ 32768)) := by
  unfold okL shareL
  cases h1 : decide (l.length ≤ 288) with
  | false => rfl
  | true =>
    cases h2 : l.all lenOk with
    | false => rfl
    | true =>
      rw [rooms_share l h2]
      simp only [Bool.true_and, Bool.and_self, if_true]
      have := shareS_nn l
      rw [decide_eq_true this, Bool.true_and]
      by_cases e : shareS l ≤ 32768
      · rw [decide_eq_true e, decide_eq_true (by omega)]
      · rw [decide_eq_false e, decide_eq_false (by omega)]
theorem may_ok (l : List Int) : ∃ k, postroadref03_May.f k l = some (okL l) := by
  obtain ⟨k, hk⟩ := share_ok l
  refine ⟨k, ?_⟩
  unfold postroadref03_May.f
  rw [hk, okL_share]
  simp only [Option.bind_some]
  by_cases h : shareL l ≥ 0
  · rw [if_pos h, decide_eq_true (show 0 ≤ shareL l from h), Bool.true_and]
  · rw [if_neg h, decide_eq_false (show ¬ 0 ≤ shareL l from h)]
    rfl
theorem full_ok (l : List Int) (ho : okL l = true) : ∃ k, postroadref03_Full.f k l = some (wholeL l) := by
  obtain ⟨k, hk⟩ := share_ok l
  refine ⟨k, ?_⟩
  unfold postroadref03_Full.f wholeL
  rw [hk]
  simp only [Option.bind_some]
  unfold okL at ho
  simp only [Bool.and_eq_true] at ho
  have h2 := ho.2.1
  rw [rooms_share l h2]
  unfold shareL
  rw [ho.1, h2]
  simp only [Bool.and_self, if_true]
  by_cases e : shareS l = 32768
  · rw [e]; rfl
  · rw [decide_eq_false (by omega)]
    congr 1
    exact beq_eq_false_iff_ne.mpr e
/-- The words of a length and those ahead of it. -/
theorem used (f : Nat → Int) : ∀ L, 1 ≤ L → nxt f L + f L = 2 ^ L - rooms f L
  | 0, h => by omega
  | L + 1, _ => by
    by_cases h : L = 0
    · subst h
      show (0 : Int) + f 1 = 2 ^ 1 - (2 * 1 - f 1)
      omega
    · have ih := used f L (by omega)
      show (if L = 0 then (0 : Int) else 2 * (nxt f L + f L)) + f (L + 1) = 2 ^ (L + 1) - (2 * rooms f L - f (L + 1))
      rw [if_neg h, ih, Int.pow_succ]
      omega
theorem rooms_nn {f : Nat → Int} (hf : ∀ l, 0 ≤ f l) {j : Nat} (h : 0 ≤ rooms f 15) (hj : j ≤ 15) : 0 ≤ rooms f j := by
  by_cases c : 0 ≤ rooms f j
  · exact c
  · have := rooms_neg hf (i := j) (by omega) 15 hj
    omega
/-- A longer word stands behind all shorter ones. -/
theorem nxt_behind {f : Nat → Int} (hf : ∀ l, 0 ≤ f l) (a : Nat) (ha : 1 ≤ a) : ∀ d, (nxt f a + f a) * 2 ^ (d + 1) ≤ nxt f (a + d + 1)
  | 0 => by
    show _ ≤ if a = 0 then (0 : Int) else 2 * (nxt f a + f a)
    rw [if_neg (by omega)]
    omega
  | d + 1 => by
    have ih := nxt_behind hf a ha d
    have := hf (a + d + 1)
    show _ ≤ if a + d + 1 = 0 then (0 : Int) else 2 * (nxt f (a + d + 1) + f (a + d + 1))
    rw [if_neg (by omega), Int.pow_succ, ← Int.mul_assoc]
    omega
theorem shr_i64 (n m : Nat) (hm : m ≤ 64) : shr .i64 (n : Int) (m : Int) = ((n / 2 ^ m : Nat) : Int) := by
  unfold shr
  rw [show min ((m : Int)).toNat IntKind.i64.bits = m from by simp [IntKind.bits]; omega]
  simp
theorem cnt_mono (l : List Int) (x : Int) {i j : Nat} (h : i ≤ j) : cntL (l.take i) x ≤ cntL (l.take j) x := by
  have e : l.take j = l.take i ++ (l.drop i).take (j - i) := by
    have := (List.take_append_drop i (l.take j)).symm
    rw [List.take_take, List.drop_take, Nat.min_eq_left h] at this
    exact this
  rw [e, cntL_app]
  have := (cntL_nn ((l.drop i).take (j - i)) x).1
  omega
theorem cnt_next (l : List Int) (i : Nat) (h : i < l.length) : cntL (l.take (i + 1)) l[i] = cntL (l.take i) l[i] + 1 := by
  rw [List.take_succ_eq_append_getElem h, cntL_snoc, if_pos rfl]
theorem cnt_lt (l : List Int) (i j : Nat) (h : i < l.length) (hj : i < j) : cntL (l.take i) l[i] + 1 ≤ cntL (l.take j) l[i] := by
  rw [← cnt_next l i h]
  exact cnt_mono l _ hj
theorem cnt_all (l : List Int) (i : Nat) (h : i < l.length) : cntL (l.take i) l[i] + 1 ≤ cntL l l[i] := by
  have := cnt_lt l i l.length h h
  rw [List.take_length] at this
  exact this
theorem codes_rd (l : List Int) (i : Nat) (h : i < l.length) : rd (codesL l) (i : Int) = codeAt l i := by
  unfold rd codesL
  rw [Int.toNat_natCast, List.getD_eq_getElem?_getD, List.getElem?_map, List.getElem?_range h]
  rfl
theorem codeAt_eq (l : List Int) (i L : Nat) (h : i < l.length) (hL : l[i] = (L : Int)) (h0 : 0 < L) : codeAt l i = nxt (fun k => cntL l k) L + cntL (l.take i) (L : Int) := by
  unfold codeAt
  rw [List.getD_eq_getElem?_getD, List.getElem?_eq_getElem h]
  simp only [Option.getD_some, hL]
  rw [if_pos (by omega), Int.toNat_natCast]
theorem codeAt_zero (l : List Int) (i : Nat) (h : i < l.length) (hL : l[i] = 0) : codeAt l i = 0 := by
  unfold codeAt
  rw [List.getD_eq_getElem?_getD, List.getElem?_eq_getElem h]
  simp only [Option.getD_some, hL]
  rfl
theorem okL_open {l : List Int} (h : okL l = true) : l.length ≤ 288 ∧ (∀ x ∈ l, 0 ≤ x ∧ x ≤ 15) ∧ 0 ≤ rooms (fun k => cntL l k) 15 := by
  unfold okL at h
  simp only [Bool.and_eq_true, decide_eq_true_eq] at h
  exact ⟨h.1, fun x hx => of_decide_eq_true (List.all_eq_true.1 h.2.1 x hx), h.2.2⟩
theorem cnt_nn' (l : List Int) : ∀ k : Nat, 0 ≤ (fun k : Nat => cntL l k) k := fun k => (cntL_nn l k).1
/-- A word is a number below 2 to its length. -/
theorem code_fits {l : List Int} (ho : okL l = true) (i L : Nat) (h : i < l.length) (hL : l[i] = (L : Int)) (h0 : 0 < L) : 0 ≤ codeAt l i ∧ codeAt l i + 1 ≤ nxt (fun k => cntL l k) L + cntL l (L : Int) ∧ codeAt l i + 1 ≤ 2 ^ L := by
  obtain ⟨o1, o2, o3⟩ := okL_open ho
  have h15 : L ≤ 15 := by have := o2 l[i] (List.getElem_mem _); omega
  have e := codeAt_eq l i L h hL h0
  have c1 := cnt_all l i h
  rw [hL] at c1
  have u := used (fun k => cntL l k) L h0
  have r := rooms_nn (cnt_nn' l) o3 h15
  have nb := nxt_bd (f := fun k => cntL l k) (fun k => ⟨(cntL_nn l k).1, by have := (cntL_nn l k).2; omega⟩) L
  have cn := (cntL_nn (l.take i) (L : Int)).1
  rw [e]
  omega
/-- No word begins another. -/
theorem code_apart {l : List Int} (ho : okL l = true) (i j a d : Nat) (hi : i < l.length) (hj : j < l.length) (hij : i ≠ j) (hA : l[i] = (a : Int)) (h0 : 0 < a) (hB : l[j] = ((a + d : Nat) : Int)) : shr .i64 (codeAt l j) (d : Int) ≠ codeAt l i := by
  obtain ⟨o1, o2, o3⟩ := okL_open ho
  have h15 : a + d ≤ 15 := by have := o2 l[j] (List.getElem_mem _); omega
  have fi := code_fits ho i a hi hA h0
  have fj := code_fits ho j (a + d) hj hB (by omega)
  have ei := codeAt_eq l i a hi hA h0
  have ej := codeAt_eq l j (a + d) hj hB (by omega)
  obtain ⟨u, hu⟩ : ∃ u : Nat, codeAt l i = u := ⟨(codeAt l i).toNat, by omega⟩
  obtain ⟨v, hv⟩ : ∃ v : Nat, codeAt l j = v := ⟨(codeAt l j).toNat, by omega⟩
  rw [hu, hv, shr_i64 v d (by omega)]
  cases d with
  | zero =>
    rw [Nat.pow_zero, Nat.div_one]
    rw [Nat.add_zero] at ej hB
    rcases Nat.lt_or_gt_of_ne hij with hlt | hgt
    · have := cnt_lt l i j hi hlt
      rw [hA] at this
      omega
    · have := cnt_lt l j i hj hgt
      rw [hB] at this
      omega
  | succ d =>
    have nb := nxt_behind (cnt_nn' l) a h0 d
    have cn := (cntL_nn (l.take j) ((a + (d + 1) : Nat) : Int)).1
    have k1 : ((u : Int) + 1) * 2 ^ (d + 1) ≤ v := by
      refine Int.le_trans (Int.mul_le_mul_of_nonneg_right (show (u : Int) + 1 ≤ nxt (fun k => cntL l k) a + cntL l (a : Int) by omega) (Int.le_of_lt (Int.pow_pos (by decide)))) (Int.le_trans nb ?_)
      rw [show a + d + 1 = a + (d + 1) by omega]
      omega
    have k2 : (u + 1) * 2 ^ (d + 1) ≤ v := by exact_mod_cast k1
    have k3 : u + 1 ≤ v / 2 ^ (d + 1) := (Nat.le_div_iff_mul_le (Nat.pow_pos (by decide))).2 k2
    omega
end Go.Proofs.Ytmmoenleldcadaa.HP
