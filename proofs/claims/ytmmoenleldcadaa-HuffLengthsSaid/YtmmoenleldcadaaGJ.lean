/- How often a symbol stands in the first packs of a level, plain. What every law of huff asks: awake; Refused; plain. Lengths that may be, by shares and by what is left; no word begins another: plain. The first packs of each level: nested prefixes of the coins, their weights, their shares; plain. The lengths' shares are whole, their cost is the first packs' weight: plain. The lengths as a whole: each symbol's, their shares, their cost; plain. Sums over the coins are sums over the symbols: shares and cost of the lengths; plain. Rising numbers, the document's way: plain. The least cost, the document's way: the weight of the first packs; plain. Least as a whole; plain. What HuffLengths and HuffWider ask besides: the document's cost; limits opened; plain. A higher limit never costs more, and no less than the symbols come: plain. -/
import Derived.Test.YtmmoenleldcadaaPLen
import Derived.Test.YtmmoenleldcadaaFK
import Derived.Test.YtmmoenleldcadaaFnx3
import Derived.Test.YtmmoenleldcadaaFL
namespace Go.Proofs.Ytmmoenleldcadaa.HF
open Go.Proofs.YtmmoenleldcadaaW.PrintWords
def mrg : List PkA → List PkA → List PkA
  | [], B => B
  | x :: A, [] => x :: A
  | x :: A, y :: B => if x.1 ≤ y.1 then x :: mrg A (y :: B) else y :: mrg (x :: A) B
termination_by A B => A.length + B.length
theorem mrg_nil (B : List PkA) : mrg [] B = B := by rw [mrg]
theorem mrg_nil2 (A : List PkA) : mrg A [] = A := by cases A <;> rw [mrg]
theorem mrg_cons (x y : PkA) (A B : List PkA) : mrg (x :: A) (y :: B) = if x.1 ≤ y.1 then x :: mrg A (y :: B) else y :: mrg (x :: A) B := by rw [mrg]
theorem mrg_perm : ∀ (A B : List PkA), (mrg A B).Perm (A ++ B)
  | [], B => by rw [mrg_nil]; exact .refl _
  | x :: A, [] => by rw [mrg_nil2, List.append_nil]
  | x :: A, y :: B => by
    rw [mrg_cons]
    split
    · exact (mrg_perm A (y :: B)).cons x
    · exact ((mrg_perm (x :: A) B).cons y).trans List.perm_middle.symm
termination_by A B => A.length + B.length
theorem mrg_sorted : ∀ (A B : List PkA), A.Pairwise LeA → B.Pairwise LeA → (mrg A B).Pairwise LeA
  | [], B, _, h => by rw [mrg_nil]; exact h
  | x :: A, [], h, _ => by rw [mrg_nil2]; exact h
  | x :: A, y :: B, h1, h2 => by
    obtain ⟨a1, a2⟩ := List.pairwise_cons.1 h1
    obtain ⟨b1, b2⟩ := List.pairwise_cons.1 h2
    rw [mrg_cons]
    split
    · rename_i hxy
      refine List.pairwise_cons.2 ⟨fun z hz => ?_, mrg_sorted A (y :: B) a2 h2⟩
      rcases List.mem_append.1 ((mrg_perm A (y :: B)).mem_iff.1 hz) with hz | hz
      · exact a1 z hz
      · rcases List.mem_cons.1 hz with rfl | hz
        · exact hxy
        · exact Int.le_trans hxy (b1 z hz)
    · rename_i hxy
      have hyx : y.1 ≤ x.1 := by omega
      refine List.pairwise_cons.2 ⟨fun z hz => ?_, mrg_sorted (x :: A) B h1 b2⟩
      rcases List.mem_append.1 ((mrg_perm (x :: A) B).mem_iff.1 hz) with hz | hz
      · rcases List.mem_cons.1 hz with rfl | hz
        · exact hyx
        · exact Int.le_trans hyx (a1 z hz)
      · exact b1 z hz
termination_by A B => A.length + B.length
theorem mrg_fil (w : Int) : ∀ (A B : List PkA), A.Pairwise LeA → (mrg A B).filter (fun p => p.1 == w) = (A ++ B).filter (fun p => p.1 == w)
  | [], B, _ => by rw [mrg_nil]; rfl
  | x :: A, [], _ => by rw [mrg_nil2, List.append_nil]
  | x :: A, y :: B, h1 => by
    obtain ⟨a1, a2⟩ := List.pairwise_cons.1 h1
    rw [mrg_cons]
    split
    · rw [List.filter_cons, mrg_fil w A (y :: B) a2, List.cons_append, List.filter_cons]
    · rename_i hxy
      rw [List.filter_cons, mrg_fil w (x :: A) B h1, List.filter_append, List.filter_append]
      by_cases e : y.1 = w
      · have z : List.filter (fun p => p.1 == w) (x :: A) = [] := by
          rw [List.filter_eq_nil_iff]
          intro q hq
          simp only [beq_iff_eq]
          rcases List.mem_cons.1 hq with rfl | hq
          · omega
          · have : x.1 ≤ q.1 := a1 q hq
            omega
        rw [z, List.filter_cons]
        simp [e]
      · rw [List.filter_cons (x := y)]
        simp [e]
termination_by A B => A.length + B.length
theorem isort_mrg {A B : List PkA} (h1 : A.Pairwise LeA) (h2 : B.Pairwise LeA) : isort (A ++ B) = mrg A B :=
  sorted_uniq _ _ (isort_sorted _) (mrg_sorted A B h1 h2) (fun w => (isort_fil w _).trans (mrg_fil w A B h1).symm)
theorem mrg_take : ∀ (A B : List PkA) (t : Nat), t ≤ A.length + B.length → ∃ c p, c ≤ A.length ∧ p ≤ B.length ∧ c + p = t ∧ ((mrg A B).take t).Perm (A.take c ++ B.take p)
  | A, B, 0, _ => ⟨0, 0, Nat.zero_le _, Nat.zero_le _, rfl, by simp⟩
  | [], B, t + 1, h => ⟨0, t + 1, Nat.zero_le _, by simpa using h, by omega, by rw [mrg_nil]; simp⟩
  | x :: A, [], t + 1, h => ⟨t + 1, 0, by simpa using h, Nat.zero_le _, by omega, by rw [mrg_nil2]; simp⟩
  | x :: A, y :: B, t + 1, h => by
    rw [mrg_cons]
    split
    · obtain ⟨c, p, h1, h2, h3, h4⟩ := mrg_take A (y :: B) t (by simp at h ⊢; omega)
      exact ⟨c + 1, p, by simp; omega, h2, by omega, by rw [List.take_succ_cons, List.take_succ_cons]; exact h4.cons x⟩
    · obtain ⟨c, p, h1, h2, h3, h4⟩ := mrg_take (x :: A) B t (by simp at h ⊢; omega)
      exact ⟨c, p + 1, h1, by simp; omega, by omega, by rw [List.take_succ_cons, List.take_succ_cons]; exact (h4.cons y).trans List.perm_middle.symm⟩
termination_by A B => A.length + B.length
theorem pairs_sorted : ∀ (l : List PkA), l.Pairwise LeA → (pairsL l).Pairwise LeA
  | [], _ => List.Pairwise.nil
  | [_], _ => List.Pairwise.nil
  | x :: y :: r, h => by
    obtain ⟨a1, a2⟩ := List.pairwise_cons.1 h
    obtain ⟨b1, b2⟩ := List.pairwise_cons.1 a2
    unfold pairsL
    refine List.pairwise_cons.2 ⟨?_, pairs_sorted r b2⟩
    have key : ∀ (r : List PkA) (m1 m2 : Int), (∀ z ∈ r, m1 ≤ z.1) → (∀ z ∈ r, m2 ≤ z.1) → ∀ q ∈ pairsL r, m1 + m2 ≤ q.1 := by
      intro r
      induction r using pairsL.induct with
      | case1 u v r ih =>
        intro m1 m2 h1 h2 q hq
        unfold pairsL at hq
        rcases List.mem_cons.1 hq with rfl | hq
        · have k1 := h1 u (by simp)
          have k2 := h2 v (by simp)
          show m1 + m2 ≤ u.1 + v.1
          omega
        · exact ih m1 m2 (fun z hz => h1 z (by simp [hz])) (fun z hz => h2 z (by simp [hz])) q hq
      | case2 l hl =>
        intro m1 m2 h1 h2 q hq
        rw [pairsL] at hq
        · cases hq
        · exact hl
    intro q hq
    exact key r x.1 y.1 (fun z hz => a1 z (by simp [hz])) (fun z hz => b1 z hz) q hq
theorem pairs_take : ∀ (l : List PkA) (p : Nat), (pairsL l).take p = pairsL (l.take (2 * p))
  | [], _ => by simp [pairsL]
  | [x], 0 => by simp [pairsL]
  | [x], p + 1 => by
    have e2 : [x].take (2 * (p + 1)) = [x] := by rw [show 2 * (p + 1) = 2 * p + 1 + 1 by omega]; rfl
    rw [e2]
    simp [pairsL]
  | x :: y :: r, 0 => by simp [pairsL]
  | x :: y :: r, p + 1 => by
    have e2 : (x :: y :: r).take (2 * (p + 1)) = x :: y :: r.take (2 * p) := by rw [show 2 * (p + 1) = 2 * p + 1 + 1 by omega]; rfl
    rw [e2]
    simp only [pairsL, List.take_succ_cons, pairs_take r p]
def symsL (l : List PkA) : List Int := l.flatMap Prod.snd
theorem syms_app (a b : List PkA) : symsL (a ++ b) = symsL a ++ symsL b := by unfold symsL; rw [List.flatMap_append]
theorem syms_cons (a : PkA) (b : List PkA) : symsL (a :: b) = a.2 ++ symsL b := by unfold symsL; rw [List.flatMap_cons]
theorem syms_pairs : ∀ (l : List PkA), l.length % 2 = 0 → symsL (pairsL l) = symsL l
  | [], _ => rfl
  | [_], h => by simp at h
  | x :: y :: r, h => by
    unfold pairsL
    rw [syms_cons, syms_cons, syms_cons, syms_pairs r (by simp at h; omega), List.append_assoc]
theorem syms_perm {a b : List PkA} (h : a.Perm b) : (symsL a).Perm (symsL b) := h.flatMap_right _
theorem levels_sorted {SC : List PkA} (h : SC.Pairwise LeA) : ∀ k, (levels SC k).Pairwise LeA
  | 0 => h
  | _ + 1 => isort_sorted _
/-- The symbols of the first t packs: those of so many first coins on each level. -/
theorem first_syms {SC : List PkA} (h : SC.Pairwise LeA) : ∀ (k t : Nat), t ≤ (levels SC k).length → ∃ cs : List Nat, cs.length = k + 1 ∧ (∀ c ∈ cs, c ≤ SC.length) ∧ (symsL ((levels SC k).take t)).Perm (cs.flatMap fun c => symsL (SC.take c))
  | 0, t, ht => ⟨[t], rfl, (fun c hc => by rw [List.mem_singleton.1 hc]; exact ht), by simp [levels]⟩
  | k + 1, t, ht => by
    have hs := levels_sorted h k
    have e : levels SC (k + 1) = mrg SC (pairsL (levels SC k)) := isort_mrg h (pairs_sorted _ hs)
    rw [e] at ht ⊢
    rw [(mrg_perm _ _).length_eq, List.length_append] at ht
    obtain ⟨c, p, h1, h2, h3, h4⟩ := mrg_take SC (pairsL (levels SC k)) t ht
    rw [pairsL_len] at h2
    obtain ⟨cs, k1, k2, k3⟩ := first_syms h k (2 * p) (by omega)
    refine ⟨c :: cs, by simp [k1], fun c' hc => ?_, ?_⟩
    · rcases List.mem_cons.1 hc with rfl | hc
      · exact h1
      · exact k2 c' hc
    · refine (syms_perm h4).trans ?_
      rw [syms_app, pairs_take, syms_pairs _ (by rw [List.length_take]; omega), List.flatMap_cons]
      exact List.Perm.append_left _ k3
theorem coin_mem : ∀ (l : List Int) (i : Int) (p : PkA), p ∈ coinsF i l → ∃ j : Nat, ∃ h : j < l.length, 0 < l[j] ∧ p = (l[j], [i + j])
  | [], _, _, h => by cases h
  | f :: r, i, p, h => by
    unfold coinsF at h
    have go : p ∈ coinsF (i + 1) r → ∃ j : Nat, ∃ h : j < (f :: r).length, 0 < (f :: r)[j] ∧ p = ((f :: r)[j], [i + j]) := fun hp => by
      obtain ⟨j, hj, h1, h2⟩ := coin_mem r (i + 1) p hp
      refine ⟨j + 1, by simp; omega, by simpa using h1, ?_⟩
      rw [h2]
      simp
      omega
    split at h
    · rename_i hf
      rcases List.mem_cons.1 h with rfl | h
      · exact ⟨0, by simp, by simpa using hf, by simp⟩
      · exact go h
    · exact go h
theorem mem_coin : ∀ (l : List Int) (i : Int) (j : Nat) (h : j < l.length), 0 < l[j] → (l[j], [i + (j : Int)]) ∈ coinsF i l
  | [], _, _, h, _ => by simp at h
  | f :: r, i, 0, h, h1 => by
    unfold coinsF
    have : 0 < f := by simpa using h1
    rw [if_pos this]
    simp
  | f :: r, i, j + 1, h, h1 => by
    have ih := mem_coin r (i + 1) j (by simp at h; omega) (by simpa using h1)
    have e : i + 1 + (j : Int) = i + ((j + 1 : Nat) : Int) := by omega
    rw [e] at ih
    unfold coinsF
    split
    · exact List.mem_cons_of_mem _ (by simpa using ih)
    · simpa using ih
theorem coins_nodup : ∀ (l : List Int) (i : Int), (symsL (coinsF i l)).Nodup ∧ ∀ s ∈ symsL (coinsF i l), i ≤ s
  | [], _ => ⟨List.nodup_nil, (fun s hs => by cases hs)⟩
  | f :: r, i => by
    obtain ⟨h1, h2⟩ := coins_nodup r (i + 1)
    unfold coinsF
    split
    · rw [syms_cons]
      refine ⟨?_, fun s hs => ?_⟩
      · show (i :: symsL (coinsF (i + 1) r)).Nodup
        exact List.nodup_cons.2 ⟨fun hm => by have := h2 i hm; omega, h1⟩
      · rcases List.mem_append.1 hs with hs | hs
        · rw [List.mem_singleton.1 hs]; exact Int.le_refl _
        · have := h2 s hs; omega
    · exact ⟨h1, fun s hs => by have := h2 s hs; omega⟩
/-- How often a symbol stands in the coins' prefixes. -/
def depth (SC : List PkA) (cs : List Nat) (s : Int) : Nat := (cs.flatMap fun c => symsL (SC.take c)).count s
theorem depth_cons (SC : List PkA) (c : Nat) (cs : List Nat) (s : Int) : depth SC (c :: cs) s = (symsL (SC.take c)).count s + depth SC cs s := by
  unfold depth
  rw [List.flatMap_cons, List.count_append]
theorem tally_eq (o : List Int) : ∀ ps : List PkA, tally o ps = (symsL ps).foldl bump o := by
  intro ps
  induction ps generalizing o with
  | nil => rfl
  | cons p ps ih =>
    rw [syms_cons, List.foldl_append]
    exact ih _
theorem bumps_rd : ∀ (is o : List Int) (s : Nat), s < o.length → (∀ i ∈ is, 0 ≤ i ∧ i < o.length) → rd (is.foldl bump o) (s : Int) = rd o (s : Int) + (is.count (s : Int) : Int)
  | [], o, s, _, _ => by simp
  | i :: is, o, s, hs, h => by
    have hi := h i (by simp)
    rw [List.foldl_cons, bumps_rd is (bump o i) s (by rw [bump_len]; exact hs) (fun j hj => by rw [bump_len]; exact h j (by simp [hj])), List.count_cons]
    unfold bump rd
    rw [Int.toNat_natCast, List.getD_eq_getElem?_getD, List.getElem?_set, List.getD_eq_getElem?_getD (l := o) (i := s)]
    by_cases e : i.toNat = s
    · have e2 : i = (s : Int) := by omega
      subst e2
      simp [hs]
      omega
    · have e2 : ¬ i = (s : Int) := by omega
      simp [e, e2]
/-- The prefix counts of the lengths. -/
theorem lens_depth {l : List Int} {m : Nat} (hf : ∀ f ∈ l, f ≤ 1099511627776) (hm : 1 ≤ m) (hn : 2 ≤ (coinsF 0 l).length) (hp : (coinsF 0 l).length ≤ 2 ^ m) :
    ∃ cs : List Nat, cs.length = m ∧ (∀ c ∈ cs, c ≤ (coinsF 0 l).length) ∧ (symsL ((levels (isort (coinsF 0 l)) (m - 1)).take (2 * (coinsF 0 l).length - 2))).Perm (cs.flatMap fun c => symsL ((isort (coinsF 0 l)).take c)) ∧
      ∀ s : Nat, s < l.length → rd (lensL l m) (s : Int) = (depth (isort (coinsF 0 l)) cs (s : Int) : Int) := by
  have hl := (isort_perm (coinsF 0 l)).length_eq
  have hge := levels_ge (isort (coinsF 0 l)) (m := m) (by rw [hl]; exact hp) (m - 1) (by omega)
  rw [hl, show m - (m - 1) = 1 by omega] at hge
  obtain ⟨cs, h1, h2, h3⟩ := first_syms (isort_sorted (coinsF 0 l)) (m - 1) (2 * (coinsF 0 l).length - 2) (by omega)
  refine ⟨cs, by omega, fun c hc => by rw [← hl]; exact h2 c hc, h3, fun s hs => ?_⟩
  have e1 : ¬ (coinsF 0 l).length = 1 := by omega
  have e2 : ¬ (coinsF 0 l).length < 2 := by omega
  unfold lensL
  rw [if_neg e1, if_neg e2, tally_eq, bumps_rd _ _ s (by rw [List.length_replicate]; exact hs)]
  · have e3 : rd (List.replicate l.length 0) (s : Int) = 0 := by unfold rd; rw [List.getD_eq_getElem?_getD, List.getElem?_replicate]; split <;> rfl
    rw [e3, Int.zero_add, h3.count_eq]
    rfl
  · intro i hi
    rw [List.length_replicate]
    unfold symsL at hi
    obtain ⟨p, hp1, hp2⟩ := List.mem_flatMap.1 hi
    have hpb := levels_PB (SC := isort (coinsF 0 l)) (m := l.length) (fun q hq => by
      have := (isort_perm _).mem_iff.1 hq
      exact coins_PB l 0 hf (by omega) q (by rw [show ((0 : Nat) : Int) = 0 from rfl]; exact this)) (m - 1) p (List.mem_of_mem_take hp1)
    exact hpb.rng i hp2
theorem syms_take (L : List PkA) (c : Nat) : (symsL (L.take c)).Sublist (symsL L) := by
  have h := syms_app (L.take c) (L.drop c)
  rw [List.take_append_drop] at h
  rw [h]
  exact List.sublist_append_left _ _
theorem depth_le {l : List Int} (cs : List Nat) (s : Int) : depth (isort (coinsF 0 l)) cs s ≤ cs.length := by
  induction cs with
  | nil => exact Nat.le_refl _
  | cons c cs ih =>
    rw [depth_cons]
    have nd : (symsL (isort (coinsF 0 l))).Nodup := (syms_perm (isort_perm _)).nodup_iff.2 (coins_nodup l 0).1
    have nd2 : (symsL ((isort (coinsF 0 l)).take c)).Nodup := nd.sublist (syms_take _ c)
    have := List.nodup_iff_count.1 nd2 s
    simp only [List.length_cons]
    omega
/-- What weighs more stands no more often. -/
theorem depth_mono {l : List Int} (cs : List Nat) (a b : Nat) (ha : a < l.length) (hb : b < l.length) (h0 : 0 < l[b]) (hlt : l[b] < l[a]) : depth (isort (coinsF 0 l)) cs (a : Int) ≤ depth (isort (coinsF 0 l)) cs (b : Int) := by
  induction cs with
  | nil => exact Nat.le_refl _
  | cons c cs ih =>
    rw [depth_cons, depth_cons]
    have nd : (symsL (isort (coinsF 0 l))).Nodup := (syms_perm (isort_perm _)).nodup_iff.2 (coins_nodup l 0).1
    have nd2 : (symsL ((isort (coinsF 0 l)).take c)).Nodup := nd.sublist (syms_take _ c)
    have c1 := List.nodup_iff_count.1 nd2 (a : Int)
    have key : (a : Int) ∈ symsL ((isort (coinsF 0 l)).take c) → (b : Int) ∈ symsL ((isort (coinsF 0 l)).take c) := fun hm => by
      unfold symsL at hm ⊢
      obtain ⟨p, hp1, hp2⟩ := List.mem_flatMap.1 hm
      obtain ⟨j, hj, h1, rfl⟩ := coin_mem l 0 p ((isort_perm _).mem_iff.1 (List.mem_of_mem_take hp1))
      have hja : j = a := by
        have := List.mem_singleton.1 hp2
        omega
      subst hja
      have hbm : (l[b], [(0 : Int) + (b : Int)]) ∈ isort (coinsF 0 l) := (isort_perm _).mem_iff.2 (mem_coin l 0 b hb h0)
      rw [← List.take_append_drop c (isort (coinsF 0 l))] at hbm
      rcases List.mem_append.1 hbm with hbm | hbm
      · exact List.mem_flatMap.2 ⟨_, hbm, by simp⟩
      · have hs := isort_sorted (coinsF 0 l)
        rw [← List.take_append_drop c (isort (coinsF 0 l))] at hs
        have := (List.pairwise_append.1 hs).2.2 _ hp1 _ hbm
        unfold LeA at this
        simp only at this
        omega
    by_cases hm : (a : Int) ∈ symsL ((isort (coinsF 0 l)).take c)
    · have := List.count_pos_iff.2 (key hm)
      omega
    · rw [List.count_eq_zero.2 hm]
      omega
end Go.Proofs.Ytmmoenleldcadaa.HF
namespace Go.Proofs.Ytmmoenleldcadaa.HP
open Go.RowKit Go.Proofs.Ytmmoenleldcadaa.Fn Go.Proofs.Ytmmoenleldcadaa.HF Go.Proofs.YtmmoenleldcadaaW.PrintWords Go.Proofs.YtmmoenleldcadaaW.PrintLast Go.Proofs.YtmmoenleldcadaaW.PrintMore
theorem up {α : Type} {f : Nat → Option α} (hm : ∀ k, LeO (f k) (f (k + 1))) {K : Nat} {r : α} (h : f K = some r) : ∀ d, f (K + d) = some r
  | 0 => h
  | d + 1 => hm _ _ (up hm h d)
theorem both {α β : Type} {f : Nat → Option α} {g : Nat → Option β} (hm : ∀ k, LeO (f k) (f (k + 1))) (hg : ∀ k, LeO (g k) (g (k + 1))) {r : α} {s : β} (h1 : ∃ k, f k = some r) (h2 : ∃ k, g k = some s) : ∃ k, f k = some r ∧ g k = some s := by
  obtain ⟨a, ha⟩ := h1
  obtain ⟨b, hb⟩ := h2
  exact ⟨a + b, up hm ha b, by rw [Nat.add_comm]; exact up hg hb a⟩
theorem awake_ok : ∃ k, postroadlaw03_awake.f k = some true := ⟨20, by kernel_rfl⟩
theorem coinsF_len : ∀ (l : List Int) (i j : Int), (coinsF i l).length = (coinsF j l).length
  | [], _, _ => rfl
  | f :: r, i, j => by
    unfold coinsF
    have := coinsF_len r (i + 1) (j + 1)
    split <;> simp [this]
theorem coins_cons (x : Int) (r : List Int) : (coinsF 0 (x :: r)).length = (if 0 < x then 1 else 0) + (coinsF 0 r).length := by
  show (if 0 < x then (x, [(0 : Int)]) :: coinsF (0 + 1) r else coinsF (0 + 1) r).length = _
  have := coinsF_len r (0 + 1) 0
  split
  · rw [List.length_cons, this]; omega
  · rw [this]; omega
theorem shl_15 : ∀ m : Nat, m < 16 → shl .i64 1 (m : Int) = ((2 ^ m : Nat) : Int) := by decide
theorem refused_loop (l : List Int) (m : Nat) (hm : m ≤ 15) (hl : l.length ≤ 288) : ∀ (d i n : Nat), i + d = l.length → n ≤ i →
    ∃ k, postroadref03_Refused.l0 k l (m : Int) (n : Int) (i : Int) = some (!((l.drop i).all freqOk && decide (n + (coinsF 0 (l.drop i)).length ≤ 2 ^ m))) := by
  intro d
  induction d with
  | zero =>
    intro i n hi hn
    refine ⟨1, ?_⟩
    rw [postroadref03_Refused.l0, if_neg (by omega), if_pos (by omega), shl_15 m (by omega), List.drop_eq_nil_of_le (by omega)]
    have e : decide ((n : Int) > ((2 ^ m : Nat) : Int)) = !decide (n + (coinsF 0 []).length ≤ 2 ^ m) := by
      show decide _ = !decide (n + 0 ≤ 2 ^ m)
      by_cases h : n ≤ 2 ^ m
      · rw [decide_eq_true (show n + 0 ≤ 2 ^ m from h), decide_eq_false (by omega)]; rfl
      · rw [decide_eq_false (show ¬ n + 0 ≤ 2 ^ m from h), decide_eq_true (by omega)]; rfl
    rw [e]
    rfl
  | succ d ih =>
    intro i n hi hn
    have hlt : i < l.length := by omega
    have e0 : rd l (i : Int) = l[i] := rd_get l i hlt
    have ed : l.drop i = l[i] :: l.drop (i + 1) := List.drop_eq_getElem_cons hlt
    have w1 : wrap64 ((i : Int) + 1) = ((i + 1 : Nat) : Int) := by unfold wrap64; omega
    have w2 : wrap64 ((n : Int) + 1) = ((n + 1 : Nat) : Int) := by unfold wrap64; omega
    by_cases h1 : l[i] < 0
    · refine ⟨2, ?_⟩
      rw [postroadref03_Refused.l0, if_pos (by omega), if_pos (by omega), e0, if_pos h1, postroadref03_Refused.j2, if_pos rfl, ed, List.all_cons]
      have : freqOk l[i] = false := decide_eq_false (by omega)
      rw [this]
      rfl
    · by_cases h2 : l[i] > 1099511627776
      · refine ⟨2, ?_⟩
        rw [postroadref03_Refused.l0, if_pos (by omega), if_pos (by omega), e0, if_neg h1, decide_eq_true h2, postroadref03_Refused.j2, if_pos rfl, ed, List.all_cons]
        have : freqOk l[i] = false := decide_eq_false (by omega)
        rw [this]
        rfl
      · have hok : freqOk l[i] = true := decide_eq_true (by omega)
        by_cases h3 : l[i] > 0
        · obtain ⟨k, hk⟩ := ih (i + 1) (n + 1) (by omega) (by omega)
          refine ⟨k + 2, ?_⟩
          rw [postroadref03_Refused.l0, if_pos (by omega), if_pos (by omega), e0, if_neg h1, decide_eq_false h2, postroadref03_Refused.j2, if_neg (by decide), if_pos (by omega), if_pos (by omega), e0, if_pos h3, w1, w2, hk, ed, List.all_cons, hok, coins_cons, if_pos h3, Bool.true_and, Nat.add_assoc]
        · obtain ⟨k, hk⟩ := ih (i + 1) n (by omega) (by omega)
          refine ⟨k + 2, ?_⟩
          rw [postroadref03_Refused.l0, if_pos (by omega), if_pos (by omega), e0, if_neg h1, decide_eq_false h2, postroadref03_Refused.j2, if_neg (by decide), if_pos (by omega), if_pos (by omega), e0, if_neg h3, w1, hk, ed, List.all_cons, hok, coins_cons, if_neg h3, Bool.true_and, Nat.zero_add]
theorem refused_ok (l : List Int) (a : Int) : ∃ k, postroadref03_Refused.f k l a = some (!okLens l a) := by
  unfold postroadref03_Refused.f
  by_cases h1 : (l.length : Int) > 288
  · refine ⟨1, ?_⟩
    rw [if_pos h1, postroadref03_Refused.j0, if_pos rfl]
    unfold okLens
    rw [decide_eq_false (show ¬ l.length ≤ 288 by omega)]
    rfl
  · by_cases h2 : a < 1
    · refine ⟨1, ?_⟩
      rw [if_neg h1, if_pos h2, postroadref03_Refused.j0, if_pos rfl]
      unfold okLens
      rw [decide_eq_false (show ¬ (1 ≤ a ∧ a ≤ 15) by omega)]
      simp
    · by_cases h3 : a > 15
      · refine ⟨1, ?_⟩
        rw [if_neg h1, if_neg h2, decide_eq_true h3, postroadref03_Refused.j0, if_pos rfl]
        unfold okLens
        rw [decide_eq_false (show ¬ (1 ≤ a ∧ a ≤ 15) by omega)]
        simp
      · obtain ⟨m, rfl⟩ : ∃ m : Nat, a = m := ⟨a.toNat, by omega⟩
        obtain ⟨k, hk⟩ := refused_loop l m (by omega) (by omega) l.length 0 0 (by omega) (Nat.le_refl _)
        refine ⟨k + 1, ?_⟩
        rw [if_neg h1, if_neg h2, decide_eq_false h3, postroadref03_Refused.j0, if_neg (by decide)]
        have hk2 : postroadref03_Refused.l0 k l (m : Int) 0 0 = _ := hk
        rw [hk2]
        unfold okLens countedL
        rw [decide_eq_true (show l.length ≤ 288 by omega), decide_eq_true (show (1 : Int) ≤ (m : Int) ∧ (m : Int) ≤ 15 by omega), Int.toNat_natCast, List.drop_zero, Bool.true_and, Bool.true_and, Nat.zero_add]
end Go.Proofs.Ytmmoenleldcadaa.HP
namespace Go.Proofs.Ytmmoenleldcadaa.HP
open Go.RowKit Go.Proofs.Ytmmoenleldcadaa.Fn Go.Proofs.Ytmmoenleldcadaa.HF Go.Proofs.YtmmoenleldcadaaW.PrintWords Go.Proofs.YtmmoenleldcadaaW.PrintLast Go.Proofs.YtmmoenleldcadaaW.PrintMore
def shareS : List Int → Int
  | [] => 0
  | x :: r => (if 0 < x then ((2 ^ (15 - x.toNat) : Nat) : Int) else 0) + shareS r
theorem shareS_cons (x : Int) (r : List Int) : shareS (x :: r) = (if 0 < x then ((2 ^ (15 - x.toNat) : Nat) : Int) else 0) + shareS r := rfl
theorem pow15 (d : Nat) (h : d ≤ 15) : 2 ^ d ≤ 32768 := Nat.pow_le_pow_right (n := 2) (by decide) h
theorem share_loop (l : List Int) (hl : l.length ≤ 288) : ∀ (d i : Nat) (s : Int), i + d = l.length → 0 ≤ s → s ≤ i * 32768 → ∃ k, postroadref03_share.l0 k l s (i : Int) = some (if (l.drop i).all lenOk then s + shareS (l.drop i) else -1) := by
  intro d
  induction d with
  | zero =>
    intro i s hi h0 h1
    refine ⟨1, ?_⟩
    rw [postroadref03_share.l0, if_neg (by omega), List.drop_eq_nil_of_le (by omega)]
    show some s = some (s + 0)
    rw [Int.add_zero]
  | succ d ih =>
    intro i s hi h0 h1
    have hlt : i < l.length := by omega
    have e0 : rd l (i : Int) = l[i] := rd_get l i hlt
    have ed : l.drop i = l[i] :: l.drop (i + 1) := List.drop_eq_getElem_cons hlt
    have w1 : wrap64 ((i : Int) + 1) = ((i + 1 : Nat) : Int) := by unfold wrap64; omega
    by_cases c1 : l[i] < 0
    · refine ⟨2, ?_⟩
      have hb : lenOk l[i] = false := decide_eq_false (by omega)
      rw [postroadref03_share.l0, if_pos (by omega), if_pos (by omega), e0, if_pos c1, postroadref03_share.j1, if_pos rfl, ed, List.all_cons, hb]
      rfl
    · by_cases c2 : l[i] > 15
      · refine ⟨2, ?_⟩
        have hb : lenOk l[i] = false := decide_eq_false (by omega)
        rw [postroadref03_share.l0, if_pos (by omega), if_pos (by omega), e0, if_neg c1, decide_eq_true c2, postroadref03_share.j1, if_pos rfl, ed, List.all_cons, hb]
        rfl
      · have hb : lenOk l[i] = true := decide_eq_true (by omega)
        by_cases c3 : l[i] > 0
        · obtain ⟨x, hx⟩ : ∃ x : Nat, l[i] = x := ⟨l[i].toNat, by omega⟩
          have w2 : wrap64 (15 - l[i]) = ((15 - x : Nat) : Int) := by unfold wrap64; omega
          have hp := pow15 (15 - x) (by omega)
          obtain ⟨y, hy⟩ : ∃ y : Nat, 2 ^ (15 - x) = y := ⟨_, rfl⟩
          rw [hy] at hp
          have w3 : wrap64 (s + (y : Int)) = s + (y : Int) := by unfold wrap64; omega
          obtain ⟨k, hk⟩ := ih (i + 1) (s + (y : Int)) (by omega) (by omega) (by omega)
          refine ⟨k + 2, ?_⟩
          rw [postroadref03_share.l0, if_pos (by omega), if_pos (by omega), e0, if_neg c1, decide_eq_false c2, postroadref03_share.j1, if_neg (by decide), if_pos (by omega), if_pos (by omega), e0, if_pos c3, w2, if_pos (by omega), shl_15 (15 - x) (by omega), hy, w3, w1, hk, ed, List.all_cons, hb, Bool.true_and, shareS_cons, if_pos c3, hx, Int.toNat_natCast, hy, ← Int.add_assoc]
        · obtain ⟨k, hk⟩ := ih (i + 1) s (by omega) h0 (by omega)
          refine ⟨k + 2, ?_⟩
          rw [postroadref03_share.l0, if_pos (by omega), if_pos (by omega), e0, if_neg c1, decide_eq_false c2, postroadref03_share.j1, if_neg (by decide), if_pos (by omega), if_pos (by omega), e0, if_neg c3, w1, hk, ed, List.all_cons, hb, Bool.true_and]
          show _ = some (if _ then s + ((if 0 < l[i] then _ else 0) + shareS _) else -1)
          rw [if_neg c3, Int.zero_add]
def shareL (l : List Int) : Int := if decide (l.length ≤ 288) && l.all lenOk then shareS l else -1
theorem share_ok (l : List Int) : ∃ k, postroadref03_share.f k l = some (shareL l) := by
  unfold postroadref03_share.f shareL
  by_cases h : (l.length : Int) > 288
  · exact ⟨0, by rw [if_pos h, decide_eq_false (show ¬ l.length ≤ 288 by omega)]; rfl⟩
  · obtain ⟨k, hk⟩ := share_loop l (by omega) l.length 0 0 (by omega) (Int.le_refl _) (by omega)
    refine ⟨k, ?_⟩
    have hk2 : postroadref03_share.l0 k l 0 0 = _ := hk
    rw [if_neg h, hk2, decide_eq_true (show l.length ≤ 288 by omega), List.drop_zero, Bool.true_and, Int.zero_add]
theorem shareS_nn : ∀ l : List Int, 0 ≤ shareS l
  | [] => Int.le_refl _
  | x :: r => by
    have := shareS_nn r
    rw [shareS_cons]
    split
    · exact Int.add_nonneg (Int.natCast_nonneg _) this
    · omega
/-- One word more of length x. -/
theorem rooms_one (f g : Nat → Int) (x : Nat) (hx : 1 ≤ x) (h : ∀ l, g l = f l + (if l = x then 1 else 0)) : ∀ j, rooms g j = rooms f j - (if x ≤ j then ((2 ^ (j - x) : Nat) : Int) else 0)
  | 0 => by
    rw [if_neg (by omega)]
    show (1 : Int) = 1 - 0
    rfl
  | j + 1 => by
    have ih := rooms_one f g x hx h j
    show 2 * rooms g j - g (j + 1) = 2 * rooms f j - f (j + 1) - _
    rw [ih, h]
    by_cases e : j + 1 = x
    · rw [if_pos e, if_neg (by omega), if_pos (by omega), e, Nat.sub_self]
      show 2 * (rooms f j - 0) - (f x + 1) = 2 * rooms f j - f x - ((1 : Nat) : Int)
      omega
    · rw [if_neg e]
      by_cases e2 : x ≤ j
      · rw [if_pos e2, if_pos (by omega), show j + 1 - x = (j - x) + 1 by omega, Nat.pow_succ]
        generalize 2 ^ (j - x) = y
        omega
      · rw [if_neg e2, if_neg (by omega)]
        omega
theorem rooms_congr {f g : Nat → Int} (h : ∀ l, 1 ≤ l → g l = f l) : ∀ j, rooms g j = rooms f j
  | 0 => rfl
  | j + 1 => by
    show 2 * rooms g j - g (j + 1) = 2 * rooms f j - f (j + 1)
    rw [rooms_congr h j, h (j + 1) (by omega)]
theorem rooms_share : ∀ l : List Int, l.all lenOk = true → rooms (fun k => cntL l k) 15 = 32768 - shareS l
  | [], _ => by decide
  | x :: r, h => by
    rw [List.all_cons, Bool.and_eq_true] at h
    have ih := rooms_share r h.2
    have hx := of_decide_eq_true h.1
    obtain ⟨n, rfl⟩ : ∃ n : Nat, x = n := ⟨x.toNat, by omega⟩
    rw [shareS_cons]
    by_cases h0 : (0 : Int) < (n : Int)
    · rw [if_pos h0, rooms_one (fun k => cntL r k) (fun k => cntL ((n : Int) :: r) k) n (by omega) (fun l => by
        show cntL ((n : Int) :: r) l = cntL r l + _
        rw [cntL_cons]
        by_cases e : l = n
        · subst e; rw [if_pos rfl, if_pos rfl]; omega
        · rw [if_neg e, if_neg (by omega)]; omega) 15, ih, if_pos (by omega), Int.toNat_natCast]
      omega
    · rw [if_neg h0, Int.zero_add, ← ih]
      exact rooms_congr (fun l hl => by
        show cntL ((n : Int) :: r) l = cntL r l
        rw [cntL_cons, if_neg (by omega), Int.zero_add]) 15
theorem okL_share (l : List Int) : okL l = (decide (0 ≤ shareL l) && decide (shareL l ≤ 32768)) := by
  unfold okL shareL
  cases h1 : decide (l.length ≤ 288) with
  | false => rfl
  | true =>
    cases h2 : l.all lenOk with
    | false => rfl
    | true =>
      rw [rooms_share l h2]
      simp only [Bool.true_and, Bool.and_self, if_true]
      have := shareS_nn l
      rw [decide_eq_true this, Bool.true_and]
      by_cases e : shareS l ≤ 32768
      · rw [decide_eq_true e, decide_eq_true (by omega)]
      · rw [decide_eq_false e, decide_eq_false (by omega)]
theorem may_ok (l : List Int) : ∃ k, postroadref03_May.f k l = some (okL l) := by
  obtain ⟨k, hk⟩ := share_ok l
  refine ⟨k, ?_⟩
  unfold postroadref03_May.f
  rw [hk, okL_share]
  simp only [Option.bind_some]
  by_cases h : shareL l ≥ 0
  · rw [if_pos h, decide_eq_true (show 0 ≤ shareL l from h), Bool.true_and]
  · rw [if_neg h, decide_eq_false (show ¬ 0 ≤ shareL l from h)]
    rfl
theorem full_ok (l : List Int) (ho : okL l = true) : ∃ k, postroadref03_Full.f k l = some (wholeL l) := by
  obtain ⟨k, hk⟩ := share_ok l
  refine ⟨k, ?_⟩
  unfold postroadref03_Full.f wholeL
  rw [hk]
  simp only [Option.bind_some]
  unfold okL at ho
  simp only [Bool.and_eq_true] at ho
  have h2 := ho.2.1
  rw [rooms_share l h2]
  unfold shareL
  rw [ho.1, h2]
  simp only [Bool.and_self, if_true]
  by_cases e : shareS l = 32768
  · rw [e]; rfl
  · rw [decide_eq_false (by omega)]
    congr 1
    exact beq_eq_false_iff_ne.mpr e
/-- The words of a length and those ahead of it. -/
theorem used (f : Nat → Int) : ∀ L, 1 ≤ L → nxt f L + f L = 2 ^ L - rooms f L
  | 0, h => by omega
  | L + 1, _ => by
    by_cases h : L = 0
    · subst h
      show (0 : Int) + f 1 = 2 ^ 1 - (2 * 1 - f 1)
      omega
    · have ih := used f L (by omega)
      show (if L = 0 then (0 : Int) else 2 * (nxt f L + f L)) + f (L + 1) = 2 ^ (L + 1) - (2 * rooms f L - f (L + 1))
      rw [if_neg h, ih, Int.pow_succ]
      omega
theorem rooms_nn {f : Nat → Int} (hf : ∀ l, 0 ≤ f l) {j : Nat} (h : 0 ≤ rooms f 15) (hj : j ≤ 15) : 0 ≤ rooms f j := by
  by_cases c : 0 ≤ rooms f j
  · exact c
  · have := rooms_neg hf (i := j) (by omega) 15 hj
    omega
/-- A longer word stands behind all shorter ones. -/
theorem nxt_behind {f : Nat → Int} (hf : ∀ l, 0 ≤ f l) (a : Nat) (ha : 1 ≤ a) : ∀ d, (nxt f a + f a) * 2 ^ (d + 1) ≤ nxt f (a + d + 1)
  | 0 => by
    show _ ≤ if a = 0 then (0 : Int) else 2 * (nxt f a + f a)
    rw [if_neg (by omega)]
    omega
  | d + 1 => by
    have ih := nxt_behind hf a ha d
    have := hf (a + d + 1)
    show _ ≤ if a + d + 1 = 0 then (0 : Int) else 2 * (nxt f (a + d + 1) + f (a + d + 1))
    rw [if_neg (by omega), Int.pow_succ, ← Int.mul_assoc]
    omega
theorem shr_i64 (n m : Nat) (hm : m ≤ 64) : shr .i64 (n : Int) (m : Int) = ((n / 2 ^ m : Nat) : Int) := by
  unfold shr
  rw [show min ((m : Int)).toNat IntKind.i64.bits = m from by simp [IntKind.bits]; omega]
  simp
theorem cnt_mono (l : List Int) (x : Int) {i j : Nat} (h : i ≤ j) : cntL (l.take i) x ≤ cntL (l.take j) x := by
  have e : l.take j = l.take i ++ (l.drop i).take (j - i) := by
    have := (List.take_append_drop i (l.take j)).symm
    rw [List.take_take, List.drop_take, Nat.min_eq_left h] at this
    exact this
  rw [e, cntL_app]
  have := (cntL_nn ((l.drop i).take (j - i)) x).1
  omega
theorem cnt_next (l : List Int) (i : Nat) (h : i < l.length) : cntL (l.take (i + 1)) l[i] = cntL (l.take i) l[i] + 1 := by
  rw [List.take_succ_eq_append_getElem h, cntL_snoc, if_pos rfl]
theorem cnt_lt (l : List Int) (i j : Nat) (h : i < l.length) (hj : i < j) : cntL (l.take i) l[i] + 1 ≤ cntL (l.take j) l[i] := by
  rw [← cnt_next l i h]
  exact cnt_mono l _ hj
theorem cnt_all (l : List Int) (i : Nat) (h : i < l.length) : cntL (l.take i) l[i] + 1 ≤ cntL l l[i] := by
  have := cnt_lt l i l.length h h
  rw [List.take_length] at this
  exact this
theorem codes_rd (l : List Int) (i : Nat) (h : i < l.length) : rd (codesL l) (i : Int) = codeAt l i := by
  unfold rd codesL
  rw [Int.toNat_natCast, List.getD_eq_getElem?_getD, List.getElem?_map, List.getElem?_range h]
  rfl
theorem codeAt_eq (l : List Int) (i L : Nat) (h : i < l.length) (hL : l[i] = (L : Int)) (h0 : 0 < L) : codeAt l i = nxt (fun k => cntL l k) L + cntL (l.take i) (L : Int) := by
  unfold codeAt
  rw [List.getD_eq_getElem?_getD, List.getElem?_eq_getElem h]
  simp only [Option.getD_some, hL]
  rw [if_pos (by omega), Int.toNat_natCast]
theorem codeAt_zero (l : List Int) (i : Nat) (h : i < l.length) (hL : l[i] = 0) : codeAt l i = 0 := by
  unfold codeAt
  rw [List.getD_eq_getElem?_getD, List.getElem?_eq_getElem h]
  simp only [Option.getD_some, hL]
  rfl
theorem okL_open {l : List Int} (h : okL l = true) : l.length ≤ 288 ∧ (∀ x ∈ l, 0 ≤ x ∧ x ≤ 15) ∧ 0 ≤ rooms (fun k => cntL l k) 15 := by
  unfold okL at h
  simp only [Bool.and_eq_true, decide_eq_true_eq] at h
  exact ⟨h.1, fun x hx => of_decide_eq_true (List.all_eq_true.1 h.2.1 x hx), h.2.2⟩
theorem cnt_nn' (l : List Int) : ∀ k : Nat, 0 ≤ (fun k : Nat => cntL l k) k := fun k => (cntL_nn l k).1
/-- A word is a number below 2 to its length. -/
theorem code_fits {l : List Int} (ho : okL l = true) (i L : Nat) (h : i < l.length) (hL : l[i] = (L : Int)) (h0 : 0 < L) : 0 ≤ codeAt l i ∧ codeAt l i + 1 ≤ nxt (fun k => cntL l k) L + cntL l (L : Int) ∧ codeAt l i + 1 ≤ 2 ^ L := by
  obtain ⟨o1, o2, o3⟩ := okL_open ho
  have h15 : L ≤ 15 := by have := o2 l[i] (List.getElem_mem _); omega
  have e := codeAt_eq l i L h hL h0
  have c1 := cnt_all l i h
  rw [hL] at c1
  have u := used (fun k => cntL l k) L h0
  have r := rooms_nn (cnt_nn' l) o3 h15
  have nb := nxt_bd (f := fun k => cntL l k) (fun k => ⟨(cntL_nn l k).1, by have := (cntL_nn l k).2; omega⟩) L
  have cn := (cntL_nn (l.take i) (L : Int)).1
  rw [e]
  omega
/-- No word begins another. -/
theorem code_apart {l : List Int} (ho : okL l = true) (i j a d : Nat) (hi : i < l.length) (hj : j < l.length) (hij : i ≠ j) (hA : l[i] = (a : Int)) (h0 : 0 < a) (hB : l[j] = ((a + d : Nat) : Int)) : shr .i64 (codeAt l j) (d : Int) ≠ codeAt l i := by
  obtain ⟨o1, o2, o3⟩ := okL_open ho
  have h15 : a + d ≤ 15 := by have := o2 l[j] (List.getElem_mem _); omega
  have fi := code_fits ho i a hi hA h0
  have fj := code_fits ho j (a + d) hj hB (by omega)
  have ei := codeAt_eq l i a hi hA h0
  have ej := codeAt_eq l j (a + d) hj hB (by omega)
  obtain ⟨u, hu⟩ : ∃ u : Nat, codeAt l i = u := ⟨(codeAt l i).toNat, by omega⟩
  obtain ⟨v, hv⟩ : ∃ v : Nat, codeAt l j = v := ⟨(codeAt l j).toNat, by omega⟩
  rw [hu, hv, shr_i64 v d (by omega)]
  cases d with
  | zero =>
    rw [Nat.pow_zero, Nat.div_one]
    rw [Nat.add_zero] at ej hB
    rcases Nat.lt_or_gt_of_ne hij with hlt | hgt
    · have := cnt_lt l i j hi hlt
      rw [hA] at this
      omega
    · have := cnt_lt l j i hj hgt
      rw [hB] at this
      omega
  | succ d =>
    have nb := nxt_behind (cnt_nn' l) a h0 d
    have cn := (cntL_nn (l.take j) ((a + (d + 1) : Nat) : Int)).1
    have k1 : ((u : Int) + 1) * 2 ^ (d + 1) ≤ v := by
      refine Int.le_trans (Int.mul_le_mul_of_nonneg_right (show (u : Int) + 1 ≤ nxt (fun k => cntL l k) a + cntL l (a : Int) by omega) (Int.le_of_lt (Int.pow_pos (by decide)))) (Int.le_trans nb ?_)
      rw [show a + d + 1 = a + (d + 1) by omega]
      omega
    have k2 : (u + 1) * 2 ^ (d + 1) ≤ v := by exact_mod_cast k1
    have k3 : u + 1 ≤ v / 2 ^ (d + 1) := (Nat.le_div_iff_mul_le (Nat.pow_pos (by decide))).2 k2
    omega
end Go.Proofs.Ytmmoenleldcadaa.HP
namespace Go.Proofs.Ytmmoenleldcadaa.HF
open Go.Proofs.YtmmoenleldcadaaW.PrintWords
theorem mrg_take2 (A B : List PkA) (t : Nat) (ht : t ≤ A.length + B.length) : ∃ c p, c ≤ A.length ∧ p ≤ B.length ∧ c + p = t ∧ ((mrg A B).take t).Perm (A.take c ++ B.take p) ∧ ((mrg A B).drop t).Perm (A.drop c ++ B.drop p) := by
  obtain ⟨c, p, h1, h2, h3, h4⟩ := mrg_take A B t ht
  refine ⟨c, p, h1, h2, h3, h4, ?_⟩
  have a1 : ((mrg A B).take t ++ (mrg A B).drop t).Perm (A ++ B) := by rw [List.take_append_drop]; exact mrg_perm A B
  have a2 : (A ++ B).Perm ((A.take c ++ B.take p) ++ (A.drop c ++ B.drop p)) := by
    have e1 : A ++ B = (A.take c ++ A.drop c) ++ (B.take p ++ B.drop p) := by rw [List.take_append_drop, List.take_append_drop]
    rw [e1, List.append_assoc, List.append_assoc]
    refine List.Perm.append_left _ ?_
    rw [← List.append_assoc, ← List.append_assoc]
    exact List.Perm.append_right _ List.perm_append_comm
  exact (List.perm_append_left_iff _).1 ((h4.symm.append_right _).trans (a1.trans a2))
def sumW (l : List PkA) : Int := (l.map Prod.fst).sum
theorem sumW_app (a b : List PkA) : sumW (a ++ b) = sumW a + sumW b := by unfold sumW; rw [List.map_append, List.sum_append]
theorem sumW_cons (a : PkA) (b : List PkA) : sumW (a :: b) = a.1 + sumW b := by unfold sumW; rw [List.map_cons, List.sum_cons]
theorem sumW_perm {a b : List PkA} (h : a.Perm b) : sumW a = sumW b := by
  induction h with
  | nil => rfl
  | cons x _ ih => rw [sumW_cons, sumW_cons, ih]
  | swap x y l => rw [sumW_cons, sumW_cons, sumW_cons, sumW_cons]; omega
  | trans _ _ ih1 ih2 => exact ih1.trans ih2
theorem sumW_pairs : ∀ (l : List PkA), l.length % 2 = 0 → sumW (pairsL l) = sumW l
  | [], _ => rfl
  | [_], h => by simp at h
  | x :: y :: r, h => by
    unfold pairsL
    rw [sumW_cons, sumW_cons, sumW_cons, sumW_pairs r (by simp at h; omega)]
    simp only
    omega
/-- A pack weighs more than each of its two parts. -/
theorem in_pair : ∀ (l : List PkA), l.length % 2 = 0 → (∀ p ∈ l, 0 < p.1) → ∀ z ∈ l, ∃ q ∈ pairsL l, z.1 < q.1
  | [], _, _ => fun z hz => by cases hz
  | [_], h, _ => by simp at h
  | x :: y :: r, h, hp => fun z hz => by
    have hx := hp x (by simp)
    have hy := hp y (by simp)
    unfold pairsL
    rcases List.mem_cons.1 hz with rfl | hz
    · exact ⟨_, List.mem_cons_self, by show z.1 < z.1 + y.1; omega⟩
    · rcases List.mem_cons.1 hz with rfl | hz
      · exact ⟨_, List.mem_cons_self, by show z.1 < x.1 + z.1; omega⟩
      · obtain ⟨q, q1, q2⟩ := in_pair r (by simp at h; omega) (fun p hp' => hp p (by simp [hp'])) z hz
        exact ⟨q, List.mem_cons_of_mem _ q1, q2⟩
theorem pairs_pos : ∀ (l : List PkA), (∀ p ∈ l, 0 < p.1) → ∀ p ∈ pairsL l, 0 < p.1
  | [], _ => fun p hp => by cases hp
  | [_], _ => fun p hp => by cases hp
  | x :: y :: r, h => fun p hp => by
    unfold pairsL at hp
    rcases List.mem_cons.1 hp with rfl | hp
    · have := h x (by simp)
      have := h y (by simp)
      show 0 < x.1 + y.1
      omega
    · exact pairs_pos r (fun q hq => h q (by simp [hq])) p hp
theorem levels_pos {SC : List PkA} (h : ∀ p ∈ SC, 0 < p.1) : ∀ k, ∀ p ∈ levels SC k, 0 < p.1
  | 0 => h
  | k + 1 => fun p hp => by
    rcases List.mem_append.1 ((isort_perm _).mem_iff.1 hp) with hp | hp
    · exact h p hp
    · exact pairs_pos _ (levels_pos h k) p hp
theorem levels_lt {SC : List PkA} (h : 0 < SC.length) : ∀ k, (levels SC k).length ≤ 2 * SC.length - 1
  | 0 => by show SC.length ≤ _; omega
  | k + 1 => by have := levels_lt h k; rw [levels_len]; omega
/-- The share of prefixes, the top one first. -/
def kr : List Nat → Nat
  | [] => 0
  | c :: cs => c * 2 ^ cs.length + kr cs
structure Chain (SC : List PkA) (k t c : Nat) (cs : List Nat) : Prop where
  len : cs.length = k
  le : ∀ x ∈ c :: cs, x ≤ SC.length
  sy : (symsL ((levels SC k).take t)).Perm ((c :: cs).flatMap fun c => symsL (SC.take c))
  wt : sumW ((levels SC k).take t) = ((c :: cs).map fun c => sumW (SC.take c)).sum
  ne : (c :: cs).Pairwise (fun a b => b ≤ a)
  kr_ : kr (c :: cs) = t * 2 ^ k
  mem : ∀ q ∈ SC.take c, q ∈ (levels SC k).take t
  top : 2 ≤ SC.length → t = 2 * SC.length - 2 → c = SC.length
theorem chain {SC : List PkA} (h : SC.Pairwise LeA) (hp : ∀ p ∈ SC, 0 < p.1) : ∀ (k t : Nat), t ≤ (levels SC k).length → ∃ c cs, Chain SC k t c cs
  | 0, t, ht => ⟨t, [], rfl, (fun c hc => by rw [List.mem_singleton.1 hc]; exact ht), by simp [levels], by simp [levels], List.pairwise_singleton _ _, by simp [kr], fun q hq => hq, fun h1 h2 => by have : t ≤ SC.length := ht; omega⟩
  | k + 1, t, ht => by
    have hs := levels_sorted h k
    have e : levels SC (k + 1) = mrg SC (pairsL (levels SC k)) := isort_mrg h (pairs_sorted _ hs)
    have hsm := mrg_sorted SC _ h (pairs_sorted _ hs)
    have ht2 := ht
    rw [e, (mrg_perm _ _).length_eq, List.length_append] at ht2
    obtain ⟨c, p, h1, h2, h3, h4, h5⟩ := mrg_take2 SC (pairsL (levels SC k)) t ht2
    rw [pairsL_len] at h2
    obtain ⟨c', cs, C⟩ := chain h hp k (2 * p) (by omega)
    have hc : c' ≤ c := by
      by_cases hlt : c' ≤ c
      · exact hlt
      · exfalso
        have hcl : c < SC.length := by have := C.le c' (by simp); omega
        have hz : SC[c] ∈ SC.take c' := List.mem_iff_getElem.2 ⟨c, by rw [List.length_take]; omega, by rw [List.getElem_take]⟩
        obtain ⟨q, q1, q2⟩ := in_pair ((levels SC k).take (2 * p)) (by rw [List.length_take]; omega) (fun z hz => levels_pos hp k z (List.mem_of_mem_take hz)) SC[c] (C.mem _ hz)
        rw [← pairs_take] at q1
        have k1 : q ∈ (mrg SC (pairsL (levels SC k))).take t := h4.symm.mem_iff.1 (List.mem_append.2 (Or.inr q1))
        have k2 : SC[c] ∈ (mrg SC (pairsL (levels SC k))).drop t := h5.symm.mem_iff.1 (List.mem_append.2 (Or.inl (List.mem_iff_getElem.2 ⟨0, by rw [List.length_drop]; omega, by rw [List.getElem_drop]; rfl⟩)))
        have hss := hsm
        rw [← List.take_append_drop t (mrg SC (pairsL (levels SC k)))] at hss
        have := (List.pairwise_append.1 hss).2.2 q k1 _ k2
        unfold LeA at this
        omega
    refine ⟨c, c' :: cs, ?_⟩
    refine ⟨by simp [C.len], fun x hx => ?_, ?_, ?_, ?_, ?_, ?_, fun g1 g2 => ?_⟩
    · rcases List.mem_cons.1 hx with rfl | hx
      · exact h1
      · exact C.le x hx
    · rw [e]
      refine (syms_perm h4).trans ?_
      rw [syms_app, pairs_take, syms_pairs _ (by rw [List.length_take]; omega), List.flatMap_cons]
      exact List.Perm.append_left _ C.sy
    · rw [e, sumW_perm h4, sumW_app, pairs_take, sumW_pairs _ (by rw [List.length_take]; omega), C.wt, List.map_cons (l := c' :: cs), List.sum_cons]
    · refine List.pairwise_cons.2 ⟨fun x hx => ?_, C.ne⟩
      rcases List.mem_cons.1 hx with rfl | hx
      · exact hc
      · exact Nat.le_trans ((List.pairwise_cons.1 C.ne).1 x hx) hc
    · show c * 2 ^ (c' :: cs).length + kr (c' :: cs) = t * 2 ^ (k + 1)
      rw [C.kr_, List.length_cons, C.len, ← h3, Nat.add_mul, Nat.pow_succ]
      congr 1
      rw [Nat.mul_comm 2 p, Nat.mul_assoc, Nat.mul_comm 2]
    · intro q hq
      rw [e]
      exact h4.symm.mem_iff.1 (List.mem_append.2 (Or.inl hq))
    · have hlt := levels_lt (SC := SC) (by omega) k
      by_cases g3 : c = SC.length
      · exact g3
      · have hpn : p = SC.length - 1 := by omega
        have := C.top g1 (by omega)
        omega
end Go.Proofs.Ytmmoenleldcadaa.HF
namespace Go.Proofs.Ytmmoenleldcadaa.HF
open Go.Proofs.YtmmoenleldcadaaW.PrintWords
def sig (p : PkA) : Int := p.2.headD 0
def sumG (g : Int → Int → Int) (l : List PkA) : Int := (l.map fun p => g p.1 (sig p)).sum
theorem sumG_nil (g : Int → Int → Int) : sumG g [] = 0 := rfl
theorem sumG_cons (g : Int → Int → Int) (p : PkA) (l : List PkA) : sumG g (p :: l) = g p.1 (sig p) + sumG g l := by unfold sumG; rw [List.map_cons, List.sum_cons]
theorem sumG_app (g : Int → Int → Int) (a b : List PkA) : sumG g (a ++ b) = sumG g a + sumG g b := by unfold sumG; rw [List.map_append, List.sum_append]
theorem sumG_perm (g : Int → Int → Int) {a b : List PkA} (h : a.Perm b) : sumG g a = sumG g b := by
  induction h with
  | nil => rfl
  | cons x _ ih => rw [sumG_cons, sumG_cons, ih]
  | swap x y l => rw [sumG_cons, sumG_cons, sumG_cons, sumG_cons]; omega
  | trans _ _ ih1 ih2 => exact ih1.trans ih2
theorem sumG_congr {g g' : Int → Int → Int} {l : List PkA} (h : ∀ p ∈ l, g p.1 (sig p) = g' p.1 (sig p)) : sumG g l = sumG g' l := by
  unfold sumG
  rw [List.map_congr_left h]
theorem sumG_const (x : Int) (l : List PkA) : sumG (fun _ _ => x) l = l.length * x := by
  induction l with
  | nil => simp [sumG]
  | cons p l ih => rw [sumG_cons, ih, List.length_cons]; simp only [Int.natCast_succ, Int.add_mul, Int.one_mul]; omega
/-- Each coin bears one symbol, no two the same. -/
structure Coins (SC : List PkA) : Prop where
  one : ∀ p ∈ SC, ∃ s, p.2 = [s]
  nd : (symsL SC).Nodup
theorem coin_single (l : List Int) (i : Int) (p : PkA) (h : p ∈ coinsF i l) : ∃ s, p.2 = [s] := by
  obtain ⟨j, _, _, rfl⟩ := coin_mem l i p h
  exact ⟨_, rfl⟩
theorem Coins.of (l : List Int) : Coins (isort (coinsF 0 l)) :=
  ⟨fun p hp => coin_single l 0 p ((isort_perm _).mem_iff.1 hp), (syms_perm (isort_perm _)).nodup_iff.2 (coins_nodup l 0).1⟩
theorem Coins.in_ {SC : List PkA} (h : Coins SC) {c : Nat} {p : PkA} (hp : p ∈ SC.take c) : (symsL (SC.take c)).count (sig p) = 1 := by
  obtain ⟨s, hs⟩ := h.one p (List.mem_of_mem_take hp)
  have e : sig p = s := by unfold sig; rw [hs]; rfl
  rw [e]
  have nd := h.nd.sublist (syms_take SC c)
  have m : s ∈ symsL (SC.take c) := List.mem_flatMap.2 ⟨p, hp, by rw [hs]; exact List.mem_singleton_self _⟩
  have c1 := List.nodup_iff_count.1 nd s
  have c2 := List.count_pos_iff.2 m
  omega
theorem Coins.out {SC : List PkA} (h : Coins SC) {c c' : Nat} (hc : c' ≤ c) {p : PkA} (hp : p ∈ SC.drop c) : (symsL (SC.take c')).count (sig p) = 0 := by
  obtain ⟨s, hs⟩ := h.one p (List.mem_of_mem_drop hp)
  have e : sig p = s := by unfold sig; rw [hs]; rfl
  rw [e]
  refine List.count_eq_zero.2 fun hm => ?_
  obtain ⟨q, q1, q2⟩ := List.mem_flatMap.1 hm
  have q3 : q ∈ SC.take c := by
    have : SC.take c' = (SC.take c).take c' := by rw [List.take_take, Nat.min_eq_left hc]
    rw [this] at q1
    exact List.mem_of_mem_take q1
  have nd := h.nd
  have e2 := syms_app (SC.take c) (SC.drop c)
  rw [List.take_append_drop] at e2
  rw [e2, List.nodup_append] at nd
  exact nd.2.2 s (List.mem_flatMap.2 ⟨q, q3, q2⟩) s (List.mem_flatMap.2 ⟨p, hp, by rw [hs]; exact List.mem_singleton_self _⟩) rfl
theorem depth_nil (SC : List PkA) (s : Int) : depth SC [] s = 0 := rfl
theorem depth_out {SC : List PkA} (h : Coins SC) {c : Nat} {p : PkA} (hp : p ∈ SC.drop c) : ∀ cs : List Nat, (∀ x ∈ cs, x ≤ c) → depth SC cs (sig p) = 0
  | [], _ => rfl
  | x :: cs, hx => by rw [depth_cons, h.out (hx x (by simp)) hp, depth_out h hp cs (fun y hy => hx y (by simp [hy]))]
/-- The weight of all, so often as they stand. -/
theorem cost_sum {SC : List PkA} (h : Coins SC) : ∀ D : List Nat, sumG (fun f s => f * (depth SC D s : Int)) SC = (D.map fun c => sumW (SC.take c)).sum
  | [] => by
    rw [List.map_nil, List.sum_nil]
    have := sumG_congr (g := fun f s => f * (depth SC [] s : Int)) (g' := fun _ _ => 0) (l := SC) (fun p _ => by simp [depth_nil])
    rw [this, sumG_const, Int.mul_zero]
  | c :: cs => by
    have ih := cost_sum h cs
    rw [List.map_cons, List.sum_cons, ← ih]
    have e1 : sumG (fun f s => f * (depth SC (c :: cs) s : Int)) SC = sumG (fun f s => f * ((symsL (SC.take c)).count s : Int)) SC + sumG (fun f s => f * (depth SC cs s : Int)) SC := by
      generalize hX : symsL (SC.take c) = X
      have : ∀ L : List PkA, sumG (fun f s => f * (depth SC (c :: cs) s : Int)) L = sumG (fun f s => f * (X.count s : Int)) L + sumG (fun f s => f * (depth SC cs s : Int)) L := by
        intro L
        induction L with
        | nil => rfl
        | cons p L ih2 =>
          rw [sumG_cons, sumG_cons, sumG_cons, ih2, depth_cons, hX]
          simp only [Int.natCast_add, Int.mul_add]
          omega
      exact this SC
    rw [e1]
    congr 1
    have e2 : sumG (fun f s => f * ((symsL (SC.take c)).count s : Int)) (SC.take c ++ SC.drop c) = sumW (SC.take c) := by
      rw [sumG_app, sumG_congr (l := SC.take c) (g' := fun f _ => f) (fun p hp => by rw [h.in_ hp]; omega), sumG_congr (l := SC.drop c) (g' := fun _ _ => 0) (fun p hp => by rw [h.out (Nat.le_refl c) hp]; omega), sumG_const, Int.mul_zero, Int.add_zero]
      rfl
    rw [List.take_append_drop] at e2
    exact e2
/-- The shares of nested prefixes. -/
theorem kraft_sum {SC : List PkA} (h : Coins SC) : ∀ D : List Nat, D.Pairwise (fun a b => b ≤ a) → (∀ x ∈ D, x ≤ SC.length) → sumG (fun _ s => ((2 ^ (D.length - depth SC D s) : Nat) : Int)) SC + (kr D : Int) = ((SC.length * 2 ^ D.length : Nat) : Int)
  | [], _, _ => by
    have := sumG_congr (g := fun _ s => ((2 ^ (([] : List Nat).length - depth SC [] s) : Nat) : Int)) (g' := fun _ _ => 1) (l := SC) (fun p _ => by simp [depth_nil])
    rw [this, sumG_const]
    simp [kr]
  | c :: cs, hn, hl => by
    obtain ⟨n1, n2⟩ := List.pairwise_cons.1 hn
    have ih := kraft_sum h cs n2 (fun x hx => hl x (by simp [hx]))
    have hc := hl c (by simp)
    have key : sumG (fun _ s => ((2 ^ ((c :: cs).length - depth SC (c :: cs) s) : Nat) : Int)) SC = sumG (fun _ s => ((2 ^ (cs.length - depth SC cs s) : Nat) : Int)) SC + ((SC.length - c : Nat) : Int) * ((2 ^ cs.length : Nat) : Int) := by
      have d1 : sumG (fun _ s => ((2 ^ ((c :: cs).length - depth SC (c :: cs) s) : Nat) : Int)) (SC.take c ++ SC.drop c) = sumG (fun _ s => ((2 ^ (cs.length - depth SC cs s) : Nat) : Int)) (SC.take c) + ((SC.length - c : Nat) : Int) * ((2 * 2 ^ cs.length : Nat) : Int) := by
        rw [sumG_app, sumG_congr (l := SC.take c) (g' := fun _ s => ((2 ^ (cs.length - depth SC cs s) : Nat) : Int)) (fun p hp => by
            rw [depth_cons, h.in_ hp, List.length_cons, show cs.length + 1 - (1 + depth SC cs (sig p)) = cs.length - depth SC cs (sig p) by omega]),
          sumG_congr (l := SC.drop c) (g' := fun _ _ => ((2 * 2 ^ cs.length : Nat) : Int)) (fun p hp => by
            rw [depth_out h hp (c :: cs) (fun x hx => by
              rcases List.mem_cons.1 hx with rfl | hx
              · exact Nat.le_refl _
              · exact n1 x hx), List.length_cons, Nat.sub_zero, Nat.pow_succ, Nat.mul_comm]), sumG_const, List.length_drop]
      have d2 : sumG (fun _ s => ((2 ^ (cs.length - depth SC cs s) : Nat) : Int)) (SC.take c ++ SC.drop c) = sumG (fun _ s => ((2 ^ (cs.length - depth SC cs s) : Nat) : Int)) (SC.take c) + ((SC.length - c : Nat) : Int) * ((2 ^ cs.length : Nat) : Int) := by
        rw [sumG_app, sumG_congr (l := SC.drop c) (g' := fun _ _ => ((2 ^ cs.length : Nat) : Int)) (fun p hp => by
            rw [depth_out h hp cs n1, Nat.sub_zero]), sumG_const, List.length_drop]
      rw [List.take_append_drop] at d1 d2
      rw [d1, d2]
      generalize 2 ^ cs.length = y
      rw [Int.natCast_mul, show ((SC.length - c : Nat) : Int) * (((2 : Nat) : Int) * (y : Int)) = ((SC.length - c : Nat) : Int) * (y : Int) + ((SC.length - c : Nat) : Int) * (y : Int) by
        rw [← Int.mul_assoc, Int.mul_comm _ ((2 : Nat) : Int), Int.mul_assoc]; omega]
      omega
    rw [key]
    show _ + ((c * 2 ^ cs.length + kr cs : Nat) : Int) = ((SC.length * 2 ^ (cs.length + 1) : Nat) : Int)
    have e3 : SC.length * 2 ^ (cs.length + 1) = SC.length * 2 ^ cs.length + SC.length * 2 ^ cs.length := by rw [Nat.pow_succ, ← Nat.mul_assoc, Nat.mul_two]
    have e4 : (SC.length - c) * 2 ^ cs.length + c * 2 ^ cs.length = SC.length * 2 ^ cs.length := by rw [← Nat.add_mul, Nat.sub_add_cancel hc]
    rw [e3]
    rw [← Int.natCast_mul]
    omega
end Go.Proofs.Ytmmoenleldcadaa.HF
namespace Go.Proofs.Ytmmoenleldcadaa.HF
open Go.Proofs.YtmmoenleldcadaaW.PrintWords Go.Proofs.Ytmmoenleldcadaa.HP
/-- What is known of the lengths. -/
structure LensOk (l : List Int) (m : Nat) (d : Int → Int) : Prop where
  at_ : ∀ s : Nat, (h : s < l.length) → rd (lensL l m) (s : Int) = if 0 < l[s] then d (s : Int) else 0
  rg : ∀ s : Nat, (h : s < l.length) → 0 < l[s] → 1 ≤ d (s : Int) ∧ d (s : Int) ≤ m
  one : (coinsF 0 l).length = 1 → ∀ s : Nat, (h : s < l.length) → 0 < l[s] → d (s : Int) = 1
  share : 2 ≤ (coinsF 0 l).length → sumG (fun _ s => ((2 ^ (15 - (d s).toNat) : Nat) : Int)) (coinsF 0 l) = 32768
  cost : 2 ≤ (coinsF 0 l).length → sumG (fun f s => f * d s) (coinsF 0 l) = sumW ((levels (isort (coinsF 0 l)) (m - 1)).take (2 * (coinsF 0 l).length - 2))
theorem rd_rep (n : Nat) (s : Int) : rd (List.replicate n 0) s = 0 := by
  unfold rd
  rw [List.getD_eq_getElem?_getD, List.getElem?_replicate]
  split <;> rfl
theorem not_coin {l : List Int} {s : Nat} (h : s < l.length) (h0 : ¬ 0 < l[s]) (p : PkA) (hp : p ∈ coinsF 0 l) : (s : Int) ∉ p.2 := fun hm => by
  obtain ⟨j, hj, h1, rfl⟩ := coin_mem l 0 p hp
  have := List.mem_singleton.1 hm
  have e : j = s := by omega
  subst e
  exact h0 h1
theorem depth_zero {l : List Int} (D : List Nat) {s : Nat} (h : s < l.length) (h0 : ¬ 0 < l[s]) : depth (isort (coinsF 0 l)) D (s : Int) = 0 := by
  unfold depth
  refine List.count_eq_zero.2 fun hm => ?_
  obtain ⟨c, _, hc⟩ := List.mem_flatMap.1 hm
  obtain ⟨p, hp, hs⟩ := List.mem_flatMap.1 hc
  exact not_coin h h0 p ((isort_perm _).mem_iff.1 (List.mem_of_mem_take hp)) hs
theorem lens_ok {l : List Int} {m : Nat} (hf : ∀ f ∈ l, f ≤ 1099511627776) (hm : 1 ≤ m) (h15 : m ≤ 15) (hp : (coinsF 0 l).length ≤ 2 ^ m) : ∃ d, LensOk l m d := by
  by_cases hn : 2 ≤ (coinsF 0 l).length
  · have hl := (isort_perm (coinsF 0 l)).length_eq
    have hge := levels_ge (isort (coinsF 0 l)) (m := m) (by rw [hl]; exact hp) (m - 1) (by omega)
    rw [hl, show m - (m - 1) = 1 by omega] at hge
    have hpos : ∀ p ∈ isort (coinsF 0 l), 0 < p.1 := fun p hp => by
      obtain ⟨j, hj, h1, rfl⟩ := coin_mem l 0 p ((isort_perm _).mem_iff.1 hp)
      exact h1
    obtain ⟨c, cs, C⟩ := chain (isort_sorted (coinsF 0 l)) hpos (m - 1) (2 * (coinsF 0 l).length - 2) (by omega)
    have hc := C.top (by omega) (by omega)
    have hco := Coins.of l
    have e1 : ¬ (coinsF 0 l).length = 1 := by omega
    have e2 : ¬ (coinsF 0 l).length < 2 := by omega
    have hD : (c :: cs).length = m := by rw [List.length_cons, C.len]; omega
    have hrd : ∀ s : Nat, s < l.length → rd (lensL l m) (s : Int) = (depth (isort (coinsF 0 l)) (c :: cs) (s : Int) : Int) := fun s hs => by
      unfold lensL
      rw [if_neg e1, if_neg e2, tally_eq, bumps_rd _ _ s (by rw [List.length_replicate]; exact hs)]
      · rw [rd_rep, Int.zero_add, C.sy.count_eq]
        rfl
      · intro i hi
        rw [List.length_replicate]
        unfold symsL at hi
        obtain ⟨p, hp1, hp2⟩ := List.mem_flatMap.1 hi
        have hpb := levels_PB (SC := isort (coinsF 0 l)) (m := l.length) (fun q hq => by
          have := (isort_perm _).mem_iff.1 hq
          exact coins_PB l 0 hf (by omega) q (by rw [show ((0 : Nat) : Int) = 0 from rfl]; exact this)) (m - 1) p (List.mem_of_mem_take hp1)
        exact hpb.rng i hp2
    refine ⟨fun s => (depth (isort (coinsF 0 l)) (c :: cs) s : Int), ?_, ?_, ?_, ?_, ?_⟩
    · intro s hs
      rw [hrd s hs]
      by_cases h0 : 0 < l[s]
      · rw [if_pos h0]
      · rw [if_neg h0, depth_zero _ hs h0]
        rfl
    · intro s hs h0
      have k1 := depth_le (l := l) (c :: cs) (s : Int)
      rw [hD] at k1
      have hin : (l[s], [(0 : Int) + (s : Int)]) ∈ (isort (coinsF 0 l)).take c := by
        rw [hc, List.take_length]
        exact (isort_perm _).mem_iff.2 (mem_coin l 0 s hs h0)
      have k2 := hco.in_ hin
      have k3 : sig (l[s], [(0 : Int) + (s : Int)]) = (s : Int) := by show (0 : Int) + (s : Int) = s; omega
      rw [k3] at k2
      have k4 := depth_cons (isort (coinsF 0 l)) c cs (s : Int)
      omega
    · intro h; omega
    · intro _
      have hk := kraft_sum hco (c :: cs) C.ne C.le
      rw [C.kr_, hD, hl] at hk
      have e3 : (2 * (coinsF 0 l).length - 2) * 2 ^ (m - 1) = ((coinsF 0 l).length - 1) * 2 ^ m := by
        rw [show 2 ^ m = 2 * 2 ^ (m - 1) by rw [show m = (m - 1) + 1 by omega, Nat.pow_succ, Nat.add_sub_cancel]; omega, ← Nat.mul_assoc]
        congr 1
        omega
      have e4 : (coinsF 0 l).length * 2 ^ m = ((coinsF 0 l).length - 1) * 2 ^ m + 2 ^ m := by
        rw [← Nat.succ_mul]
        congr 1
        omega
      rw [e3, e4] at hk
      have e5 : sumG (fun _ s => ((2 ^ (m - depth (isort (coinsF 0 l)) (c :: cs) s) : Nat) : Int)) (isort (coinsF 0 l)) = ((2 ^ m : Nat) : Int) := by omega
      have e6 : ∀ L : List PkA, sumG (fun _ s => ((2 ^ (15 - ((depth (isort (coinsF 0 l)) (c :: cs) s : Nat) : Int).toNat) : Nat) : Int)) L = ((2 ^ (15 - m) : Nat) : Int) * sumG (fun _ s => ((2 ^ (m - depth (isort (coinsF 0 l)) (c :: cs) s) : Nat) : Int)) L := by
        intro L
        induction L with
        | nil => simp [sumG]
        | cons p L ih =>
          rw [sumG_cons, sumG_cons, ih, Int.mul_add]
          congr 1
          have k1 := depth_le (l := l) (c :: cs) (sig p)
          rw [hD] at k1
          rw [Int.toNat_natCast, ← Int.natCast_mul, ← Nat.pow_add]
          congr 2
          omega
      rw [← sumG_perm _ (isort_perm (coinsF 0 l)), e6, e5, ← Int.natCast_mul, ← Nat.pow_add, show 15 - m + m = 15 by omega]
      rfl
    · intro _
      rw [← sumG_perm _ (isort_perm (coinsF 0 l)), cost_sum hco, ← C.wt]
  · by_cases h1 : (coinsF 0 l).length = 1
    · refine ⟨fun _ => 1, ?_, fun s hs h0 => ⟨Int.le_refl _, by omega⟩, fun _ _ _ _ => rfl, fun h => by omega, fun h => by omega⟩
      obtain ⟨p, hpe⟩ := List.length_eq_one_iff.1 h1
      obtain ⟨j, hj, hj0, hpj⟩ := coin_mem l 0 p (by rw [hpe]; exact List.mem_singleton_self _)
      have hset : lensL l m = (List.replicate l.length 0).set j 1 := by
        unfold lensL
        rw [if_pos h1, hpe, hpj]
        show (List.replicate l.length 0).set ((0 : Int) + (j : Int)).toNat 1 = _
        rw [Int.zero_add, Int.toNat_natCast]
      intro s hs
      rw [hset]
      unfold rd
      rw [Int.toNat_natCast, List.getD_eq_getElem?_getD, List.getElem?_set]
      by_cases e : j = s
      · subst e
        rw [if_pos rfl, if_pos (by rw [List.length_replicate]; exact hs), if_pos hj0]
        rfl
      · have h0 : ¬ 0 < l[s] := fun h0 => by
          have := mem_coin l 0 s hs h0
          rw [hpe, List.mem_singleton, hpj] at this
          have := congrArg Prod.snd this
          simp only [List.cons.injEq, and_true] at this
          omega
        rw [if_neg e, if_neg h0, List.getElem?_replicate]
        split <;> rfl
    · refine ⟨fun _ => 1, ?_, fun s hs h0 => ⟨Int.le_refl _, by omega⟩, fun _ _ _ _ => rfl, fun h => by omega, fun h => by omega⟩
      intro s hs
      have h0 : ¬ 0 < l[s] := fun h0 => by
        have := List.length_pos_of_mem (mem_coin l 0 s hs h0)
        omega
      unfold lensL
      rw [if_neg h1, if_pos (by omega), rd_rep, if_neg h0]
end Go.Proofs.Ytmmoenleldcadaa.HF
namespace Go.Proofs.Ytmmoenleldcadaa.HF
open Go.Proofs.YtmmoenleldcadaaW.PrintWords Go.Proofs.Ytmmoenleldcadaa.HP
theorem coinsF_cons (i f : Int) (l : List Int) : coinsF i (f :: l) = if 0 < f then (f, [i]) :: coinsF (i + 1) l else coinsF (i + 1) l := rfl
theorem share_coins (d : Int → Int) : ∀ (l L : List Int) (i : Int), L.length = l.length → (∀ s : Nat, (h : s < l.length) → (h' : s < L.length) → L[s] = if 0 < l[s] then d (i + s) else 0) → (∀ s : Nat, (h : s < l.length) → 0 < l[s] → 1 ≤ d (i + s)) →
    shareS L = sumG (fun _ s => ((2 ^ (15 - (d s).toNat) : Nat) : Int)) (coinsF i l)
  | [], [], _, _, _, _ => rfl
  | [], _ :: _, _, h, _, _ => by simp at h
  | _ :: _, [], _, h, _, _ => by simp at h
  | f :: l, x :: L, i, hl, h, h1 => by
    have ih := share_coins d l L (i + 1) (by simpa using hl) (fun s hs hs' => by
      have := h (s + 1) (by simp; omega) (by simp; omega)
      simp only [List.getElem_cons_succ] at this
      rw [this, show i + ((s + 1 : Nat) : Int) = i + 1 + (s : Int) by omega]) (fun s hs h0 => by
      have := h1 (s + 1) (by simp; omega) (by simpa using h0)
      rw [show i + ((s + 1 : Nat) : Int) = i + 1 + (s : Int) by omega] at this
      exact this)
    have hx := h 0 (by simp) (by simp)
    simp only [List.getElem_cons_zero] at hx
    rw [show i + ((0 : Nat) : Int) = i by omega] at hx
    rw [shareS_cons, ih]
    rw [coinsF_cons]
    by_cases h0 : 0 < f
    · have hd := h1 0 (by simp) (by simpa using h0)
      rw [show i + ((0 : Nat) : Int) = i by omega] at hd
      rw [if_pos h0] at hx
      rw [if_pos h0, sumG_cons, if_pos (by omega), hx]
      rfl
    · rw [if_neg h0] at hx
      rw [if_neg h0, if_neg (by omega), Int.zero_add]
theorem cost_coins (d : Int → Int) : ∀ (l L : List Int) (i s0 : Int), L.length = l.length → (∀ f ∈ l, 0 ≤ f) → (∀ s : Nat, (h : s < l.length) → (h' : s < L.length) → L[s] = if 0 < l[s] then d (i + s) else 0) → (∀ s : Nat, (h : s < l.length) → 0 < l[s] → 1 ≤ d (i + s)) →
    costG l L s0 = (s0 + sumG (fun f s => f * d s) (coinsF i l), 0)
  | [], [], _, s0, _, _, _, _ => by show (s0, (0 : Int)) = (s0 + 0, 0); rw [Int.add_zero]
  | [], _ :: _, _, _, h, _, _, _ => by simp at h
  | _ :: _, [], _, _, h, _, _, _ => by simp at h
  | f :: l, x :: L, i, s0, hl, hf, h, h1 => by
    have ih := fun s1 => cost_coins d l L (i + 1) s1 (by simpa using hl) (fun g hg => hf g (by simp [hg])) (fun s hs hs' => by
      have := h (s + 1) (by simp; omega) (by simp; omega)
      simp only [List.getElem_cons_succ] at this
      rw [this, show i + ((s + 1 : Nat) : Int) = i + 1 + (s : Int) by omega]) (fun s hs h0 => by
      have := h1 (s + 1) (by simp; omega) (by simpa using h0)
      rw [show i + ((s + 1 : Nat) : Int) = i + 1 + (s : Int) by omega] at this
      exact this)
    have hx := h 0 (by simp) (by simp)
    simp only [List.getElem_cons_zero] at hx
    rw [show i + ((0 : Nat) : Int) = i by omega] at hx
    show (if 0 < f ∧ x = 0 then (0, 30) else costG l L (s0 + f * x)) = _
    rw [coinsF_cons]
    by_cases h0 : 0 < f
    · have hd := h1 0 (by simp) (by simpa using h0)
      rw [show i + ((0 : Nat) : Int) = i by omega] at hd
      rw [if_pos h0] at hx
      rw [if_neg (by omega), ih, if_pos h0, sumG_cons, hx]
      show (s0 + f * d i + _, (0 : Int)) = (s0 + (f * d i + _), 0)
      rw [Int.add_assoc]
    · have hf0 := hf f (by simp)
      have : f = 0 := by omega
      subst this
      rw [if_neg (by omega), ih, if_neg (by omega), Int.zero_mul, Int.add_zero]
/-- The lengths are those of a code; their cost; whole where there are two or more. -/
theorem lens_facts {l : List Int} {m : Nat} (hl : l.length ≤ 288) (hf : ∀ f ∈ l, 0 ≤ f ∧ f ≤ 1099511627776) (hm : 1 ≤ m) (h15 : m ≤ 15) (hp : (coinsF 0 l).length ≤ 2 ^ m) :
    ∃ d, LensOk l m d ∧ okL (lensL l m) = true ∧ costG l (lensL l m) 0 = (sumG (fun f s => f * d s) (coinsF 0 l), 0) ∧ (2 ≤ (coinsF 0 l).length → wholeL (lensL l m) = true) := by
  obtain ⟨d, D⟩ := lens_ok (fun f h => (hf f h).2) hm h15 hp
  have hlen : (lensL l m).length = l.length := by
    unfold lensL
    split
    · rw [List.length_set, List.length_replicate]
    · split
      · rw [List.length_replicate]
      · rw [tally_len, List.length_replicate]
  have hat : ∀ s : Nat, (h : s < l.length) → (h' : s < (lensL l m).length) → (lensL l m)[s] = if 0 < l[s] then d (0 + (s : Int)) else 0 := fun s h h' => by
    have := D.at_ s h
    rw [rd_get _ s h'] at this
    rw [this, Int.zero_add]
  have hrg : ∀ s : Nat, (h : s < l.length) → 0 < l[s] → 1 ≤ d (0 + (s : Int)) := fun s h h0 => by
    rw [Int.zero_add]
    exact (D.rg s h h0).1
  have hsh := share_coins d l (lensL l m) 0 hlen hat hrg
  have hco := cost_coins d l (lensL l m) 0 0 hlen (fun f h => (hf f h).1) hat hrg
  rw [Int.zero_add] at hco
  have hall : (lensL l m).all lenOk = true := List.all_eq_true.2 fun x hx => by
    obtain ⟨s, hs, rfl⟩ := List.mem_iff_getElem.1 hx
    rw [hat s (by omega) hs]
    refine decide_eq_true ?_
    split
    · rename_i h0
      rw [Int.zero_add]
      have := D.rg s (by omega) h0
      omega
    · omega
  have hle : shareS (lensL l m) ≤ 32768 := by
    by_cases h2 : 2 ≤ (coinsF 0 l).length
    · rw [hsh, D.share h2]
      exact Int.le_refl _
    · rw [hsh]
      match hc : coinsF 0 l with
      | [] => simp [sumG]
      | [p] =>
        obtain ⟨j, hj, hj0, hpj⟩ := coin_mem l 0 p (by rw [hc]; exact List.mem_singleton_self _)
        have h1 := D.one (by rw [hc]; rfl) j hj hj0
        rw [sumG_cons, sumG_nil, Int.add_zero, hpj]
        show ((2 ^ (15 - (d ((0 : Int) + (j : Int))).toNat) : Nat) : Int) ≤ 32768
        rw [Int.zero_add, h1]
        decide
      | _ :: _ :: _ => rw [hc] at h2; simp at h2
  have hsl : shareL (lensL l m) = shareS (lensL l m) := by
    unfold shareL
    rw [decide_eq_true (show (lensL l m).length ≤ 288 by omega), hall]
    rfl
  refine ⟨d, D, ?_, hco, fun h2 => ?_⟩
  · rw [okL_share, hsl, decide_eq_true (shareS_nn _), decide_eq_true hle]
    rfl
  · unfold wholeL
    rw [rooms_share _ hall, hsh, D.share h2]
    rfl
end Go.Proofs.Ytmmoenleldcadaa.HF
namespace Go.Proofs.Ytmmoenleldcadaa.HP
open Go.RowKit Go.Proofs.Ytmmoenleldcadaa.Fn Go.Proofs.Ytmmoenleldcadaa.HF Go.Proofs.Ytmmoenleldcadaa.MB Go.Proofs.YtmmoenleldcadaaW.PrintWords Go.Proofs.YtmmoenleldcadaaW.PrintLast Go.Proofs.YtmmoenleldcadaaW.PrintMore
def LeI (a b : Int) : Prop := a ≤ b
theorem ins_sorted {out : List Int} {x : Int} {j : Nat} (h : out.Pairwise LeI) (h1 : ∀ q ∈ out.take j, q ≤ x) (h2 : ∀ q ∈ out.drop j, x ≤ q) : (out.take j ++ [x] ++ out.drop j).Pairwise LeI := by
  have hs := h
  rw [← List.take_append_drop j out] at hs
  obtain ⟨a1, a2, a3⟩ := List.pairwise_append.1 hs
  rw [List.append_assoc]
  refine List.pairwise_append.2 ⟨a1, ?_, fun q hq r hr => ?_⟩
  · exact List.pairwise_cons.2 ⟨h2, a2⟩
  · rcases List.mem_cons.1 hr with rfl | hr
    · exact h1 q hq
    · exact a3 q hq r hr
theorem ins_perm (out : List Int) (x : Int) (j : Nat) : (out.take j ++ [x] ++ out.drop j).Perm (out ++ [x]) := by
  have e : out ++ [x] = (out.take j ++ out.drop j) ++ [x] := by rw [List.take_append_drop]
  rw [e, List.append_assoc, List.append_assoc]
  exact List.Perm.append_left _ List.perm_append_comm
theorem rising_in (x0 : List Int) (hl : x0.length ≤ 100000) (i : Nat) (hi : i < x0.length) (out : List Int) (hs : out.Pairwise LeI) (ho : out.length = i)
    (hn : ∀ out' : List Int, out'.Pairwise LeI → out'.Perm (out ++ [x0[i]]) → ∃ k y, postroadref03_rising.l0 k x0 out' ((i + 1 : Nat) : Int) = some y ∧ y.Pairwise LeI ∧ y.Perm x0) :
    ∀ (d j : Nat), j + d = out.length → (∀ q ∈ out.take j, q ≤ x0[i]) → ∃ k y, postroadref03_rising.l1 k x0 out (i : Int) (j : Int) = some y ∧ y.Pairwise LeI ∧ y.Perm x0 := by
  intro d
  have w1 : wrap64 ((i : Int) + 1) = ((i + 1 : Nat) : Int) := by unfold wrap64; omega
  induction d with
  | zero =>
    intro j hj hq
    obtain ⟨k, y, h1, h2⟩ := hn (out.take j ++ [x0[i]] ++ out.drop j) (ins_sorted hs hq (fun q hq => by rw [List.drop_eq_nil_of_le (by omega)] at hq; cases hq)) (ins_perm _ _ _)
    refine ⟨k + 1, y, ?_, h2⟩
    rw [postroadref03_rising.l1, if_neg (by omega), if_pos (by omega), if_pos (by omega)]
    simp only [Option.bind_some, List.nil_append, Int.toNat_natCast]
    rw [if_pos (by rw [List.length_take]; simp; omega), if_pos (by omega), if_pos (by omega), if_pos (by rw [List.length_take]; omega), if_pos (by simp only [List.length_append, List.length_take, List.length_drop, List.length_singleton]; omega), rd_get x0 i hi, w1, h1]
  | succ d ih =>
    intro j hj hq
    have hjl : j < out.length := by omega
    by_cases hc : out[j] ≤ x0[i]
    · obtain ⟨k, y, h1, h2⟩ := ih (j + 1) (by omega) (fun q hq' => by
        rw [List.take_succ_eq_append_getElem hjl] at hq'
        rcases List.mem_append.1 hq' with hq' | hq'
        · exact hq q hq'
        · rw [List.mem_singleton.1 hq']; exact hc)
      refine ⟨k + 1, y, ?_, h2⟩
      have w2 : wrap64 ((j : Int) + 1) = ((j + 1 : Nat) : Int) := by unfold wrap64; omega
      rw [postroadref03_rising.l1, if_pos (by omega), if_pos (by omega), if_pos (by omega), if_pos (by omega), rd_get x0 i hi, rd_get out j hjl, if_pos hc, w2, h1]
    · obtain ⟨k, y, h1, h2⟩ := hn (out.take j ++ [x0[i]] ++ out.drop j) (ins_sorted hs hq (fun q hq' => by
        have hd : out.drop j = out[j] :: out.drop (j + 1) := List.drop_eq_getElem_cons hjl
        have hss := hs
        rw [← List.take_append_drop j out] at hss
        have hp := (List.pairwise_append.1 hss).2.1
        rw [hd] at hp hq'
        rcases List.mem_cons.1 hq' with rfl | hq'
        · omega
        · have : out[j] ≤ q := (List.pairwise_cons.1 hp).1 q hq'
          omega)) (ins_perm _ _ _)
      refine ⟨k + 1, y, ?_, h2⟩
      rw [postroadref03_rising.l1, if_pos (by omega), if_pos (by omega), if_pos (by omega), if_pos (by omega), rd_get x0 i hi, rd_get out j hjl, if_neg hc, if_pos (by omega)]
      simp only [Option.bind_some, List.nil_append, Int.toNat_natCast]
      rw [if_pos (by rw [List.length_take]; simp; omega), if_pos (by rw [List.length_take]; omega), if_pos (by simp only [List.length_append, List.length_take, List.length_drop, List.length_singleton]; omega), w1, h1]
theorem rising_out (x0 : List Int) (hl : x0.length ≤ 100000) : ∀ (d i : Nat) (out : List Int), i + d = x0.length → out.Pairwise LeI → out.Perm (x0.take i) → ∃ k y, postroadref03_rising.l0 k x0 out (i : Int) = some y ∧ y.Pairwise LeI ∧ y.Perm x0 := by
  intro d
  induction d with
  | zero =>
    intro i out hi hs hp
    rw [List.take_of_length_le (by omega)] at hp
    exact ⟨1, out, by rw [postroadref03_rising.l0, if_neg (by omega)], hs, hp⟩
  | succ d ih =>
    intro i out hi hs hp
    have hil : i < x0.length := by omega
    obtain ⟨k, y, h1, h2⟩ := rising_in x0 hl i hil out hs (by rw [hp.length_eq, List.length_take]; omega) (fun out' a b => ih (i + 1) out' (by omega) a (by
      rw [List.take_succ_eq_append_getElem hil]
      exact b.trans (hp.append_right _))) out.length 0 (by omega) (fun q hq => by simp at hq)
    refine ⟨k + 1, y, ?_, h2⟩
    rw [postroadref03_rising.l0, if_pos (by omega)]
    exact h1
theorem ints_uniq : ∀ (xs ys : List Int), xs.Pairwise LeI → ys.Pairwise LeI → xs.Perm ys → xs = ys
  | [], ys, _, _, h => (List.nil_perm.1 h).symm
  | x :: xs, [], _, _, h => by have := h.length_eq; simp at this
  | x :: xs, y :: ys, h1, h2, h => by
    obtain ⟨a1, a2⟩ := List.pairwise_cons.1 h1
    obtain ⟨b1, b2⟩ := List.pairwise_cons.1 h2
    have l1 : x ≤ y := by
      rcases List.mem_cons.1 (h.symm.mem_iff.1 List.mem_cons_self : y ∈ x :: xs) with e | hm
      · omega
      · exact a1 y hm
    have l2 : y ≤ x := by
      rcases List.mem_cons.1 (h.mem_iff.1 List.mem_cons_self : x ∈ y :: ys) with e | hm
      · omega
      · exact b1 x hm
    have e : x = y := by omega
    subst e
    rw [ints_uniq xs ys a2 b2 ((List.perm_cons x).1 h)]
theorem rising_ok (x0 y : List Int) (hl : x0.length ≤ 100000) (hs : y.Pairwise LeI) (hp : y.Perm x0) : ∃ k, postroadref03_rising.f k x0 = some y := by
  obtain ⟨k, z, h1, h2, h3⟩ := rising_out x0 hl x0.length 0 [] (by omega) List.Pairwise.nil (by simp)
  refine ⟨k, ?_⟩
  rw [ints_uniq y z hs h2 (hp.trans h3.symm)]
  exact h1
end Go.Proofs.Ytmmoenleldcadaa.HP
namespace Go.Proofs.Ytmmoenleldcadaa.HP
open Go.RowKit Go.Proofs.Ytmmoenleldcadaa.Fn Go.Proofs.Ytmmoenleldcadaa.HF Go.Proofs.Ytmmoenleldcadaa.MB Go.Proofs.YtmmoenleldcadaaW.PrintWords Go.Proofs.YtmmoenleldcadaaW.PrintLast Go.Proofs.YtmmoenleldcadaaW.PrintMore
def fsts (l : List PkA) : List Int := l.map Prod.fst
theorem fsts_len (l : List PkA) : (fsts l).length = l.length := by unfold fsts; rw [List.length_map]
theorem fsts_app (a b : List PkA) : fsts (a ++ b) = fsts a ++ fsts b := by unfold fsts; rw [List.map_append]
theorem fsts_sorted {l : List PkA} (h : l.Pairwise LeA) : (fsts l).Pairwise LeI := by
  unfold fsts
  rw [List.pairwise_map]
  exact h
theorem fsts_rd (l : List PkA) (i : Nat) (h : i < l.length) : rd (fsts l) (i : Int) = l[i].1 := by
  rw [rd_get _ i (by rw [fsts_len]; exact h)]
  unfold fsts
  rw [List.getElem_map]
/-- The first packs' weights do not wrap. -/
theorem first_le {SC : List PkA} (h : SC.Pairwise LeA) (hp : ∀ p ∈ SC, 0 < p.1 ∧ p.1 ≤ 1099511627776) (hn : SC.length ≤ 288) (k t : Nat) (hk : k ≤ 14) (ht : t ≤ (levels SC k).length) : 0 ≤ sumW ((levels SC k).take t) ∧ sumW ((levels SC k).take t) ≤ 15 * (288 * 1099511627776) := by
  obtain ⟨c, cs, C⟩ := chain h (fun p hm => (hp p hm).1) k t ht
  have one : ∀ L : List PkA, (∀ p ∈ L, 0 < p.1 ∧ p.1 ≤ 1099511627776) → 0 ≤ sumW L ∧ sumW L ≤ L.length * 1099511627776 := by
    intro L
    induction L with
    | nil => intro _; simp [sumW]
    | cons p L ih =>
      intro hL
      have h1 := ih (fun q hq => hL q (by simp [hq]))
      have h2 := hL p (by simp)
      rw [sumW_cons, List.length_cons]
      omega
  have pre : ∀ c, 0 ≤ sumW (SC.take c) ∧ sumW (SC.take c) ≤ 288 * 1099511627776 := fun c => by
    have h1 := one (SC.take c) (fun p hm => hp p (List.mem_of_mem_take hm))
    have h2 : (SC.take c).length ≤ 288 := by rw [List.length_take]; omega
    omega
  have all : ∀ D : List Nat, 0 ≤ (D.map fun c => sumW (SC.take c)).sum ∧ (D.map fun c => sumW (SC.take c)).sum ≤ D.length * (288 * 1099511627776) := by
    intro D
    induction D with
    | nil => simp
    | cons c D ih =>
      have := pre c
      rw [List.map_cons, List.sum_cons, List.length_cons]
      omega
  rw [C.wt]
  have h1 := all (c :: cs)
  have h2 : (c :: cs).length ≤ 15 := by rw [List.length_cons, C.len]; omega
  generalize ((c :: cs).map fun c => sumW (SC.take c)).sum = y at h1 ⊢
  generalize (c :: cs).length = z at h1 h2
  omega
structure LsH (SC : List PkA) (m : Nat) : Prop where
  so : SC.Pairwise LeA
  pos : ∀ p ∈ SC, 0 < p.1 ∧ p.1 ≤ 1099511627776
  n2 : 2 ≤ SC.length
  n288 : SC.length ≤ 288
  m1 : 1 ≤ m
  m15 : m ≤ 15
  pw : SC.length ≤ 2 ^ m
theorem LsH.lv {SC : List PkA} {m : Nat} (H : LsH SC m) (k : Nat) (hk : k ≤ 14) : ∀ p ∈ levels SC k, 0 < p.1 ∧ p.1 ≤ 1099511627776 * 16384 := fun p hp => by
  have b : ∀ k, ∀ p ∈ levels SC k, 0 < p.1 ∧ p.1 ≤ 1099511627776 * (2 ^ k : Nat) := by
    have pr : ∀ (k : Nat) (L : List PkA), (∀ p ∈ L, 0 < p.1 ∧ p.1 ≤ 1099511627776 * (2 ^ k : Nat)) → ∀ p ∈ pairsL L, 0 < p.1 ∧ p.1 ≤ 1099511627776 * (2 ^ (k + 1) : Nat) := by
      intro k L
      induction L using pairsL.induct with
      | case1 u v r ih =>
        intro h q hq
        unfold pairsL at hq
        rcases List.mem_cons.1 hq with rfl | hq
        · have k1 := h u (by simp)
          have k2 := h v (by simp)
          have e : 2 ^ (k + 1) = 2 * 2 ^ k := by rw [Nat.pow_succ]; omega
          show 0 < u.1 + v.1 ∧ u.1 + v.1 ≤ _
          rw [e]
          omega
        · exact ih (fun z hz => h z (by simp [hz])) q hq
      | case2 l hl =>
        intro h q hq
        rw [pairsL] at hq
        · cases hq
        · exact hl
    intro k
    induction k with
    | zero => exact fun p hp => by have := H.pos p hp; simpa using this
    | succ k ih =>
      intro p hp
      rcases List.mem_append.1 ((isort_perm _).mem_iff.1 hp) with hp | hp
      · have := H.pos p hp
        have hq := Nat.one_le_two_pow (n := k + 1)
        omega
      · exact pr k _ ih p hp
  have h1 := b k p hp
  have h2 : 2 ^ k ≤ 16384 := Nat.pow_le_pow_right (n := 2) (by decide) hk
  omega
theorem take_sumW (L : List PkA) (i : Nat) (h : i < L.length) : sumW (L.take (i + 1)) = sumW (L.take i) + L[i].1 := by
  rw [List.take_succ_eq_append_getElem h, sumW_app, sumW_cons]
  show _ + (L[i].1 + 0) = _
  omega
theorem least3 {SC : List PkA} {m : Nat} (H : LsH SC m) (k0 : Nat) (hk : k0 ≤ 14) (hl : 2 * SC.length - 2 ≤ (levels SC k0).length) : ∀ (d i : Nat), i + d = 2 * SC.length - 2 →
    ∃ k, postroadref03_Least.l3 k (fsts SC) (fsts (levels SC k0)) (sumW ((levels SC k0).take i)) (i : Int) = some (sumW ((levels SC k0).take (2 * SC.length - 2))) := by
  have n2 := H.n2
  have n288 := H.n288
  have w0 : wrap64 (wrap64 (2 * ((fsts SC).length : Int)) - 2) = ((2 * SC.length - 2 : Nat) : Int) := by rw [fsts_len]; unfold wrap64; omega
  intro d
  induction d with
  | zero =>
    intro i hi
    refine ⟨1, ?_⟩
    rw [postroadref03_Least.l3, w0, if_neg (by omega), show i = 2 * SC.length - 2 by omega]
  | succ d ih =>
    intro i hi
    obtain ⟨k, hk'⟩ := ih (i + 1) (by omega)
    refine ⟨k + 1, ?_⟩
    have w1 : wrap64 ((i : Int) + 1) = ((i + 1 : Nat) : Int) := by unfold wrap64; omega
    have h1 := first_le H.so H.pos n288 k0 (i + 1) hk (by omega)
    have w2 : wrap64 (sumW ((levels SC k0).take i) + rd (fsts (levels SC k0)) (i : Int)) = sumW ((levels SC k0).take (i + 1)) := by
      rw [fsts_rd _ i (by omega), ← take_sumW _ i (by omega)]
      exact wrap64_id _ (by omega) (by omega)
    rw [postroadref03_Least.l3, w0, if_pos (by omega), if_pos (by rw [fsts_len]; omega), if_pos (by omega), w2, w1, hk']
theorem least4 {SC : List PkA} {m : Nat} (H : LsH SC m) (k0 : Nat) (hk : k0 ≤ 14) (v : Int) (hn : ∃ k, postroadref03_Least.l2 k (m : Int) (fsts SC) (fsts (pairsL (levels SC k0))) ((k0 + 1 : Nat) : Int) = some v) : ∀ (d t j : Nat), t = 2 * j → t + d = (levels SC k0).length + 1 →
    ∃ k, postroadref03_Least.l4 k (m : Int) (fsts SC) (fsts (pairsL ((levels SC k0).take (2 * j)))) (k0 : Int) (fsts (levels SC k0)) (t : Int) = some v := by
  have n288 := H.n288
  have hle := levels_le SC k0
  have fin : ∀ t j : Nat, t = 2 * j → (levels SC k0).length ≤ t + 1 → t ≤ (levels SC k0).length + 1 → ∃ k, postroadref03_Least.l4 k (m : Int) (fsts SC) (fsts (pairsL ((levels SC k0).take (2 * j)))) (k0 : Int) (fsts (levels SC k0)) (t : Int) = some v := fun t j ht h1 h2 => by
    obtain ⟨k, hk'⟩ := hn
    refine ⟨k + 1, ?_⟩
    have w1 : wrap64 ((t : Int) + 1) = ((t + 1 : Nat) : Int) := by unfold wrap64; omega
    have w2 : wrap64 ((k0 : Int) + 1) = ((k0 + 1 : Nat) : Int) := by unfold wrap64; omega
    rw [postroadref03_Least.l4, w1, if_neg (by rw [fsts_len]; omega), w2, pairsL_end _ j (by omega), hk']
  intro d
  induction d using Nat.strongRecOn with
  | ind d ih =>
    intro t j ht hd
    by_cases h1 : t + 1 < (levels SC k0).length
    · obtain ⟨k, hk'⟩ := ih (d - 2) (by omega) (t + 2) (j + 1) (by omega) (by omega)
      refine ⟨k + 1, ?_⟩
      have w1 : wrap64 ((t : Int) + 1) = ((t + 1 : Nat) : Int) := by unfold wrap64; omega
      have w3 : wrap64 ((t : Int) + 2) = ((t + 2 : Nat) : Int) := by unfold wrap64; omega
      have b1 := H.lv k0 hk (levels SC k0)[t] (List.getElem_mem _)
      have b2 := H.lv k0 hk (levels SC k0)[t + 1] (List.getElem_mem _)
      have w4 : wrap64 ((levels SC k0)[t].1 + (levels SC k0)[t + 1].1) = (levels SC k0)[t].1 + (levels SC k0)[t + 1].1 := wrap64_id _ (by omega) (by omega)
      have st := pairsL_step (levels SC k0) j (by omega)
      have e : fsts (pairsL ((levels SC k0).take (2 * (j + 1)))) = fsts (pairsL ((levels SC k0).take (2 * j))) ++ [(levels SC k0)[t].1 + (levels SC k0)[t + 1].1] := by
        subst ht
        rw [st, fsts_app]
        rfl
      have hpl : (pairsL ((levels SC k0).take (2 * j))).length ≤ 576 := by rw [pairsL_len, List.length_take]; omega
      rw [postroadref03_Least.l4, w1, if_pos (by rw [fsts_len]; omega), if_pos (by omega), if_pos (by rw [fsts_len]; omega), if_pos (by omega), if_pos (by rw [fsts_len]; omega), fsts_rd _ t (by omega), fsts_rd _ (t + 1) h1, w4, w3, ← e, hk']
    · exact fin t j ht (by omega) (by omega)
theorem least2 {SC : List PkA} {m : Nat} (H : LsH SC m) : ∀ (e k0 : Nat) (ps : List PkA), k0 + e + 1 = m → (ps = if k0 = 0 then [] else pairsL (levels SC (k0 - 1))) →
    ∃ k, postroadref03_Least.l2 k (m : Int) (fsts SC) (fsts ps) (k0 : Int) = some (sumW ((levels SC (m - 1)).take (2 * SC.length - 2))) := by
  have n2 := H.n2
  have n288 := H.n288
  have m15 := H.m15
  intro e
  induction e with
  | zero =>
    intro k0 ps hk hps
    have hge := levels_ge SC (m := m) H.pw k0 (by omega)
    rw [show m - k0 = 1 by omega] at hge
    obtain ⟨k1, h1⟩ := least3 H k0 (by omega) (by omega) (2 * SC.length - 2) 0 (by omega)
    have hr : ∃ k, postroadref03_rising.f k (fsts SC ++ fsts ps) = some (fsts (levels SC k0)) := by
      have hpl : ps.length ≤ 576 := by
        rw [hps]
        split
        · exact Nat.zero_le _
        · rw [pairsL_len]; have := levels_le SC (k0 - 1); omega
      refine rising_ok _ _ (by rw [List.length_append, fsts_len, fsts_len]; omega) (fsts_sorted (levels_sorted H.so k0)) ?_
      rw [← fsts_app]
      unfold fsts
      refine List.Perm.map _ ?_
      cases k0 with
      | zero => rw [hps]; simp [levels]
      | succ k0 => rw [hps]; exact isort_perm _
    obtain ⟨k2, h2⟩ := hr
    have g1 := up (fun k => (postroadref03_Least.mono_l k).2.2.2.1 (fsts SC) (fsts (levels SC k0)) 0 0) (K := k1) (r := sumW ((levels SC k0).take (2 * SC.length - 2))) h1 k2
    have g2 := up (fun k => postroadref03_rising.mono (fsts SC ++ fsts ps) k) h2 k1
    rw [Nat.add_comm k2 k1] at g2
    refine ⟨k1 + k2 + 1, ?_⟩
    have w1 : (k0 : Int) = wrap64 ((m : Int) - 1) := by unfold wrap64; omega
    have hpl : (fsts SC).length ≤ 288 := by rw [fsts_len]; exact n288
    have hpl2 : (fsts ps).length ≤ 576 := by
      rw [fsts_len, hps]
      split
      · exact Nat.zero_le _
      · rw [pairsL_len]; have := levels_le SC (k0 - 1); omega
    rw [postroadref03_Least.l2, if_pos (by omega), if_pos (by simp only [List.length_nil]; omega)]
    simp only [Option.bind_some, List.nil_append]
    rw [if_pos (by omega), g2]
    simp only [Option.bind_some]
    rw [if_pos w1, show m - 1 = k0 by omega]
    exact g1
  | succ e ih =>
    intro k0 ps hk hps
    obtain ⟨k1, h1⟩ := least4 H k0 (by omega) _ (ih (k0 + 1) (pairsL (levels SC k0)) (by omega) (by rw [if_neg (by omega), Nat.add_sub_cancel])) ((levels SC k0).length + 1) 0 0 rfl (by omega)
    have hpl : (fsts SC).length ≤ 288 := by rw [fsts_len]; exact n288
    have hpl2 : (fsts ps).length ≤ 576 := by
      rw [fsts_len, hps]
      split
      · exact Nat.zero_le _
      · rw [pairsL_len]; have := levels_le SC (k0 - 1); omega
    have hr : ∃ k, postroadref03_rising.f k (fsts SC ++ fsts ps) = some (fsts (levels SC k0)) := by
      refine rising_ok _ _ (by rw [List.length_append]; omega) (fsts_sorted (levels_sorted H.so k0)) ?_
      rw [← fsts_app]
      unfold fsts
      refine List.Perm.map _ ?_
      cases k0 with
      | zero => rw [hps]; simp [levels]
      | succ k0 => rw [hps]; exact isort_perm _
    obtain ⟨k2, h2⟩ := hr
    have g1 := up (fun k => (postroadref03_Least.mono_l k).2.2.2.2 (m : Int) (fsts SC) [] (k0 : Int) (fsts (levels SC k0)) 0) (K := k1) (r := sumW ((levels SC (m - 1)).take (2 * SC.length - 2))) h1 k2
    have g2 := up (fun k => postroadref03_rising.mono (fsts SC ++ fsts ps) k) h2 k1
    rw [Nat.add_comm k2 k1] at g2
    refine ⟨k1 + k2 + 1, ?_⟩
    have w1 : ¬ (k0 : Int) = wrap64 ((m : Int) - 1) := by unfold wrap64; omega
    rw [postroadref03_Least.l2, if_pos (by omega), if_pos (by simp only [List.length_nil]; omega)]
    simp only [Option.bind_some, List.nil_append]
    rw [if_pos (by omega), g2]
    simp only [Option.bind_some]
    rw [if_neg w1]
    exact g1
end Go.Proofs.Ytmmoenleldcadaa.HP
namespace Go.Proofs.Ytmmoenleldcadaa.HP
open Go.RowKit Go.Proofs.Ytmmoenleldcadaa.Fn Go.Proofs.Ytmmoenleldcadaa.HF Go.Proofs.Ytmmoenleldcadaa.MB Go.Proofs.YtmmoenleldcadaaW.PrintWords Go.Proofs.YtmmoenleldcadaaW.PrintLast Go.Proofs.YtmmoenleldcadaaW.PrintMore
theorem LsH.of {l : List Int} {m : Nat} (hl : l.length ≤ 288) (hf : ∀ f ∈ l, 0 ≤ f ∧ f ≤ 1099511627776) (hm : 1 ≤ m) (h15 : m ≤ 15) (hp : (coinsF 0 l).length ≤ 2 ^ m) (h2 : 2 ≤ (coinsF 0 l).length) : LsH (isort (coinsF 0 l)) m := by
  have hlen := (isort_perm (coinsF 0 l)).length_eq
  have hle := coinsF_le l 0
  refine ⟨isort_sorted _, fun p hp => ?_, by omega, by omega, hm, h15, by omega⟩
  obtain ⟨j, hj, h1, rfl⟩ := coin_mem l 0 p ((isort_perm _).mem_iff.1 hp)
  exact ⟨h1, (hf _ (List.getElem_mem _)).2⟩
def leastV (l : List Int) (m : Nat) : Int := if (coinsF 0 l).length < 2 then sumW (coinsF 0 l) else sumW ((levels (isort (coinsF 0 l)) (m - 1)).take (2 * (coinsF 0 l).length - 2))
theorem least1 (L : List PkA) (hL : L.length < 2) (hp : ∀ p ∈ L, 0 < p.1 ∧ p.1 ≤ 1099511627776) : ∃ k, postroadref03_Least.l1 k (fsts L) 0 0 = some (sumW L) := by
  match L, hL, hp with
  | [], _, _ => exact ⟨1, by rw [postroadref03_Least.l1, if_neg (by simp [fsts])]; rfl⟩
  | [p], _, hp =>
    have h := hp p (by simp)
    refine ⟨2, ?_⟩
    have e : fsts [p] = [p.1] := rfl
    have w : wrap64 (0 + rd [p.1] 0) = p.1 := by
      show wrap64 (0 + p.1) = p.1
      rw [Int.zero_add]
      exact wrap64_id _ (by omega) (by omega)
    have w1 : wrap64 ((0 : Int) + 1) = 1 := by unfold wrap64; omega
    rw [e, postroadref03_Least.l1, if_pos (by simp), if_pos (by decide), w, w1, postroadref03_Least.l1, if_neg (by simp)]
    show some p.1 = some (p.1 + 0)
    rw [Int.add_zero]
theorem least_loop (l : List Int) (m : Nat) (hl : l.length ≤ 288) (hf : ∀ f ∈ l, 0 ≤ f ∧ f ≤ 1099511627776) (hm : 1 ≤ m) (h15 : m ≤ 15) (hp : (coinsF 0 l).length ≤ 2 ^ m) : ∀ (d i : Nat), i + d = l.length → ∃ k, postroadref03_Least.l0 k l (m : Int) (fsts (coinsF 0 (l.take i))) (i : Int) = some (leastV l m) := by
  intro d
  induction d with
  | zero =>
    intro i hi
    rw [List.take_of_length_le (by omega)]
    by_cases h2 : (coinsF 0 l).length < 2
    · obtain ⟨k, hk⟩ := least1 (coinsF 0 l) h2 (fun p hp => by
        obtain ⟨j, hj, h1, rfl⟩ := coin_mem l 0 p hp
        exact ⟨h1, (hf _ (List.getElem_mem _)).2⟩)
      refine ⟨k + 1, ?_⟩
      rw [postroadref03_Least.l0, if_neg (by omega), if_pos (by rw [fsts_len]; omega), hk]
      unfold leastV
      rw [if_pos h2]
    · have H := LsH.of hl hf hm h15 hp (by omega)
      have hlen := (isort_perm (coinsF 0 l)).length_eq
      obtain ⟨k1, h1⟩ := least2 H (m - 1) 0 [] (by omega) rfl
      obtain ⟨k2, h2'⟩ : ∃ k, postroadref03_rising.f k (fsts (coinsF 0 l)) = some (fsts (isort (coinsF 0 l))) :=
        rising_ok _ _ (by rw [fsts_len]; have := coinsF_le l 0; omega) (fsts_sorted (isort_sorted _)) (by unfold fsts; exact (isort_perm _).map _)
      have g1 := up (fun k => (postroadref03_Least.mono_l k).2.2.1 (m : Int) (fsts (isort (coinsF 0 l))) (fsts []) ((0 : Nat) : Int)) h1 k2
      have g2 := up (fun k => postroadref03_rising.mono (fsts (coinsF 0 l)) k) h2' k1
      rw [Nat.add_comm k2 k1] at g2
      refine ⟨k1 + k2 + 1, ?_⟩
      rw [postroadref03_Least.l0, if_neg (by omega), if_neg (by rw [fsts_len]; omega), g2]
      simp only [Option.bind_some]
      unfold leastV
      rw [if_neg h2]
      rw [hlen] at g1
      exact g1
  | succ d ih =>
    intro i hi
    have hil : i < l.length := by omega
    obtain ⟨k, hk⟩ := ih (i + 1) (by omega)
    refine ⟨k + 1, ?_⟩
    have w1 : wrap64 ((i : Int) + 1) = ((i + 1 : Nat) : Int) := by unfold wrap64; omega
    have hle := coinsF_le (l.take i) 0
    have hle2 : (l.take i).length ≤ 288 := by rw [List.length_take]; omega
    rw [List.take_succ_eq_append_getElem hil, coinsF_snoc] at hk
    rw [postroadref03_Least.l0, if_pos (by omega), if_pos (by omega), rd_get l i hil, w1]
    by_cases h0 : l[i] > 0
    · rw [if_pos h0] at hk
      rw [if_pos h0, if_pos (by rw [fsts_len]; omega)]
      rw [fsts_app] at hk
      exact hk
    · rw [if_neg h0, List.append_nil] at hk
      rw [if_neg h0, hk]
theorem least_ok (l : List Int) (m : Nat) (hl : l.length ≤ 288) (hf : ∀ f ∈ l, 0 ≤ f ∧ f ≤ 1099511627776) (hm : 1 ≤ m) (h15 : m ≤ 15) (hp : (coinsF 0 l).length ≤ 2 ^ m) : ∃ k, postroadref03_Least.f k l (m : Int) = some (leastV l m) := by
  obtain ⟨k, hk⟩ := least_loop l m hl hf hm h15 hp l.length 0 (by omega)
  exact ⟨k, hk⟩
/-- The cost is the least one. -/
theorem cost_least {l : List Int} {m : Nat} {d : Int → Int} (D : LensOk l m d) (hl : l.length ≤ 288) : sumG (fun f s => f * d s) (coinsF 0 l) = leastV l m := by
  unfold leastV
  by_cases h2 : (coinsF 0 l).length < 2
  · rw [if_pos h2]
    match hc : coinsF 0 l with
    | [] => rfl
    | [p] =>
      obtain ⟨j, hj, hj0, hpj⟩ := coin_mem l 0 p (by rw [hc]; exact List.mem_singleton_self _)
      have h1 := D.one (by rw [hc]; rfl) j hj hj0
      rw [sumG_cons, sumG_nil, sumW_cons, hpj]
      show l[j] * d ((0 : Int) + (j : Int)) + 0 = l[j] + 0
      rw [Int.zero_add, h1, Int.mul_one]
    | _ :: _ :: _ => rw [hc] at h2; simp at h2; omega
  · rw [if_neg h2, D.cost (by omega)]
end Go.Proofs.Ytmmoenleldcadaa.HP
namespace Go.Proofs.Ytmmoenleldcadaa.HP
open Go.RowKit Go.Proofs.Ytmmoenleldcadaa.Fn Go.Proofs.Ytmmoenleldcadaa.HF Go.Proofs.Ytmmoenleldcadaa.MB Go.Proofs.YtmmoenleldcadaaW.PrintWords Go.Proofs.YtmmoenleldcadaaW.PrintLast Go.Proofs.YtmmoenleldcadaaW.PrintMore
theorem at_ {α : Type} {f : Nat → Option α} (hm : ∀ k, LeO (f k) (f (k + 1))) {K k : Nat} {r : α} (h : f K = some r) (hk : K ≤ k) : f k = some r := by
  obtain ⟨d, rfl⟩ := Nat.exists_eq_add_of_le hk
  exact up hm h d
theorem refcost_in (fs ls : List Int) (hl : fs.length = ls.length) (hn : ls.length ≤ 288) (hc : countedL fs = true) (hr : ∀ x ∈ ls, 0 ≤ x ∧ x ≤ 15) : ∀ (d i : Nat) (s : Int), i + d = fs.length → 0 ≤ s → s ≤ i * 16492674416640 →
    ∃ k, postroadref03_Cost.l1 k fs ls s (i : Int) = some (costG (fs.drop i) (ls.drop i) s) := by
  intro d
  induction d with
  | zero =>
    intro i s hi h0 h1
    refine ⟨1, ?_⟩
    rw [postroadref03_Cost.l1, if_neg (by omega), List.drop_eq_nil_of_le (by omega)]
    rfl
  | succ d ih =>
    intro i s hi h0 h1
    have h2 : i < fs.length := by omega
    have h3 : i < ls.length := by omega
    have w1 : wrap64 ((i : Int) + 1) = ((i + 1 : Nat) : Int) := by unfold wrap64; omega
    have hf : 0 ≤ fs[i] ∧ fs[i] ≤ 1099511627776 := of_decide_eq_true (List.all_eq_true.1 hc _ (List.getElem_mem _))
    have hg := hr ls[i] (List.getElem_mem _)
    have mb := mul_bd fs[i] ls[i] hf.1 hf.2 hg.1 hg.2
    have w2 : wrap64 (fs[i] * ls[i]) = fs[i] * ls[i] := wrap64_id _ (by omega) (by omega)
    have w3 : wrap64 (s + fs[i] * ls[i]) = s + fs[i] * ls[i] := wrap64_id _ (by omega) (by omega)
    obtain ⟨k, hk⟩ := ih (i + 1) (s + fs[i] * ls[i]) (by omega) (by omega) (by omega)
    refine ⟨k + 1, ?_⟩
    rw [postroadref03_Cost.l1, if_pos (by omega), if_pos (by omega), costG_drop fs ls i h2 h3 s, rd_get fs i h2, rd_get ls i h3, w2, w3, w1, hk]
    by_cases c1 : fs[i] > 0
    · rw [if_pos c1, if_pos (by omega)]
      by_cases c2 : ls[i] = 0
      · rw [if_pos c2, if_pos ⟨c1, c2⟩]
      · rw [if_neg c2, if_neg (fun h => c2 h.2)]
    · rw [if_neg c1, if_pos (by omega), if_neg (fun h => c1 h.1)]
theorem refcost_out (fs ls : List Int) (hl : fs.length = ls.length) (hb : fs.length ≤ 100000000000000000) : ∀ (d i : Nat), i + d = fs.length → (fs.take i).all freqOk = true → ∃ k, postroadref03_Cost.l0 k fs ls (i : Int) = some (costL fs ls) := by
  intro d
  induction d with
  | zero =>
    intro i hi hc
    rw [List.take_of_length_le (by omega)] at hc
    have hcc : countedL fs = true := hc
    cases h : okL ls with
    | false =>
      obtain ⟨k, hk⟩ := may_ok ls
      refine ⟨k + 1, ?_⟩
      rw [postroadref03_Cost.l0, if_neg (by omega), hk, h]
      unfold costL
      rw [if_pos hl, if_pos hcc, h]
      rfl
    | true =>
      obtain ⟨o1, o2, o3⟩ := okL_open h
      obtain ⟨k, hk1, hk2⟩ := both (fun k => postroadref03_May.mono ls k) (fun k => (postroadref03_Cost.mono_l k).2 fs ls 0 0) (may_ok ls) (by
        obtain ⟨k, hk⟩ := refcost_in fs ls hl o1 hcc o2 fs.length 0 0 (by omega) (Int.le_refl _) (by omega)
        exact ⟨k, hk⟩)
      refine ⟨k + 1, ?_⟩
      rw [postroadref03_Cost.l0, if_neg (by omega), hk1, h]
      unfold costL
      rw [if_pos hl, if_pos hcc, h, if_pos rfl]
      exact hk2
  | succ d ih =>
    intro i hi hc
    have h2 : i < fs.length := by omega
    have w1 : wrap64 ((i : Int) + 1) = ((i + 1 : Nat) : Int) := by unfold wrap64; omega
    have bad : freqOk fs[i] = false → costL fs ls = (0, 1) := fun hb => by
      have : countedL fs = false := by
        cases hh : countedL fs with
        | false => rfl
        | true =>
          have := List.all_eq_true.1 hh fs[i] (List.getElem_mem _)
          rw [hb] at this
          cases this
      unfold costL
      rw [if_pos hl, this]
      rfl
    by_cases c1 : fs[i] < 0
    · refine ⟨1, ?_⟩
      rw [postroadref03_Cost.l0, if_pos (by omega), if_pos (by omega), rd_get fs i h2, if_pos c1, bad (decide_eq_false (by omega))]
    · by_cases c2 : fs[i] > 1099511627776
      · refine ⟨1, ?_⟩
        rw [postroadref03_Cost.l0, if_pos (by omega), if_pos (by omega), rd_get fs i h2, if_neg c1, if_pos c2, bad (decide_eq_false (by omega))]
      · obtain ⟨k, hk⟩ := ih (i + 1) (by omega) (by
          rw [List.take_succ_eq_append_getElem h2, List.all_append, hc]
          have : freqOk fs[i] = true := decide_eq_true (by omega)
          simp [this])
        refine ⟨k + 1, ?_⟩
        rw [postroadref03_Cost.l0, if_pos (by omega), if_pos (by omega), rd_get fs i h2, if_neg c1, if_neg c2, w1, hk]
theorem refcost_ok (fs ls : List Int) (hb : fs.length ≤ 100000000000000000) : ∃ k, postroadref03_Cost.f k fs ls = some (costL fs ls) := by
  unfold postroadref03_Cost.f
  by_cases h : fs.length = ls.length
  · obtain ⟨k, hk⟩ := refcost_out fs ls h hb fs.length 0 (by omega) (by rw [List.take_zero]; rfl)
    exact ⟨k, by rw [if_pos (by omega)]; exact hk⟩
  · exact ⟨0, by rw [if_neg (by omega)]; unfold costL; rw [if_neg h]⟩
theorem okLens_open {l : List Int} {a : Int} (h : okLens l a = true) : l.length ≤ 288 ∧ (1 ≤ a ∧ a ≤ 15) ∧ countedL l = true ∧ (coinsF 0 l).length ≤ 2 ^ a.toNat := by
  unfold okLens at h
  simp only [Bool.and_eq_true, decide_eq_true_eq] at h
  exact h
theorem counted_le {l : List Int} (h : countedL l = true) : ∀ f ∈ l, 0 ≤ f ∧ f ≤ 1099511627776 := fun f hf => of_decide_eq_true (List.all_eq_true.1 h f hf)
theorem lensL_len (l : List Int) (m : Nat) : (lensL l m).length = l.length := by
  unfold lensL
  split
  · rw [List.length_set, List.length_replicate]
  · split
    · rw [List.length_replicate]
    · rw [tally_len, List.length_replicate]
end Go.Proofs.Ytmmoenleldcadaa.HP
namespace Go.Proofs.Ytmmoenleldcadaa.HP
open Go.RowKit Go.Proofs.Ytmmoenleldcadaa.Fn Go.Proofs.Ytmmoenleldcadaa.HF Go.Proofs.Ytmmoenleldcadaa.MB Go.Proofs.YtmmoenleldcadaaW.PrintWords Go.Proofs.YtmmoenleldcadaaW.PrintLast Go.Proofs.YtmmoenleldcadaaW.PrintMore
theorem head_le {y : PkA} {B : List PkA} (h : (y :: B).Pairwise LeA) (i : Nat) (hi : i < (y :: B).length) : y.1 ≤ ((y :: B)[i]).1 := by
  cases i with
  | zero => exact Int.le_refl _
  | succ i => exact (List.pairwise_cons.1 h).1 _ (List.getElem_mem _)
/-- The first ones of a merge weigh the least. -/
theorem mrg_min : ∀ (A B : List PkA), A.Pairwise LeA → B.Pairwise LeA → ∀ (c p : Nat), c ≤ A.length → p ≤ B.length → sumW ((mrg A B).take (c + p)) ≤ sumW (A.take c) + sumW (B.take p)
  | [], B, _, _, c, p, h1, h2 => by
    have : c = 0 := by simpa using h1
    subst this
    rw [mrg_nil, Nat.zero_add]
    show _ ≤ sumW [] + _
    have : sumW [] = 0 := rfl
    omega
  | x :: A, [], _, _, c, p, h1, h2 => by
    have : p = 0 := by simpa using h2
    subst this
    rw [mrg_nil2, Nat.add_zero]
    show _ ≤ _ + sumW []
    have : sumW [] = 0 := rfl
    omega
  | x :: A, y :: B, hA, hB, c, p, h1, h2 => by
    have a2 := (List.pairwise_cons.1 hA).2
    have b2 := (List.pairwise_cons.1 hB).2
    have e0 : sumW [] = 0 := rfl
    rw [mrg_cons]
    split
    · rename_i hxy
      cases c with
      | zero =>
        cases p with
        | zero => show sumW [] ≤ sumW [] + sumW []; omega
        | succ p =>
          have ih := mrg_min A (y :: B) a2 hB 0 p (Nat.zero_le _) (by omega)
          have hs := take_sumW (y :: B) p (by omega)
          have hh := head_le hB p (by omega)
          rw [show 0 + (p + 1) = p + 1 by omega, List.take_succ_cons, sumW_cons, hs]
          rw [Nat.zero_add] at ih
          simp only [List.take_zero] at ih ⊢
          omega
      | succ c =>
        have ih := mrg_min A (y :: B) a2 hB c p (by simpa using h1) h2
        rw [show c + 1 + p = (c + p) + 1 by omega, List.take_succ_cons, List.take_succ_cons, sumW_cons, sumW_cons]
        omega
    · rename_i hxy
      cases p with
      | zero =>
        cases c with
        | zero => show sumW [] ≤ sumW [] + sumW []; omega
        | succ c =>
          have ih := mrg_min (x :: A) B hA b2 c 0 (by omega) (Nat.zero_le _)
          have hs := take_sumW (x :: A) c (by omega)
          have hh := head_le hA c (by omega)
          rw [show c + 1 + 0 = c + 1 by omega, List.take_succ_cons, sumW_cons, hs]
          rw [Nat.add_zero] at ih
          simp only [List.take_zero] at ih ⊢
          omega
      | succ p =>
        have ih := mrg_min (x :: A) B hA b2 c p h1 (by simpa using h2)
        rw [show c + (p + 1) = (c + p) + 1 by omega, List.take_succ_cons, List.take_succ_cons, sumW_cons, sumW_cons]
        omega
termination_by A B => A.length + B.length
theorem levels_mrg {SC : List PkA} (h : SC.Pairwise LeA) (k : Nat) : levels SC (k + 1) = mrg SC (pairsL (levels SC k)) := isort_mrg h (pairs_sorted _ (levels_sorted h k))
theorem levels_up (SC : List PkA) : ∀ k, (levels SC k).length ≤ (levels SC (k + 1)).length
  | 0 => by rw [levels_len]; show SC.length ≤ _; omega
  | k + 1 => by
    have h2 := Nat.div_le_div_right (c := 2) (levels_up SC k)
    rw [levels_len SC k, levels_len SC (k + 1)]
    omega
theorem levels_step {SC : List PkA} (h : SC.Pairwise LeA) : ∀ k t, t ≤ (levels SC k).length → sumW ((levels SC (k + 1)).take t) ≤ sumW ((levels SC k).take t)
  | 0, t, ht => by
    rw [levels_mrg h 0]
    have := mrg_min SC (pairsL (levels SC 0)) h (pairs_sorted _ (levels_sorted h 0)) t 0 ht (Nat.zero_le _)
    have e0 : sumW [] = 0 := rfl
    simp only [Nat.add_zero, List.take_zero] at this
    show _ ≤ sumW (SC.take t)
    omega
  | k + 1, t, ht => by
    rw [levels_len] at ht
    obtain ⟨c, p, h1, h2, h3, h4, _⟩ := mrg_take2 SC (pairsL (levels SC k)) t (by rw [pairsL_len]; exact ht)
    rw [pairsL_len] at h2
    have e1 : sumW ((levels SC (k + 1)).take t) = sumW (SC.take c) + sumW ((levels SC k).take (2 * p)) := by
      rw [levels_mrg h k, sumW_perm h4, sumW_app, pairs_take, sumW_pairs _ (by rw [List.length_take]; omega)]
    have hu := levels_up SC k

    have ih := levels_step h k (2 * p) (by omega)
    have hm := mrg_min SC (pairsL (levels SC (k + 1))) h (pairs_sorted _ (levels_sorted h (k + 1))) c p h1 (by rw [pairsL_len]; exact Nat.le_trans h2 (Nat.div_le_div_right hu))
    rw [h3, pairs_take, sumW_pairs _ (by rw [List.length_take]; omega)] at hm
    rw [levels_mrg h (k + 1), e1]
    omega
theorem levels_anti {SC : List PkA} (h : SC.Pairwise LeA) (t : Nat) : ∀ (d k : Nat), t ≤ (levels SC k).length → t ≤ (levels SC (k + d)).length ∧ sumW ((levels SC (k + d)).take t) ≤ sumW ((levels SC k).take t)
  | 0, k, ht => ⟨ht, Int.le_refl _⟩
  | d + 1, k, ht => by
    obtain ⟨i1, i2⟩ := levels_anti h t d k ht
    have hu := levels_up SC (k + d)
    have hs := levels_step h (k + d) t i1
    rw [show k + (d + 1) = k + d + 1 by omega]
    exact ⟨by omega, by omega⟩
/-- A higher limit never costs more. -/
theorem leastV_anti (l : List Int) {a b : Nat} (h1 : 1 ≤ a) (hab : a ≤ b) (hp : (coinsF 0 l).length ≤ 2 ^ a) : leastV l b ≤ leastV l a := by
  unfold leastV
  split
  · exact Int.le_refl _
  · have hl := (isort_perm (coinsF 0 l)).length_eq
    have hge := levels_ge (isort (coinsF 0 l)) (m := a) (by rw [hl]; exact hp) (a - 1) (by omega)
    rw [hl, show a - (a - 1) = 1 by omega] at hge
    obtain ⟨d, rfl⟩ := Nat.exists_eq_add_of_le hab
    have := (levels_anti (isort_sorted (coinsF 0 l)) (2 * (coinsF 0 l).length - 2) d (a - 1) (by omega)).2
    rw [show a - 1 + d = a + d - 1 by omega] at this
    exact this
theorem sumG_le {g g' : Int → Int → Int} : ∀ {l : List PkA}, (∀ p ∈ l, g p.1 (sig p) ≤ g' p.1 (sig p)) → sumG g l ≤ sumG g' l
  | [], _ => Int.le_refl _
  | p :: l, h => by
    rw [sumG_cons, sumG_cons]
    have h1 := h p (by simp)
    have h2 := sumG_le (l := l) (fun q hq => h q (by simp [hq]))
    omega
theorem sum_coins : ∀ (l : List Int) (i : Int), (∀ f ∈ l, 0 ≤ f) → sumG (fun f _ => f) (coinsF i l) = l.sum
  | [], _, _ => rfl
  | f :: l, i, h => by
    have ih := sum_coins l (i + 1) (fun g hg => h g (by simp [hg]))
    have h0 := h f (by simp)
    rw [coinsF_cons, List.sum_cons]
    split
    · rw [sumG_cons, ih]
    · rw [ih]; omega
/-- No less than the symbols come. -/
theorem leastV_sum {l : List Int} {m : Nat} (hl : l.length ≤ 288) (hf : ∀ f ∈ l, 0 ≤ f ∧ f ≤ 1099511627776) (hm : 1 ≤ m) (h15 : m ≤ 15) (hp : (coinsF 0 l).length ≤ 2 ^ m) : l.sum ≤ leastV l m := by
  obtain ⟨d, D, _, _, _⟩ := lens_facts hl hf hm h15 hp
  rw [← cost_least D hl, ← sum_coins l 0 (fun f h => (hf f h).1)]
  refine sumG_le fun p hp => ?_
  obtain ⟨j, hj, h1, rfl⟩ := coin_mem l 0 p hp
  have hr := (D.rg j hj h1).1
  show l[j] ≤ l[j] * d ((0 : Int) + (j : Int))
  rw [Int.zero_add]
  have := Int.mul_le_mul_of_nonneg_left hr (Int.le_of_lt h1)
  omega
theorem sum_bd {l : List Int} (hf : ∀ f ∈ l, 0 ≤ f ∧ f ≤ 1099511627776) : 0 ≤ l.sum ∧ l.sum ≤ l.length * 1099511627776 := by
  induction l with
  | nil => exact ⟨Int.le_refl _, by simp⟩
  | cons f l ih =>
    have h1 := hf f (by simp)
    have h2 := ih (fun g hg => hf g (by simp [hg]))
    rw [List.sum_cons, List.length_cons]
    omega
end Go.Proofs.Ytmmoenleldcadaa.HP
