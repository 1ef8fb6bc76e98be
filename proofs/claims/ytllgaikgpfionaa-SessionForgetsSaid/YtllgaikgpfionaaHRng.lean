/- A range over a map from ids to batches, with entries deleted in its rounds. -/
import Derived.Test.YtllgaikgpfionaaHSes
import Derived.Maps.RangeWalk
namespace Go.Proofs.Ytllgaikgpfionaa.SM
open Go.RowKit Go.Proofs.YtllgaikgpfionaaW.PrintWords Go.Proofs.YtllgaikgpfionaaW.PrintLast Go.Proofs.YtllgaikgpfionaaW.PrintMore Go.Proofs.Ytllgaikgpfionaa.HW Go.Proofs.Ytllgaikgpfionaa.MB
abbrev Ents := List ((Int × Int) × Bat)
/-- A range under way: what stands, which keys were met, how many entries are still to come. -/
def Rg (W : World) (m r : Nat) (l : Ents) (seen : Int × Int → Bool) (cnt : Nat) : Prop :=
  ∃ es clock since sn c0, W.heap[m]? = some (.map es clock) ∧ es.toList.map (fun e => (e.key, e.val)) = l.map (fun p => (keyV p.1, p.2.val)) ∧ (∀ e ∈ es.toList, e.born < clock) ∧ es.toList.Pairwise (fun a b => a.born ≠ b.born) ∧
    W.heap[r]? = some (.mapIter (some m) since sn c0) ∧ (∀ e ∈ es.toList, e.born < since) ∧ since ≤ c0 ∧ since ≤ clock ∧ (leftOf es sn).size = cnt ∧ (∀ (i : Nat) e p, es.toList[i]? = some e → l[i]? = some p → sn.contains e.born = seen p.1) ∧ l.Pairwise (fun a b => a.1 ≠ b.1)
theorem Rg.maps {W : World} {m r : Nat} {l : Ents} {seen : Int × Int → Bool} {cnt : Nat} (h : Rg W m r l seen cnt) : MapIs W m l := by
  obtain ⟨es, clock, since, sn, c0, hb, he, hc, hp, _⟩ := h
  exact ⟨es, clock, hb, he, hc, hp⟩
theorem Rg.apart {W : World} {m r : Nat} {l : Ents} {seen : Int × Int → Bool} {cnt : Nat} (h : Rg W m r l seen cnt) : l.Pairwise (fun a b => a.1 ≠ b.1) := by
  obtain ⟨es, clock, since, sn, c0, hb, he, hc, hp, _, _, _, _, _, _, ha⟩ := h
  exact ha
theorem Rg.lt {W : World} {m r : Nat} {l : Ents} {seen : Int × Int → Bool} {cnt : Nat} (h : Rg W m r l seen cnt) : m < W.heap.size ∧ r < W.heap.size := by
  obtain ⟨es, clock, since, sn, c0, hb, he, hc, hp, hr, _⟩ := h
  exact ⟨blk_lt hb, blk_lt hr⟩
theorem Rg.move {W W' : World} {m r : Nat} {l : Ents} {seen : Int × Int → Bool} {cnt : Nat} (h : Rg W m r l seen cnt) (hm : W'.heap[m]? = W.heap[m]?) (hr : W'.heap[r]? = W.heap[r]?) : Rg W' m r l seen cnt := by
  obtain ⟨es, clock, since, sn, c0, hb, he, hc, hp, hit, rest⟩ := h
  exact ⟨es, clock, since, sn, c0, hm.trans hb, he, hc, hp, hr.trans hit, rest⟩
theorem Rg.left_eq {W : World} {m r : Nat} {l : Ents} {seen : Int × Int → Bool} {cnt : Nat} (h : Rg W m r l seen cnt) : W.rangeLeft m r = cnt := by
  obtain ⟨es, clock, since, sn, c0, hb, he, hc, hp, hit, _, _, _, hcnt, _⟩ := h
  simp only [World.rangeLeft, hb, hit]
  exact hcnt
theorem Rg.is_map {W : World} {m r : Nat} {l : Ents} {seen : Int × Int → Bool} {cnt : Nat} (h : Rg W m r l seen cnt) : ∃ es clock, W.heap[m]? = some (.map es clock) := by
  obtain ⟨es, clock, since, sn, c0, hb, _⟩ := h
  exact ⟨es, clock, hb⟩
theorem Rg.is_it {W : World} {m r : Nat} {l : Ents} {seen : Int × Int → Bool} {cnt : Nat} (h : Rg W m r l seen cnt) : ∃ a b c, W.heap[r]? = some (.mapIter (some m) a b c) := by
  obtain ⟨es, clock, since, sn, c0, hb, he, hc, hp, hr, _⟩ := h
  exact ⟨_, _, _, hr⟩
/-- 'range m'. -/
theorem run_rng {W : World} {m : Nat} {l : Ents} (h : MapIs W m l) (ha : l.Pairwise (fun a b => a.1 ≠ b.1)) :
    ∃ o, (∃ a b c, o = Obj.mapIter (some m) a b c) ∧ (Instr.range 54 (.map (some m))).run Try.prog W = .ok (.pointer (some ⟨W.heap.size, 0, none⟩)) (W.alloc o) ∧ ∃ cnt, Rg (W.alloc o) m W.heap.size l (fun _ => false) cnt := by
  obtain ⟨es, clock, hb, he, hc, hp⟩ := h
  exact ⟨_, ⟨_, _, _, rfl⟩, run_range_map W 54 30 33 m es clock Try.underlying54 hb, _, es, clock, clock, #[], clock, (heap_alloc_old W _ (blk_lt hb)).trans hb, he, hc, hp, heap_alloc_new W _, hc, Nat.le_refl _, Nat.le_refl _, rfl, fun i e p _ _ => by simp, ha⟩
theorem get_both {es : List MapEntry} {l : Ents} (he : es.map (fun e => (e.key, e.val)) = l.map (fun p => (keyV p.1, p.2.val))) (i : Nat) (e : MapEntry) (hi : es[i]? = some e) : ∃ p, l[i]? = some p ∧ e.key = keyV p.1 ∧ e.val = p.2.val := by
  have h1 : (es.map (fun e => (e.key, e.val)))[i]? = some (e.key, e.val) := by rw [List.getElem?_map, hi]; rfl
  rw [he, List.getElem?_map] at h1
  cases hl : l[i]? with
  | none => rw [hl] at h1; cases h1
  | some p =>
    rw [hl] at h1
    simp only [Option.map_some, Option.some.injEq, Prod.mk.injEq] at h1
    exact ⟨p, rfl, h1.1.symm, h1.2.symm⟩
theorem pw_get {α : Type} {R : α → α → Prop} {l : List α} (h : l.Pairwise R) {i j : Nat} {a b : α} (hij : i < j) (hi : l[i]? = some a) (hj : l[j]? = some b) : R a b := by
  obtain ⟨h1, rfl⟩ := List.getElem?_eq_some_iff.1 hi
  obtain ⟨h2, rfl⟩ := List.getElem?_eq_some_iff.1 hj
  exact List.pairwise_iff_getElem.1 h i j h1 h2 hij
theorem pw_ne {α β : Type} {f : α → β} {l : List α} (h : l.Pairwise (fun a b => f a ≠ f b)) {i j : Nat} {a b : α} (hij : i ≠ j) (hi : l[i]? = some a) (hj : l[j]? = some b) : f a ≠ f b := by
  rcases Nat.lt_or_gt_of_ne hij with h1 | h1
  · exact pw_get h h1 hi hj
  · exact fun e => pw_get h h1 hj hi e.symm
/-- A step. -/
theorem Rg.next {W : World} {m r : Nat} {l : Ents} {seen : Int × Int → Bool} {cnt : Nat} (h : Rg W m r l seen cnt) (ty : TypeId) :
    ((∀ p ∈ l, seen p.1 = true) ∧ (Instr.next (.pointer (some ⟨r, 0, none⟩)) false ty).run Try.prog W = .ok (.tuple #[.bool false]) W) ∨
    ∃ p ∈ l, seen p.1 = false ∧ ∃ W' cnt', (Instr.next (.pointer (some ⟨r, 0, none⟩)) false ty).run Try.prog W = .ok (.tuple #[.bool true, keyV p.1, p.2.val]) W' ∧ Rg W' m r l (fun k => seen k || decide (k = p.1)) cnt' ∧ cnt' < cnt ∧ Fr (fun k => k = r) W W' ∧
      (Instr.entry (.pointer (some ⟨r, 0, none⟩))).run Try.prog W' = .ok (.tuple #[keyV p.1, p.2.val]) W' := by
  obtain ⟨es, clock, since, sn, c0, hb, he, hc, hp, hr, hold, hsc, hsk, hcnt, hs, ha⟩ := h
  have hne : r ≠ m := fun e => by rw [e, hb] at hr; cases hr
  have hnd : (es.toList.map (·.born)).Nodup := List.pairwise_map.2 hp
  rcases run_next_at (P := Try.prog) W ty r m since c0 sn es clock hr hb hold hsc with ⟨h0, hrun⟩ | ⟨e, hel, w1, hal, hrun⟩
  · refine Or.inl ⟨fun p hpl => ?_, hrun⟩
    obtain ⟨i, hi⟩ := List.getElem?_of_mem hpl
    have hil : i < es.toList.length := by
      have := congrArg List.length he
      rw [List.length_map, List.length_map] at this
      have := (List.getElem?_eq_some_iff.1 hi).1
      omega
    have h1 := hs i _ p (List.getElem?_eq_getElem hil) hi
    rw [← h1]
    exact all_seen es sn h0 _ (List.getElem_mem _)
  · obtain ⟨hem, hes⟩ := mem_left hel
    obtain ⟨j, hj⟩ := List.getElem?_of_mem hem
    obtain ⟨p, hpj, hk, hv⟩ := get_both he j e hj
    have hr1 : w1.heap[r]? = some (.mapIter (some m) since sn c0) := by rcases hal with rfl | rfl <;> exact hr
    have hb1 : w1.heap[m]? = some (.map es clock) := by rcases hal with rfl | rfl <;> exact hb
    have hset := MapKept.heap_set (o' := .mapIter (some m) since (sn.push e.born) clock) hr1
    have hb' : (ChangeMaps.setBlock w1 r (.mapIter (some m) since (sn.push e.born) clock)).heap[m]? = some (.map es clock) := (hset.2 m (fun e1 => hne e1.symm)).trans hb1
    refine Or.inr ⟨p, List.mem_of_getElem? hpj, by rw [← hs j e p hj hpj]; exact hes, _, _, by rw [← hk, ← hv]; exact hrun, ⟨es, clock, since, sn.push e.born, clock, hb', he, hc, hp, hset.1, hold, hsk, hsk, rfl, ?_, ha⟩, by rw [← hcnt]; exact left_shrinks es sn e hel, ?_, ?_⟩
    · intro i x q hi hq
      rw [contains_push, hs i x q hi hq]
      congr 1
      by_cases hij : i = j
      · subst hij
        rw [hj] at hi
        rw [hpj] at hq
        cases hi
        cases hq
        simp
      · have h1 := pw_ne (f := fun x : MapEntry => x.born) hp hij hi hj
        have h2 := pw_ne (f := fun x : (Int × Int) × Bat => x.1) ha hij hq hpj
        simp [h1, h2]
    · rcases hal with rfl | rfl <;> exact ⟨rfl, rfl, rfl, by simp [ChangeMaps.setBlock], fun i _ hi => hset.2 i hi⟩
    · rw [← hk, ← hv]
      exact run_entry_at _ r m since sn es clock e hset.1 hb' hem hnd
theorem fnd_mem : ∀ (l : Ents) (k : Int × Int) (i : Nat) (x : Bat), (k, x) ∈ l → ∃ j y, fnd l k i = some (j, y)
  | [], _, _, _, h => by cases h
  | p :: t, k, i, x, h => by
    rw [fnd]
    by_cases hk : p.1 = k
    · rw [if_pos hk]; exact ⟨_, _, rfl⟩
    · rw [if_neg hk]
      rcases List.mem_cons.1 h with h | h
      · rw [← h] at hk; exact absurd rfl hk
      · exact fnd_mem t k (i + 1) x h
theorem erase_filter : ∀ (l : Ents), l.Pairwise (fun a b => a.1 ≠ b.1) → ∀ (j : Nat) (k : Int × Int) (x : Bat), l[j]? = some (k, x) → l.eraseIdx j = l.filter (fun p => decide (p.1 ≠ k))
  | [], _, j, k, x, h => by cases h
  | p :: t, ha, 0, k, x, h => by
    obtain ⟨h1, h2⟩ := List.pairwise_cons.1 ha
    simp only [List.getElem?_cons_zero, Option.some.injEq] at h
    subst h
    rw [List.eraseIdx_cons_zero, List.filter_cons_of_neg (by simp), List.filter_eq_self.2 (fun q hq => by simpa using (h1 q hq).symm)]
  | p :: t, ha, j + 1, k, x, h => by
    obtain ⟨h1, h2⟩ := List.pairwise_cons.1 ha
    rw [List.getElem?_cons_succ] at h
    have h3 := h1 _ (List.mem_of_getElem? h)
    rw [List.eraseIdx_cons_succ, List.filter_cons_of_pos (by simpa using h3), erase_filter t h2 j k x h]
theorem erase_le (es : Array MapEntry) (j : Nat) (sn : Array Nat) : (leftOf (es.eraseIdxIfInBounds j) sn).size ≤ (leftOf es sn).size := by
  have e1 : ∀ a : Array MapEntry, (leftOf a sn).size = (a.toList.filter fun e => !sn.contains e.born).length := fun a => by
    unfold leftOf
    rw [← Array.toList_filter, Array.length_toList]
  rw [e1, e1]
  refine (List.Sublist.filter _ ?_).length_le
  unfold Array.eraseIdxIfInBounds
  split
  · simp only [Array.toList_eraseIdx]; exact List.eraseIdx_sublist _ _
  · exact List.Sublist.refl _
/-- 'delete(m, k)' in a round. -/
theorem Rg.drop {W : World} {m r : Nat} {l : Ents} {seen : Int × Int → Bool} {cnt : Nat} (h : Rg W m r l seen cnt) (a b : Int) (x : Bat) (hx : ((a, b), x) ∈ l) (ty : TypeId) :
    ∃ W' cnt', (Builtin.delete_ #[54, 30] ty #[.map (some m), .agg #[.int .i64 a, .int .i64 b]]).run Try.prog W = .ok (.tuple #[]) W' ∧ Rg W' m r (l.filter (fun p => decide (p.1 ≠ (a, b)))) seen cnt' ∧ cnt' ≤ cnt ∧ Fr (fun k => k = m) W W' := by
  obtain ⟨es, clock, since, sn, c0, hb, he, hc, hp, hr, hold, hsc, hsk, hcnt, hs, ha⟩ := h
  have hne : r ≠ m := fun e => by rw [e, hb] at hr; cases hr
  obtain ⟨j, y, hf⟩ := fnd_mem l (a, b) 0 x hx
  have h2 := run_find W (a, b) es.toList l he
  rw [hf] at h2
  have hj := (fnd_some l (a, b) 0 j y hf).2
  rw [Nat.sub_zero] at hj
  have hjs : j < es.size := by
    have := congrArg List.length he
    rw [List.length_map, List.length_map, Array.length_toList] at this
    have := (List.getElem?_eq_some_iff.1 hj).1
    omega
  have hsub : (es.eraseIdxIfInBounds j).toList = es.toList.eraseIdx j := by
    unfold Array.eraseIdxIfInBounds
    rw [dif_pos hjs]
    simp
  have hset := MapKept.heap_set (w := W) (o' := .map (es.eraseIdxIfInBounds j) clock) hb
  have hmem : ∀ e ∈ (es.eraseIdxIfInBounds j).toList, e ∈ es.toList := fun e he' => by
    rw [hsub] at he'
    exact (List.eraseIdx_sublist _ _).subset he'
  refine ⟨ChangeMaps.setBlock W m (.map (es.eraseIdxIfInBounds j) clock), _, ?_, ⟨es.eraseIdxIfInBounds j, clock, since, sn, c0, hset.1, ?_, fun e he' => hc e (hmem e he'), ?_, (hset.2 r hne).trans hr, fun e he' => hold e (hmem e he'), hsc, hsk, rfl, ?_, ?_⟩, by rw [← hcnt]; exact erase_le es j sn, ?_⟩
  · show (Builtin.delete_ #[54, 30] ty #[.map (some m), keyV (a, b)]).run Try.prog W = _
    simp only [Builtin.delete_, List.getElem?_toArray, List.getElem?_cons_zero, List.getElem?_cons_succ, Sem.run_bind, run_underlying Try.underlying54, MapKept.run_getObj_map hb, checkId, h2, Result.andThen_ok, Option.map_some]
    rw [MapKept.run_setObj_map _ hb]
    rfl
  · rw [hsub, ← erase_filter l ha j (a, b) y hj, ChangeMaps.map_eraseIdx, ChangeMaps.map_eraseIdx, he]
  · rw [hsub]; exact hp.sublist (List.eraseIdx_sublist _ _)
  · intro i e p hi hq
    rw [hsub, List.getElem?_eraseIdx] at hi
    rw [← erase_filter l ha j (a, b) y hj, List.getElem?_eraseIdx] at hq
    by_cases hij : i < j
    · rw [if_pos hij] at hi hq; exact hs i e p hi hq
    · rw [if_neg hij] at hi hq; exact hs (i + 1) e p hi hq
  · exact ha.sublist List.filter_sublist
  · exact ⟨rfl, rfl, rfl, by simp [ChangeMaps.setBlock], fun i _ hi => hset.2 i hi⟩
/-- What stands behind a round, and in the end. -/
theorem cut_big {l : Ents} {seen : Int × Int → Bool} {big : (Int × Int) × Bat → Bool} {p : (Int × Int) × Bat} (ha : l.Pairwise (fun a b => a.1 ≠ b.1)) (hp : p ∈ l) (hb : big p = true) :
    (l.filter (fun q => !(seen q.1 && big q))).filter (fun q => decide (q.1 ≠ p.1)) = l.filter (fun q => !((seen q.1 || decide (q.1 = p.1)) && big q)) := by
  rw [List.filter_filter]
  refine List.filter_congr (fun q hq => ?_)
  by_cases hk : q.1 = p.1
  · obtain rfl : q = p := by
      obtain ⟨i, hi⟩ := List.getElem?_of_mem hq
      obtain ⟨j, hj⟩ := List.getElem?_of_mem hp
      by_cases hij : i = j
      · subst hij; rw [hi] at hj; exact Option.some.inj hj
      · exact absurd hk (pw_ne (f := fun x : (Int × Int) × Bat => x.1) ha hij hi hj)
    simp [hb]
  · simp [hk]
theorem cut_small {l : Ents} {seen : Int × Int → Bool} {big : (Int × Int) × Bat → Bool} {p : (Int × Int) × Bat} (ha : l.Pairwise (fun a b => a.1 ≠ b.1)) (hp : p ∈ l) (hb : big p = false) :
    l.filter (fun q => !(seen q.1 && big q)) = l.filter (fun q => !((seen q.1 || decide (q.1 = p.1)) && big q)) := by
  refine List.filter_congr (fun q hq => ?_)
  by_cases hk : q.1 = p.1
  · obtain rfl : q = p := by
      obtain ⟨i, hi⟩ := List.getElem?_of_mem hq
      obtain ⟨j, hj⟩ := List.getElem?_of_mem hp
      by_cases hij : i = j
      · subst hij; rw [hi] at hj; exact Option.some.inj hj
      · exact absurd hk (pw_ne (f := fun x : (Int × Int) × Bat => x.1) ha hij hi hj)
    simp [hb]
  · simp [hk]
theorem cut_end {l : Ents} {seen : Int × Int → Bool} {big : (Int × Int) × Bat → Bool} (h : ∀ p ∈ l.filter (fun q => !(seen q.1 && big q)), seen p.1 = true) : l.filter (fun q => !(seen q.1 && big q)) = l.filter (fun q => !big q) := by
  refine List.filter_congr (fun q hq => ?_)
  cases hs : seen q.1 with
  | true => simp
  | false =>
    have := h q (List.mem_filter.2 ⟨hq, by simp [hs]⟩)
    rw [hs] at this
    cases this
end Go.Proofs.Ytllgaikgpfionaa.SM
