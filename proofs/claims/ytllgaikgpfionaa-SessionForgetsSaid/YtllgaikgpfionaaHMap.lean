/- A map from ids to batches. -/
import Derived.Test.YtllgaikgpfionaaFnx0
import Derived.Maps.OwnSet
import Derived.Laws.Entries
namespace Go.Proofs.Ytllgaikgpfionaa.SM
open Go.RowKit Go.Proofs.YtllgaikgpfionaaW.PrintWords Go.Proofs.YtllgaikgpfionaaW.PrintLast Go.Proofs.YtllgaikgpfionaaW.PrintMore
structure Bat where
  base : Int
  count : Int
  view : Int
  prod : Int
  seq : Int
def Bat.val (b : Bat) : Value := .agg #[.int .i64 b.base, .int .i64 b.count, .int .i64 b.view, .int .i64 b.prod, .int .i64 b.seq, .slice none 0 0]
def Bat.zero : Bat := ⟨0, 0, 0, 0, 0⟩
def keyV (k : Int × Int) : Value := .agg #[.int .i64 k.1, .int .i64 k.2]
theorem zero33 (w : World) : (zeroValue 33).run Try.prog w = .ok Bat.zero.val w := by kernel_rfl
theorem part0 (w : World) (a b : Value) : (part 3 #[a, b] 0).run Try.prog w = .ok a w := by kernel_rfl
theorem part1 (w : World) (a b : Value) : (part 3 #[a, b] 1).run Try.prog w = .ok b w := by kernel_rfl
theorem eqInt (w : World) (d : Nat) (a b : Int) : (Op.equalIn (d + 1) 3 (.int .i64 a) (.int .i64 b)).run Try.prog w = .ok (a == b) w := run_equalIn_int w d 3 .i64 .i64 a b Try.underlying3
theorem eqId (w : World) (d : Nat) (k j : Int × Int) : (Op.equalIn (d + 2) 30 (keyV k) (keyV j)).run Try.prog w = .ok ((k.1 == j.1) && (k.2 == j.2)) w :=
  eqA_of (d := d + 1) Try.underlying30 (by kernel_rfl) (eqf_cons rfl (part0 w _ _) (part0 w _ _) (eqInt w d _ _) (eqf_last rfl (part1 w _ _) (part1 w _ _) (eqInt w d _ _)))
theorem eqId' (w : World) (k j : Int × Int) : (Op.equal 30 (keyV k) (keyV j)).run Try.prog w = .ok ((k.1 == j.1) && (k.2 == j.2)) w := eqId w 9998 k j
theorem checkId (w : World) (e : Bool) (k : Int × Int) : (Instr.checkKey e 10000 30 (keyV k)).run Try.prog w = .ok () w := by kernel_rfl
/-- Where a key stands. -/
def fnd : List ((Int × Int) × Bat) → Int × Int → Nat → Option (Nat × Bat)
  | [], _, _ => none
  | p :: t, k, i => if p.1 = k then some (i, p.2) else fnd t k (i + 1)
theorem key_beq (k j : Int × Int) : ((k.1 == j.1) && (k.2 == j.2)) = decide (j = k) := by
  rw [Bool.eq_iff_iff, Bool.and_eq_true, beq_iff_eq, beq_iff_eq, decide_eq_true_iff, Prod.ext_iff]
  exact ⟨fun h => ⟨h.1.symm, h.2.symm⟩, fun h => ⟨h.1.symm, h.2.symm⟩⟩
theorem run_asking (w : World) (k : Int × Int) : ∀ (es : List MapEntry) (l : List ((Int × Int) × Bat)) (i : Nat), es.map (fun e => (e.key, e.val)) = l.map (fun p => (keyV p.1, p.2.val)) →
    (Instr.findAsking 30 (keyV k) es i).run Try.prog w = .ok ((fnd l k i).map (fun x => (x.1, x.2.val))) w
  | [], l, i, h => by
    cases l with
    | nil => rfl
    | cons p t => simp at h
  | e :: es, l, i, h => by
    cases l with
    | nil => simp at h
    | cons p t =>
      simp only [List.map_cons, List.cons.injEq, Prod.mk.injEq] at h
      obtain ⟨⟨h1, h2⟩, h3⟩ := h
      rw [Instr.findAsking, h1, Sem.run_bind, eqId', key_beq, fnd]
      simp only [Result.andThen_ok]
      by_cases hk : p.1 = k
      · rw [if_pos hk, h2]; simp [hk]
      · rw [if_neg hk]; simp only [hk, decide_false, Bool.false_eq_true, if_false]; exact run_asking w k es t (i + 1) h3
theorem run_find (w : World) (k : Int × Int) (es : List MapEntry) (l : List ((Int × Int) × Bat)) (h : es.map (fun e => (e.key, e.val)) = l.map (fun p => (keyV p.1, p.2.val))) :
    (Instr.findKey 30 (keyV k) es).run Try.prog w = .ok ((fnd l k 0).map (fun x => (x.1, x.2.val))) w := by
  unfold Instr.findKey
  rw [Sem.run_bind, run_underlying Try.underlying30]
  simp only [Result.andThen_ok]
  cases es with
  | nil =>
    cases l with
    | nil => rfl
    | cons p t => simp at h
  | cons e es =>
    have : Instr.findNow (TypeDesc.struct #[{ name := "Producer", type := 3, offset := 0, embedded := false, tag := "", pkgPath := "", byteOffset := 0 }, { name := "Seq", type := 3, offset := 1, embedded := false, tag := "", pkgPath := "", byteOffset := 8 }]) (keyV k) (e :: es) 0 = none := rfl
    rw [this]
    exact run_asking w k (e :: es) l 0 h
/-- Block m is a map of these entries. -/
def MapIs (W : World) (m : Nat) (l : List ((Int × Int) × Bat)) : Prop :=
  ∃ es clock, W.heap[m]? = some (.map es clock) ∧ es.toList.map (fun e => (e.key, e.val)) = l.map (fun p => (keyV p.1, p.2.val)) ∧ (∀ e ∈ es.toList, e.born < clock) ∧ es.toList.Pairwise (fun a b => a.born ≠ b.born)
theorem MapIs.lt {W : World} {m : Nat} {l : List ((Int × Int) × Bat)} (h : MapIs W m l) : m < W.heap.size := by
  obtain ⟨es, c, hb, _⟩ := h
  exact blk_lt hb
theorem MapIs.move {W W' : World} {m : Nat} {l : List ((Int × Int) × Bat)} (h : MapIs W m l) (hm : W'.heap[m]? = W.heap[m]?) : MapIs W' m l := by
  obtain ⟨es, c, hb, r⟩ := h
  exact ⟨es, c, hm.trans hb, r⟩
theorem mapIs_new (w : World) : MapIs (w.alloc (.map #[] 0)) w.heap.size [] := ⟨#[], 0, Array.getElem?_push_size, rfl, fun e h => by simp at h, List.Pairwise.nil⟩
/-- What a key has. -/
def look (l : List ((Int × Int) × Bat)) (k : Int × Int) : Option Bat := (fnd l k 0).map (·.2)
theorem fnd_some : ∀ (l : List ((Int × Int) × Bat)) (k : Int × Int) (i j : Nat) (b : Bat), fnd l k i = some (j, b) → i ≤ j ∧ l[j - i]? = some (k, b)
  | [], k, i, j, b, h => by simp [fnd] at h
  | p :: t, k, i, j, b, h => by
    rw [fnd] at h
    by_cases hk : p.1 = k
    · rw [if_pos hk] at h
      simp only [Option.some.injEq, Prod.mk.injEq] at h
      obtain ⟨rfl, rfl⟩ := h
      rw [Nat.sub_self]
      exact ⟨Nat.le_refl _, by simp [← hk]⟩
    · rw [if_neg hk] at h
      obtain ⟨h1, h2⟩ := fnd_some t k (i + 1) j b h
      exact ⟨by omega, by rw [show j - i = (j - (i + 1)) + 1 from by omega, List.getElem?_cons_succ]; exact h2⟩
theorem fnd_shift : ∀ (l : List ((Int × Int) × Bat)) (k : Int × Int) (i : Nat), (fnd l k i).map (·.2) = (fnd l k 0).map (·.2)
  | [], _, _ => rfl
  | p :: t, k, i => by
    rw [fnd, fnd]
    by_cases hk : p.1 = k
    · rw [if_pos hk, if_pos hk]; rfl
    · rw [if_neg hk, if_neg hk, fnd_shift t k (i + 1), fnd_shift t k (0 + 1)]
theorem look_nil (k : Int × Int) : look [] k = none := rfl
theorem look_cons (p : (Int × Int) × Bat) (t : List ((Int × Int) × Bat)) (k : Int × Int) : look (p :: t) k = if p.1 = k then some p.2 else look t k := by
  unfold look
  rw [fnd]
  by_cases hk : p.1 = k
  · rw [if_pos hk, if_pos hk]; rfl
  · rw [if_neg hk, if_neg hk, fnd_shift]
theorem look_app : ∀ (l : List ((Int × Int) × Bat)) (k j : Int × Int) (b : Bat), look (l ++ [(k, b)]) j = (look l j).or (if k = j then some b else none)
  | [], k, j, b => by rw [List.nil_append, look_cons, look_nil]; rfl
  | p :: t, k, j, b => by
    rw [List.cons_append, look_cons, look_cons, look_app t k j b]
    by_cases hk : p.1 = j
    · rw [if_pos hk, if_pos hk]; rfl
    · rw [if_neg hk, if_neg hk]
theorem run_lookup_ok {W : World} {m : Nat} {l : List ((Int × Int) × Bat)} (h : MapIs W m l) (a b : Int) : (Instr.lookup 54 (.map (some m)) (.agg #[.int .i64 a, .int .i64 b]) true).run Try.prog W = .ok (match look l (a, b) with | some x => .tuple #[x.val, .bool true] | none => .tuple #[Bat.zero.val, .bool false]) W := by
  obtain ⟨es, c, hb, he, _⟩ := h
  have h2 := run_find W (a, b) es.toList l he
  show (Instr.lookup 54 (.map (some m)) (keyV (a, b)) true).run Try.prog W = _
  unfold look
  cases hf : fnd l (a, b) 0 with
  | none =>
    rw [hf] at h2
    simp only [Instr.lookup, Sem.run_bind, run_underlying Try.underlying54, MapKept.run_getObj_map hb, checkId, h2, zero33, Result.andThen_ok, Option.map_none, Sem.run_pure]
    rfl
  | some x =>
    rw [hf] at h2
    simp only [Instr.lookup, Sem.run_bind, run_underlying Try.underlying54, MapKept.run_getObj_map hb, checkId, h2, Result.andThen_ok, Option.map_some, Sem.run_pure]
    rfl
theorem run_lookup_pr {W : World} {m : Nat} {l : List ((Int × Int) × Bat)} (h : MapIs W m l) (a b : Int) : (Instr.lookup 54 (.map (some m)) (.agg #[.int .i64 a, .int .i64 b]) true).run Try.prog W = .ok (.tuple #[((look l (a, b)).getD Bat.zero).val, .bool (look l (a, b)).isSome]) W := by
  rw [run_lookup_ok h]
  cases look l (a, b) <;> rfl
theorem run_lookup {W : World} {m : Nat} {l : List ((Int × Int) × Bat)} (h : MapIs W m l) (a b : Int) : (Instr.lookup 54 (.map (some m)) (.agg #[.int .i64 a, .int .i64 b]) false).run Try.prog W = .ok ((look l (a, b)).getD Bat.zero).val W := by
  obtain ⟨es, c, hb, he, _⟩ := h
  have h2 := run_find W (a, b) es.toList l he
  show (Instr.lookup 54 (.map (some m)) (keyV (a, b)) false).run Try.prog W = _
  unfold look
  cases hf : fnd l (a, b) 0 with
  | none =>
    rw [hf] at h2
    simp only [Instr.lookup, Sem.run_bind, run_underlying Try.underlying54, MapKept.run_getObj_map hb, checkId, h2, zero33, Result.andThen_ok, Option.map_none, Sem.run_pure]
    rfl
  | some x =>
    rw [hf] at h2
    simp only [Instr.lookup, Sem.run_bind, run_underlying Try.underlying54, MapKept.run_getObj_map hb, checkId, h2, Result.andThen_ok, Option.map_some, Sem.run_pure]
    rfl
/-- A new key is put. -/
theorem run_put {W : World} {m : Nat} {l : List ((Int × Int) × Bat)} (h : MapIs W m l) (a b : Int) (x : Bat) (hn : look l (a, b) = none) : ∃ W', (Instr.mapUpdate 54 (.map (some m)) (.agg #[.int .i64 a, .int .i64 b]) x.val).run Try.prog W = .ok () W' ∧ MapIs W' m (l ++ [((a, b), x)]) ∧ W.grownBy W' (some m) := by
  obtain ⟨es, c, hb, he, hc, hp⟩ := h
  have h2 := run_find W (a, b) es.toList l he
  have hf : fnd l (a, b) 0 = none := by
    unfold look at hn
    cases hf : fnd l (a, b) 0 with
    | none => rfl
    | some x => rw [hf] at hn; simp at hn
  rw [hf] at h2
  refine ⟨ChangeMaps.setBlock W m (.map (es.push { key := keyV (a, b), val := x.val, born := c }) (c + 1)), ?_, ?_, ?_⟩
  · show (Instr.mapUpdate 54 (.map (some m)) (keyV (a, b)) x.val).run Try.prog W = _
    simp only [Instr.mapUpdate, Sem.run_bind, run_underlying Try.underlying54, MapKept.run_getObj_map hb, checkId, h2, Result.andThen_ok, Option.map_none]
    rw [MapKept.run_setObj_map _ hb]
    rfl
  · refine ⟨es.push { key := keyV (a, b), val := x.val, born := c }, c + 1, ?_, ?_, ?_, ?_⟩
    · simp [ChangeMaps.setBlock, blk_lt hb]
    · rw [Array.toList_push, List.map_append, he, List.map_append]; rfl
    · intro e he'
      rw [Array.toList_push] at he'
      rcases List.mem_append.1 he' with h | h
      · exact Nat.lt_succ_of_lt (hc e h)
      · rw [List.mem_singleton.1 h]; exact Nat.lt_succ_self _
    · rw [Array.toList_push]
      refine List.pairwise_append.2 ⟨hp, List.pairwise_singleton _ _, fun u hu v hv => ?_⟩
      rw [List.mem_singleton.1 hv]
      exact Nat.ne_of_lt (hc u hu)
  · refine ⟨rfl, rfl, rfl, by simp [ChangeMaps.setBlock], fun i hi hne => ?_⟩
    have hne' : ¬ m = i := fun e => hne (by rw [e])
    simp [ChangeMaps.setBlock, hne']
end Go.Proofs.Ytllgaikgpfionaa.SM
