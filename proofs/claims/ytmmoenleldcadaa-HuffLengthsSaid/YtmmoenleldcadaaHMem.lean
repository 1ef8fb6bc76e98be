/- A whole block is written, read. -/
import Derived.Test.YtmmoenleldcadaaHFr
namespace Go.Proofs.Ytmmoenleldcadaa.HW
open Go.RowKit Go.Proofs.YtmmoenleldcadaaW.PrintWords Go.Proofs.YtmmoenleldcadaaW.PrintLast Go.Proofs.YtmmoenleldcadaaW.PrintMore Go.Proofs.Ytmmoenleldcadaa.MB
theorem setCells_blk {e g : Nat} : ∀ (seg : List Value) (o : Nat) (w : World) (cur : Array Value), w.heap[g]? = some (.cells cur e (0, 0)) → ∃ cur' : Array Value, (w.setCells g o seg).heap[g]? = some (.cells cur' e (0, 0)) ∧ cur'.size = cur.size ∧ ∀ i, cur'[i]? = if o ≤ i ∧ i < o + seg.length ∧ i < cur.size then seg[i - o]? else cur[i]?
  | [], o, w, cur, h => ⟨cur, h, rfl, fun i => by rw [if_neg (by simp; omega)]⟩
  | v :: r, o, w, cur, h => by
    obtain ⟨c', h1, h2, h3⟩ := setCells_blk r (o + 1) (w.setCell ⟨g, o, none⟩ v) (cur.setIfInBounds o v) (blk_set h o v)
    refine ⟨c', h1, by rw [h2]; simp, fun i => ?_⟩
    rw [h3 i, Array.getElem?_setIfInBounds]
    have e0 : (cur.setIfInBounds o v).size = cur.size := by simp
    rw [e0]
    simp only [List.length_cons]
    by_cases h5 : o = i
    · subst h5
      rw [if_neg (by omega), if_pos rfl]
      by_cases h6 : o < cur.size
      · rw [if_pos h6, if_pos ⟨Nat.le_refl _, by omega, h6⟩]; simp
      · rw [if_neg h6, if_neg (by omega), Array.getElem?_eq_none (by omega)]
    · rw [if_neg h5]
      by_cases h4 : o + 1 ≤ i ∧ i < o + 1 + r.length ∧ i < cur.size
      · rw [if_pos h4, if_pos (by omega), show i - o = (i - (o + 1)) + 1 from by omega, List.getElem?_cons_succ]
      · rw [if_neg h4, if_neg (by omega)]
theorem setCells_all {e g : Nat} {w : World} {cur cs : Array Value} (h : w.heap[g]? = some (.cells cur e (0, 0))) (hs : cur.size = cs.size) : (w.setCells g 0 cs.toList).heap[g]? = some (.cells cs e (0, 0)) := by
  obtain ⟨c', h1, h2, h3⟩ := setCells_blk cs.toList 0 w cur h
  rw [h1]
  congr 2
  refine Array.ext_getElem? fun i => ?_
  rw [h3 i]
  by_cases hi : i < cur.size
  · rw [if_pos ⟨Nat.zero_le _, by simp; omega, hi⟩]; simp
  · rw [if_neg (by omega), Array.getElem?_eq_none (by omega), Array.getElem?_eq_none (by omega)]
theorem setCells_fr {g : Nat} (seg : List Value) (o : Nat) (w : World) : Fr (fun k => k = g) w (w.setCells g o seg) := by
  induction seg generalizing o w with
  | nil => exact Fr.refl _ _
  | cons v r ih => exact (((Fr.refl (fun k => k = g) w).setCell (p := ⟨g, o, none⟩) (Or.inl rfl) v).then_ (ih (o + 1) _) (fun k hk => Or.inl hk))
section
variable {P : Program} {ops : Array Oper} {rest : List Oper} {o : Oper} {a : Act} {Q : Exit → Act → World → Prop}
theorem store_all {W : World} (hgd : o.guard = none) {t : TypeId} {p : Tmp} {v : Operand} (ho : o.op = .store t (.tmp p) v) (hN : o.dst = none) (g : Nat) (cs cs' : Array Value) (ty : TypeId)
    (hx : a.eval (.tmp p) = .pointer (some ⟨g, 0, none⟩)) (hv : a.eval v = .agg cs') (hg : W.heap[g]? = some (.cells cs ty (0, 0))) (hs : cs.size = cs'.size) (hi : (P.info? t).map (·.size) = some cs'.size) (h1 : ∀ q ∈ cs'.toList, q.oneCell' = true)
    (h : ∀ w1, w1.heap[g]? = some (.cells cs' ty (0, 0)) → Fr (fun k => k = g) W w1 → wpList P ops Q rest a w1) : wpList P ops Q (o :: rest) a W := by
  refine store_event hgd ho hN (w1 := W.setCells g 0 cs'.toList) ?_ (fun w' hw' => by subst hw'; exact h _ (setCells_all hg hs) (setCells_fr _ _ _))
  have hr := run_store_run (P := P) (w := W) t (.agg cs') cs'.toList hg (o := 0) (by rfl) (by rw [hi]; simp) (by simp; omega) h1
  simp only [execOp, ho, hx, hv, Sem.run_bind, hr, Result.andThen_ok, Sem.run_pure]
theorem load_all {W : World} (hgd : o.guard = none) {t : TypeId} {x : Operand} (ho : o.op = .load t x) (g : Nat) (hx : a.eval x = .pointer (some ⟨g, 0, none⟩)) (ty : TypeId) (cs : Array Value) (d : TypeDesc) (hg : W.heap[g]? = some (.cells cs ty (0, 0)))
    (hu : P.underlying t = some d) (hd : (match d with | .struct _ | .array _ _ => true | _ => false) = true) (hi : (P.info? t).map (·.size) = some cs.size) (h : wpList P ops Q rest (a.put o.dst (.agg cs)) W) : wpList P ops Q (o :: rest) a W :=
  wpList_load_row hgd t x ho g hx ty cs (0, 0) d hg hu hd hi h
theorem gate_load {W : World} {t : TypeId} {x : Operand} (_ho : o.op = .load t x) (h : wpList P ops Q (o :: rest) a W) : wpList P ops Q (o :: rest) a W := h
end
end Go.Proofs.Ytmmoenleldcadaa.HW
