/- slices.DeleteFunc over waiters: walked. -/
import Derived.Test.YtllgaikgpfionaaHDel
import Derived.Lib.SliceRun
import Derived.Deep.DeepMust
import Derived.Laws.IdiomCopy
namespace Go.Proofs.Ytllgaikgpfionaa.SM
open Go.RowKit Go.Proofs.YtllgaikgpfionaaW.PrintWords Go.Proofs.YtllgaikgpfionaaW.PrintLast Go.Proofs.YtllgaikgpfionaaW.PrintMore Go.Proofs.Ytllgaikgpfionaa.HW Go.Proofs.Ytllgaikgpfionaa.MB
attribute [local go_sem] max2_int min2_int max_two min_two max_three min_three max_four min_four   -- for this text's walks alone
/-- Cells behind the first m elements are written: the first m stand. -/
theorem R_tail {α : Type} {d : Kd α} {e g n c m o : Nat} {w : World} {base : Nat} {ok : Nat → Prop} {xs : List α} (h : d.R e w base ok (.slice (some ⟨g, 0, none⟩) n c) xs) (hm : m ≤ xs.length) (seg : List Value) (ho : m * d.sz ≤ o) :
    d.R e (w.setCells g o seg) base ok (.slice (some ⟨g, 0, none⟩) m c) (xs.take m) := by
  obtain ⟨h0, inner, ⟨hl, hown⟩, hr⟩ := Kd.R_take h hm
  have hml : (xs.take m).length = m := by rw [List.length_take]; omega
  rcases hown with ⟨hv, _⟩ | ⟨g', cap', cur, hv, hb, hh, hnc, hcm, hcs, hcur⟩
  · cases hv
  injection hv with ha _ hc
  injection ha with ha
  injection ha with hg'
  subst hg'; subst hc
  obtain ⟨cur', h1, h2, h3⟩ := setCells_blk seg o w cur hh
  refine ⟨h0, inner, ⟨hl, .inr ⟨g, c, cur', by rw [hml], hb, h1, hnc, hcm, h2.trans hcs, ?_⟩⟩, hr.imp_ (fun _ _ hp => d.M_move (fun k hk => setCells_far seg o k (fun e => hk.2 (by rw [e]; rfl))) hp)⟩
  rw [← hcur]
  refine List.ext_getElem? fun i => ?_
  rw [List.getElem?_take, List.getElem?_take]
  split
  · rename_i hi
    rw [hml] at hi
    have := h3 i
    rw [if_neg (by omega)] at this
    simpa using this
  · rfl
theorem R_first {α : Type} {d : Kd α} {e : Nat} {w : World} {base : Nat} {ok : Nat → Prop} {v : Value} {xs : List α} (h : d.R e w base ok v xs) (hn : 0 < xs.length) : ∃ g c, v = .slice (some ⟨g, 0, none⟩) xs.length c := by
  obtain ⟨_, inner, ⟨_, hown⟩, _⟩ := h
  rcases hown with ⟨_, h0⟩ | ⟨g, cap, cur, hv, _⟩
  · omega
  · exact ⟨g, cap, hv⟩
theorem R_blk {α : Type} {d : Kd α} {e g n c : Nat} {w : World} {base : Nat} {ok : Nat → Prop} {xs : List α} (h : d.R e w base ok (.slice (some ⟨g, 0, none⟩) n c) xs) : ∃ cur : Array Value, w.heap[g]? = some (.cells cur e (0, 0)) ∧ n * d.sz ≤ cur.size := by
  obtain ⟨_, inner, ⟨_, hown⟩, _⟩ := h
  rcases hown with ⟨hv, _⟩ | ⟨g', cap', cur, hv, hb, hh, hnc, hcm, hcs, hcur⟩
  · cases hv
  injection hv with ha hn hc
  injection ha with ha
  injection ha with hg'
  subst hg'; subst hc
  exact ⟨cur, hh, by rw [hcs]; exact Nat.mul_le_mul_right _ (by omega)⟩
def clrSeg (k : Nat) : List Value := (Builtin.zeroCells #[.int .i64 0, .int .i64 0, .int .i64 0] k).toList
theorem run_clear_wts {w : World} {g n c m : Nat} {base : Nat} {ok : Nat → Prop} {xs : List Wt} (h : kWt.R 62 w base ok (.slice (some ⟨g, 0, none⟩) n c) xs) (hm : m < n) (ty : TypeId) (cc : Nat) :
    (Builtin.clear_ #[55] ty #[.slice (some ⟨g, m * 3, none⟩) (n - m) cc]).run Try.prog w = .ok (.tuple #[]) (w.setCells g (m * 3) (clrSeg (n - m))) := by
  obtain ⟨cur, hb, hsz⟩ := R_blk h
  unfold clrSeg
  have hlen : (Builtin.zeroCells #[.int .i64 0, .int .i64 0, .int .i64 0] (n - m)).toList.length = (n - m) * 3 := by simp [Builtin.zeroCells]
  have hsz3 : n * 3 ≤ cur.size := hsz
  have hst := run_storeCells_cells (P := Try.prog) g (m * 3) (Builtin.zeroCells #[.int .i64 0, .int .i64 0, .int .i64 0] (n - m)).toList 0 w
    (fun j hj => by rw [hlen] at hj; rw [blk_cell hb, Array.getElem?_eq_getElem (by omega)]; rfl) (fun j hj => blk_frozen hb _)
    (fun v hv => by
      simp only [Builtin.zeroCells, Array.toList_map, List.mem_map] at hv
      obtain ⟨i, _, rfl⟩ := hv
      have hi : i % #[Value.int .i64 0, Value.int .i64 0, Value.int .i64 0].size < 3 := Nat.mod_lt _ (by decide)
      generalize i % #[Value.int .i64 0, Value.int .i64 0, Value.int .i64 0].size = j at hi
      rcases (show j = 0 ∨ j = 1 ∨ j = 2 by omega) with rfl | rfl | rfl <;> rfl)
  obtain ⟨k, hk⟩ : ∃ k, n - m = k + 1 := ⟨n - m - 1, by omega⟩
  have hz : (zeroValue 62).run Try.prog w = .ok (.agg #[.int .i64 0, .int .i64 0, .int .i64 0]) w := by kernel_rfl
  rw [hk] at hst ⊢
  simp only [Builtin.clear_, List.getElem?_toArray, List.getElem?_cons_zero, Sem.run_bind, run_underlying Try.underlying55, Result.andThen_ok, hz]
  show ((storeCells ⟨g, m * 3, none⟩ (Builtin.zeroCells #[.int .i64 0, .int .i64 0, .int .i64 0] (k + 1)).toList).run Try.prog w).andThen _ = _
  rw [hst]
  rfl
end Go.Proofs.Ytllgaikgpfionaa.SM
