/- An array of sixteen numbers, as a block. -/
import Derived.Test.YtmmoenleldcadaaHMem
import Derived.Test.YtmmoenleldcadaaPHuff
namespace Go.Proofs.Ytmmoenleldcadaa.HF
open Go.RowKit Go.Proofs.YtmmoenleldcadaaW.PrintWords Go.Proofs.YtmmoenleldcadaaW.PrintLast Go.Proofs.YtmmoenleldcadaaW.PrintMore Go.Proofs.Ytmmoenleldcadaa.HW Go.Proofs.Ytmmoenleldcadaa.MB
def arrV (f : Nat → Int) : Array Value := ((List.range 16).map (fun i => Value.int .i64 (f i))).toArray
theorem arrV_size (f : Nat → Int) : (arrV f).size = 16 := by unfold arrV; simp
theorem arrV_get (f : Nat → Int) (k : Nat) (h : k < 16) : (arrV f)[k]? = some (.int .i64 (f k)) := by
  unfold arrV
  rw [List.getElem?_toArray, List.getElem?_map, List.getElem?_range h]
  rfl
theorem arrV_one (f : Nat → Int) : ∀ q ∈ (arrV f).toList, q.oneCell' = true := by
  intro q hq
  unfold arrV at hq
  rw [List.toList_toArray] at hq
  obtain ⟨i, _, rfl⟩ := List.mem_map.1 hq
  rfl
theorem arrV_congr {f f' : Nat → Int} (h : ∀ k, k < 16 → f k = f' k) : arrV f = arrV f' := by
  unfold arrV
  congr 1
  refine List.map_congr_left (fun i hi => ?_)
  rw [h i (List.mem_range.1 hi)]
theorem arrV_zero : arrV (fun _ => 0) = #[.int .i64 0, .int .i64 0, .int .i64 0, .int .i64 0, .int .i64 0, .int .i64 0, .int .i64 0, .int .i64 0, .int .i64 0, .int .i64 0, .int .i64 0, .int .i64 0, .int .i64 0, .int .i64 0, .int .i64 0, .int .i64 0] := rfl
def upd (f : Nat → Int) (k : Nat) (v : Int) : Nat → Int := fun i => if i = k then v else f i
theorem arrV_set (f : Nat → Int) (k : Nat) (v : Int) : (arrV f).setIfInBounds k (.int .i64 v) = arrV (upd f k v) := by
  refine Array.ext_getElem? fun i => ?_
  rw [Array.getElem?_setIfInBounds, arrV_size]
  by_cases hi : i < 16
  · rw [arrV_get f i hi, arrV_get (upd f k v) i hi]
    by_cases hk : k = i
    · subst hk; rw [if_pos rfl, if_pos hi]; unfold upd; rw [if_pos rfl]
    · rw [if_neg hk]; unfold upd; rw [if_neg (fun e => hk e.symm)]
  · rw [Array.getElem?_eq_none (by rw [arrV_size]; omega), Array.getElem?_eq_none (by rw [arrV_size]; omega)]
    split
    · split
      · omega
      · rfl
    · rfl
/-- Block g is an array. -/
def IsArr (W : World) (g : Nat) (f : Nat → Int) : Prop := W.heap[g]? = some (.cells (arrV f) 50 (0, 0))
theorem IsArr.cell {W : World} {g : Nat} {f : Nat → Int} (h : IsArr W g f) (k : Nat) (hk : k < 16) : W.cell? ⟨g, k, none⟩ = some (.int .i64 (f k)) := (blk_cell h k).trans (arrV_get f k hk)
theorem IsArr.frozen {W : World} {g : Nat} {f : Nat → Int} (h : IsArr W g f) (k : Nat) : W.frozen? ⟨g, k, none⟩ = false := blk_frozen h k
theorem IsArr.set {W : World} {g : Nat} {f : Nat → Int} (h : IsArr W g f) (k : Nat) (v : Int) : IsArr (W.setCell ⟨g, k, none⟩ (.int .i64 v)) g (upd f k v) := by
  unfold IsArr
  rw [blk_set h k, arrV_set]
theorem IsArr.below {W W' : World} {g : Nat} {f : Nat → Int} (h : IsArr W g f) (hb : Below W.heap.size W W') : IsArr W' g f := (hb.block _ (blk_lt h)).trans h
theorem IsArr.keep {S : Nat → Prop} {W W' : World} {g : Nat} {f : Nat → Int} (h : IsArr W g f) (hf : Fr S W W') (hn : ¬ S g) : IsArr W' g f := hf.blk h hn
theorem IsArr.congr {W : World} {g : Nat} {f f' : Nat → Int} (h : IsArr W g f) (e : ∀ k, k < 16 → f k = f' k) : IsArr W g f' := by unfold IsArr at h ⊢; rw [← arrV_congr e]; exact h
theorem IsArr.new (w : World) : IsArr (w.alloc (.cells #[.int .i64 0, .int .i64 0, .int .i64 0, .int .i64 0, .int .i64 0, .int .i64 0, .int .i64 0, .int .i64 0, .int .i64 0, .int .i64 0, .int .i64 0, .int .i64 0, .int .i64 0, .int .i64 0, .int .i64 0, .int .i64 0] 50)) w.heap.size (fun _ => 0) := by
  unfold IsArr
  rw [arrV_zero]
  exact heap_alloc_new w _
end Go.Proofs.Ytmmoenleldcadaa.HF
