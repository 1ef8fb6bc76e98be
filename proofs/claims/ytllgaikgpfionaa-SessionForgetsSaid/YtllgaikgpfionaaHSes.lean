/- session.New, given, Find, Put, Waiting: walked. -/
import Derived.Test.YtllgaikgpfionaaHTab
import Derived.Test.YtllgaikgpfionaaHBytes
import Derived.Deep.RegionWith
import Derived.Deep.RegionLaw
import Derived.Deep.RegionHeld3
namespace Go.Proofs.Ytllgaikgpfionaa.SM
open Go.RowKit Go.Proofs.YtllgaikgpfionaaW.PrintWords Go.Proofs.YtllgaikgpfionaaW.PrintLast Go.Proofs.YtllgaikgpfionaaW.PrintMore Go.Proofs.Ytllgaikgpfionaa.HW Go.Proofs.Ytllgaikgpfionaa.MB
attribute [local go_sem] max2_int min2_int max_two min_two max_three min_three max_four min_four   -- for this text's walks alone
set_option maxHeartbeats 1000000 in
theorem new_ok (q : Int) (w : World) (h1 : 1 ≤ q) (h2 : q ≤ 64) : Calls Try.prog 8 #[.int .i64 q] w fun e w' => ∃ t m, e = .returned (.tuple #[.pointer (some ⟨t, 0, none⟩), .int .i64 0]) ∧ IsT w' w.heap.size t m (.slice none 0 0) ⟨q, [], 0, []⟩ ∧ Below w.heap.size w w' := by
  have hu := Try.underlying57
  have b1 : decide (q < 1) = false := by simp; omega
  have b2 : decide (64 < q) = false := by simp; omega
  have hmm := @run_makeMap Try.prog
  clear h1 h2
  go_enter Try.func8, Try.ntmps8
  go_wp2_with fail
  go_ret2
  have e1 : (w.alloc (.map #[] 0)).heap.size = w.heap.size + 1 := Array.size_push _
  have h1 := heap_alloc_new (w.alloc (.map #[] 0)) (.cells #[.int .i64 q, .map (some w.heap.size), .int .i64 0, .slice none 0 0] 57)
  rw [e1] at h1
  have hb := below_alloc (Below.refl (w.alloc (.map #[] 0)).heap.size (w.alloc (.map #[] 0))) (.cells #[.int .i64 q, .map (some w.heap.size), .int .i64 0, .slice none 0 0] 57)
  exact ⟨_, _, rfl, ⟨h1, (mapIs_new w).move (hb.block _ (mapIs_new w).lt), Nat.le_succ _, Nat.le_refl _, Kd.R_nil _ _ _ _ _⟩, below_alloc (below_alloc (Below.refl _ _) _) _⟩
set_option maxHeartbeats 1000000 in
theorem given_ok {W : World} {B t m : Nat} {v : Value} {T : Tb} (h : IsT W B t m v T) (hq : 0 < T.q) : Calls Try.prog 19 #[.pointer (some ⟨t, 0, none⟩)] W fun e w' => e = .returned (.bool true) ∧ W = w' := by
  have c0 : W.cell? ⟨t, 0, none⟩ = some (.int .i64 T.q) := (blk_cell h.bt 0).trans rfl
  obtain ⟨q, hqq⟩ : ∃ q, T.q = q := ⟨_, rfl⟩
  rw [hqq] at c0 hq
  have b1 : decide (0 < q) = true := by simpa using hq
  clear h hq hqq
  go_enter Try.func19, Try.ntmps19
  go_wp2_with fail
  go_ret
  exact ⟨rfl, rfl⟩
/-- What Find tells. -/
def findR (T : Tb) (k : Int × Int) : Bat × Int := match look T.l k with | some b => (b, 0) | none => (Bat.zero, 3)
set_option maxHeartbeats 2000000 in
theorem find_ok {W : World} {B t m : Nat} {v : Value} {T : Tb} (h : IsT W B t m v T) (hq : 0 < T.q) (a b : Int) (x : Bat) (r : Int) (hr : findR T (a, b) = (x, r)) :
    Calls Try.prog 9 #[.pointer (some ⟨t, 0, none⟩), .agg #[.int .i64 a, .int .i64 b]] W fun e w' => e = .returned (.tuple #[x.val, .int .i64 r]) ∧ Below W.heap.size W w' := by
  have hu := Try.underlying57
  have hu3 := Try.underlying30
  have hu4 := Try.underlying33
  have H := Aside0.mk h
  have HQ := Aside0.mk hq
  have HRR := Aside0.mk hr
  clear h hq hr
  go_enter Try.func9, Try.ntmps9
  go_upto_region 1 with (fail)
  have e1 : (W.alloc (.cells #[.int .i64 a, .int .i64 b] 30)).heap.size = W.heap.size + 1 := Array.size_push _
  have k0 := heap_alloc_new W (.cells #[.int .i64 a, .int .i64 b] 30)
  have hb := below_alloc (Below.refl (W.alloc (.cells #[.int .i64 a, .int .i64 b] 30)).heap.size (W.alloc (.cells #[.int .i64 a, .int .i64 b] 30))) (.cells #[.int .i64 0, .int .i64 0, .int .i64 0, .int .i64 0, .int .i64 0, .slice none 0 0] 33)
  have k0' := (hb.block _ (blk_lt k0)).trans k0
  have k1 := heap_alloc_new (W.alloc (.cells #[.int .i64 a, .int .i64 b] 30)) (.cells #[.int .i64 0, .int .i64 0, .int .i64 0, .int .i64 0, .int .i64 0, .slice none 0 0] 33)
  rw [e1] at k1
  have hB := below_alloc (below_alloc (Below.refl W.heap.size W) (.cells #[.int .i64 a, .int .i64 b] 30)) (.cells #[.int .i64 0, .int .i64 0, .int .i64 0, .int .i64 0, .int .i64 0, .slice none 0 0] 33)
  have H2 := Aside0.mk (H.out.below hB)
  have HB := Aside0.mk hB
  obtain ⟨g, hg⟩ : ∃ g, W.heap.size = g := ⟨_, rfl⟩
  rw [hg] at k0' k1
  rw [hg]
  generalize (W.alloc (.cells #[.int .i64 a, .int .i64 b] 30)).alloc (.cells #[.int .i64 0, .int .i64 0, .int .i64 0, .int .i64 0, .int .i64 0, .slice none 0 0] 33) = w1 at H2 HB k0' k1 ⊢
  have HG := Aside0.mk hg
  have K0 := Aside0.mk k0'
  have K1 := Aside0.mk k1
  clear k0 k0' k1 hb hB e1 hg
  go_wp2_with fail
  refine (given_ok H2.out HQ.out).mono ?_
  rintro e w2 ⟨rfl, rfl⟩
  have c1 : w1.cell? ⟨t, 1, none⟩ = some (.map (some m)) := (blk_cell H2.out.bt 1).trans rfl
  have i0 : w1.cell? ⟨g, 0, none⟩ = some (.int .i64 a) := (blk_cell K0.out 0).trans rfl
  have i1 : w1.cell? ⟨g, 1, none⟩ = some (.int .i64 b) := (blk_cell K0.out 1).trans rfl
  have hM := H2.out.bm
  have l0 := run_lookup_ok (hM.move (W' := w1.drew) rfl) a b
  have hM2 : MapIs (w1.alloc (.cells #[.int .i64 0, .int .i64 0, .int .i64 0, .int .i64 0, .int .i64 0, .slice none 0 0] 33)) m T.l := hM.move ((below_alloc (Below.refl _ _) _).block _ hM.lt)
  have l1 := run_lookup_ok (hM2.move (W' := (w1.alloc (.cells #[.int .i64 0, .int .i64 0, .int .i64 0, .int .i64 0, .int .i64 0, .slice none 0 0] 33)).drew) rfl) a b
  have hbz := below_alloc (Below.refl w1.heap.size w1) (.cells #[.int .i64 0, .int .i64 0, .int .i64 0, .int .i64 0, .int .i64 0, .slice none 0 0] 33)
  have c1a : (w1.alloc (.cells #[.int .i64 0, .int .i64 0, .int .i64 0, .int .i64 0, .int .i64 0, .slice none 0 0] 33)).cell? ⟨t, 1, none⟩ = some (.map (some m)) := (blk_cell ((hbz.block _ (blk_lt H2.out.bt)).trans H2.out.bt) 1).trans rfl
  have i0a : (w1.alloc (.cells #[.int .i64 0, .int .i64 0, .int .i64 0, .int .i64 0, .int .i64 0, .slice none 0 0] 33)).cell? ⟨g, 0, none⟩ = some (.int .i64 a) := (blk_cell ((hbz.block _ (blk_lt K0.out)).trans K0.out) 0).trans rfl
  have i1a : (w1.alloc (.cells #[.int .i64 0, .int .i64 0, .int .i64 0, .int .i64 0, .int .i64 0, .slice none 0 0] 33)).cell? ⟨g, 1, none⟩ = some (.int .i64 b) := (blk_cell ((hbz.block _ (blk_lt K0.out)).trans K0.out) 1).trans rfl
  have hrr := HRR.out
  unfold findR at hrr
  clear hM hM2 hbz
  cases hl : look T.l (a, b) with
  | none =>
    rw [hl] at hrr l0 l1
    obtain ⟨rfl, rfl⟩ := Prod.mk.inj hrr
    unfold Bat.val Bat.zero at l0 l1
    simp only at l0 l1
    clear hl hrr
    go_upto_region 3 with (fail)
    go_region
    all_goals
      have hb := below_alloc (Below.refl w1.heap.size w1) (.cells #[.int .i64 0, .int .i64 0, .int .i64 0, .int .i64 0, .int .i64 0, .slice none 0 0] 33)
      have k5 := heap_alloc_new w1 (.cells #[.int .i64 0, .int .i64 0, .int .i64 0, .int .i64 0, .int .i64 0, .slice none 0 0] 33)
      have K5 : ((w1.alloc (.cells #[.int .i64 0, .int .i64 0, .int .i64 0, .int .i64 0, .int .i64 0, .slice none 0 0] 33)).drew).heap[w1.heap.size]? = some (.cells #[.int .i64 0, .int .i64 0, .int .i64 0, .int .i64 0, .int .i64 0, .slice none 0 0] 33 (0, 0)) := k5
      have hg1 : g + 1 < w1.heap.size := blk_lt K1.out
      replace K1 := Aside0.mk (show ((w1.alloc (.cells #[.int .i64 0, .int .i64 0, .int .i64 0, .int .i64 0, .int .i64 0, .slice none 0 0] 33)).drew).heap[g + 1]? = _ from (hb.block _ (blk_lt K1.out)).trans K1.out)
      replace HB := Aside0.mk (below_drew (HB.out.trans (hb.mono (by have := HB.out.size; omega))))
      clear hb k5 l0 l1 c1 i0 i1 c1a i0a i1a
      obtain ⟨q, hq⟩ : ∃ q, w1.heap.size = q := ⟨_, rfl⟩
      rw [hq] at K5 hg1
      rw [hq]
      generalize (w1.alloc (.cells #[.int .i64 0, .int .i64 0, .int .i64 0, .int .i64 0, .int .i64 0, .slice none 0 0] 33)).drew = w3 at K5 K1 HB ⊢
      go_wp2_with ((with_reducible refine gate_store (t := 33) (p := 4) (v := .tmp 23) rfl ?_); refine store_all rfl rfl rfl (g + 1) #[.int .i64 0, .int .i64 0, .int .i64 0, .int .i64 0, .int .i64 0, .slice none 0 0] #[.int .i64 0, .int .i64 0, .int .i64 0, .int .i64 0, .int .i64 0, .slice none 0 0] 33 (by rfl) (by rfl) K1.out rfl (by kernel_rfl) (by decide) ?_; intro w9 hr1 hf6; have HR1 := Aside0.mk hr1; have HF6 := Aside0.mk hf6; clear hr1 hf6)
      refine bodyPost_ret (results_ct rfl _ _ (g + 1) 33 #[.int .i64 0, .int .i64 0, .int .i64 0, .int .i64 0, .int .i64 0, .slice none 0 0] (0, 0) _ rfl HR1.out Try.underlying33 rfl (by kernel_rfl)) rfl ?_
      exact ⟨rfl, HB.out.trans (HF6.out.below (by have := HB.out.size; omega) (fun k hk => by have := HG.out; omega))⟩
  | some y =>
    obtain ⟨y0, y1, y2, y3, y4⟩ := y
    rw [hl] at hrr l0 l1
    obtain ⟨rfl, rfl⟩ := Prod.mk.inj hrr
    unfold Bat.val at l0 l1
    simp only at l0 l1
    clear hl hrr
    go_upto_region 3 with (fail)
    go_region
    all_goals
      have hb := below_alloc (Below.refl w1.heap.size w1) (.cells #[.int .i64 y0, .int .i64 y1, .int .i64 y2, .int .i64 y3, .int .i64 y4, .slice none 0 0] 33)
      have k5 := heap_alloc_new w1 (.cells #[.int .i64 y0, .int .i64 y1, .int .i64 y2, .int .i64 y3, .int .i64 y4, .slice none 0 0] 33)
      have K5 : ((w1.alloc (.cells #[.int .i64 y0, .int .i64 y1, .int .i64 y2, .int .i64 y3, .int .i64 y4, .slice none 0 0] 33)).drew).heap[w1.heap.size]? = some (.cells #[.int .i64 y0, .int .i64 y1, .int .i64 y2, .int .i64 y3, .int .i64 y4, .slice none 0 0] 33 (0, 0)) := k5
      have hg1 : g + 1 < w1.heap.size := blk_lt K1.out
      replace K1 := Aside0.mk (show ((w1.alloc (.cells #[.int .i64 y0, .int .i64 y1, .int .i64 y2, .int .i64 y3, .int .i64 y4, .slice none 0 0] 33)).drew).heap[g + 1]? = _ from (hb.block _ (blk_lt K1.out)).trans K1.out)
      replace HB := Aside0.mk (below_drew (HB.out.trans (hb.mono (by have := HB.out.size; omega))))
      clear hb k5 l0 l1 c1 i0 i1 c1a i0a i1a
      obtain ⟨q, hq⟩ : ∃ q, w1.heap.size = q := ⟨_, rfl⟩
      rw [hq] at K5 hg1
      rw [hq]
      generalize (w1.alloc (.cells #[.int .i64 y0, .int .i64 y1, .int .i64 y2, .int .i64 y3, .int .i64 y4, .slice none 0 0] 33)).drew = w3 at K5 K1 HB ⊢
      have HL := Aside0.mk K5
      go_wp2_with (first | (refine load_all rfl rfl q rfl 33 #[.int .i64 y0, .int .i64 y1, .int .i64 y2, .int .i64 y3, .int .i64 y4, .slice none 0 0] _ HL.out Try.underlying33 rfl (by kernel_rfl) ?_) | ((with_reducible refine gate_store (t := 33) (p := 4) (v := .tmp 24) rfl ?_); refine store_all rfl rfl rfl (g + 1) #[.int .i64 0, .int .i64 0, .int .i64 0, .int .i64 0, .int .i64 0, .slice none 0 0] #[.int .i64 y0, .int .i64 y1, .int .i64 y2, .int .i64 y3, .int .i64 y4, .slice none 0 0] 33 (by rfl) (by rfl) K1.out rfl (by kernel_rfl) (by simp [Value.oneCell']) ?_; intro w9 hr1 hf6; have HR1 := Aside0.mk hr1; have HF6 := Aside0.mk hf6; clear hr1 hf6))
      refine bodyPost_ret (results_ct rfl _ _ (g + 1) 33 #[.int .i64 y0, .int .i64 y1, .int .i64 y2, .int .i64 y3, .int .i64 y4, .slice none 0 0] (0, 0) _ rfl HR1.out Try.underlying33 rfl (by kernel_rfl)) rfl ?_
      exact ⟨rfl, HB.out.trans (HF6.out.below (by have := HB.out.size; omega) (fun k hk => by have := HG.out; omega))⟩
end Go.Proofs.Ytllgaikgpfionaa.SM
