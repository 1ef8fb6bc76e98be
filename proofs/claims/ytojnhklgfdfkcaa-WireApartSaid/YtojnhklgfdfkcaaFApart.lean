-- machine text of this session's own
import Derived.Test.YtojnhklgfdfkcaaFnx0
import Derived.Test.YtojnhklgfdfkcaaFA
import Derived.Test.YtojnhklgfdfkcaaGE
namespace Go.Proofs.Ytojnhklgfdfkcaa.Fn
open Go.RowKit Go.Proofs.YtojnhklgfdfkcaaW.PrintWords Go.Proofs.YtojnhklgfdfkcaaW.PrintLast Go.Proofs.YtojnhklgfdfkcaaW.PrintMore
attribute [local go_sem] max2_int min2_int max_two min_two max_three min_three max_four min_four   -- for this text's walks alone
set_option linter.unusedVariables false
set_option linter.unusedSimpArgs false

/-! ### postroadlaw14_WireApart: function 8 -/
def postroadlaw14_WireApart.j0 : Nat → ByteArray → ByteArray → Bool → Int → Int → Int → Int → Int → Int → Int → Int → Int → Int → Int → List ByteArray → List (S63) → Int → Int → Int → Int → Int → Int → Int → Int → Int → Int → Int → List ByteArray → List (S63) → Option (Bool)
  | 0, _, _, _, _, _, _, _, _, _, _, _, _, _, _, _, _, _, _, _, _, _, _, _, _, _, _, _, _, _ => none
  | k + 1, x5, x7, x24, x436000, x436001, x436002, x436003, x436004, x436005, x436006, x436007, x436008, x436009, x436010, x436011, x436012, x437000, x437001, x437002, x437003, x437004, x437005, x437006, x437007, x437008, x437009, x437010, x437011, x437012 => if x24 = true then ((postroadlaw14_awake.f).bind fun t441 => (some t441)) else ((postroadref14_Same.f k x436000 x436001 x436002 x436003 x436004 x436005 x436006 x436007 x436008 x436009 x436010 x436011 x436012 x437000 x437001 x437002 x437003 x437004 x437005 x437006 x437007 x437008 x437009 x437010 x437011 x437012).bind fun t442 => (if ((x5.toList == x7.toList) == t442) = true then ((postroadlaw14_awake.f).bind fun t443 => (some t443)) else (some false)))
def postroadlaw14_WireApart.f (k : Nat) (a0_0 : Int) (a0_1 : Int) (a0_2 : Int) (a0_3 : Int) (a0_4 : Int) (a0_5 : Int) (a0_6 : Int) (a0_7 : Int) (a0_8 : Int) (a0_9 : Int) (a0_10 : Int) (l0_11 : List ByteArray) (l0_12 : List (S63)) (a1_0 : Int) (a1_1 : Int) (a1_2 : Int) (a1_3 : Int) (a1_4 : Int) (a1_5 : Int) (a1_6 : Int) (a1_7 : Int) (a1_8 : Int) (a1_9 : Int) (a1_10 : Int) (l1_11 : List ByteArray) (l1_12 : List (S63)) : Option (Bool) := (wire_Bytes.f a0_0 a0_1 a0_2 a0_3 a0_4 a0_5 a0_6 a0_7 a0_8 a0_9 a0_10 l0_11 l0_12).bind fun bt437 => ((wire_Bytes.f a1_0 a1_1 a1_2 a1_3 a1_4 a1_5 a1_6 a1_7 a1_8 a1_9 a1_10 l1_11 l1_12).bind fun bt439 => (if bt437.2 = 0 then (postroadlaw14_WireApart.j0 k bt437.1 bt439.1 (bt439.2 != 0) a0_0 a0_1 a0_2 a0_3 a0_4 a0_5 a0_6 a0_7 a0_8 a0_9 a0_10 l0_11 l0_12 a1_0 a1_1 a1_2 a1_3 a1_4 a1_5 a1_6 a1_7 a1_8 a1_9 a1_10 l1_11 l1_12) else (postroadlaw14_WireApart.j0 k bt437.1 bt439.1 true a0_0 a0_1 a0_2 a0_3 a0_4 a0_5 a0_6 a0_7 a0_8 a0_9 a0_10 l0_11 l0_12 a1_0 a1_1 a1_2 a1_3 a1_4 a1_5 a1_6 a1_7 a1_8 a1_9 a1_10 l1_11 l1_12)))
theorem postroadlaw14_WireApart.mono_l : ∀ k, (∀ y0 y1 y2 y3 y4 y5 y6 y7 y8 y9 y10 y11 y12 y13 y14 y15 y16 y17 y18 y19 y20 y21 y22 y23 y24 y25 y26 y27 y28, LeO (postroadlaw14_WireApart.j0 k y0 y1 y2 y3 y4 y5 y6 y7 y8 y9 y10 y11 y12 y13 y14 y15 y16 y17 y18 y19 y20 y21 y22 y23 y24 y25 y26 y27 y28) (postroadlaw14_WireApart.j0 (k + 1) y0 y1 y2 y3 y4 y5 y6 y7 y8 y9 y10 y11 y12 y13 y14 y15 y16 y17 y18 y19 y20 y21 y22 y23 y24 y25 y26 y27 y28))
  | 0 => fun _ _ _ _ _ _ _ _ _ _ _ _ _ _ _ _ _ _ _ _ _ _ _ _ _ _ _ _ _ r h => by simp [postroadlaw14_WireApart.j0] at h
  | k + 1 => by
    have ih0 := postroadlaw14_WireApart.mono_l k
    · intro y0 y1 y2 y3 y4 y5 y6 y7 y8 y9 y10 y11 y12 y13 y14 y15 y16 y17 y18 y19 y20 y21 y22 y23 y24 y25 y26 y27 y28
      unfold postroadlaw14_WireApart.j0
      repeat' first
      | (with_reducible exact ih0 _ _ _ _ _ _ _ _ _ _ _ _ _ _ _ _ _ _ _ _ _ _ _ _ _ _ _ _ _)
      | (with_reducible exact postroadref14_Same.mono _ _ _ _ _ _ _ _ _ _ _ _ _ _ _ _ _ _ _ _ _ _ _ _ _ _ _)
      | (with_reducible exact LeO.refl _)
      | (with_reducible exact LeO.none _)
      | (with_reducible refine LeO.ite ?_ ?_)
      | (with_reducible refine LeO.bind ?_ (fun _ => ?_))
      | exact ih0 _ _ _ _ _ _ _ _ _ _ _ _ _ _ _ _ _ _ _ _ _ _ _ _ _ _ _ _ _
      | exact postroadref14_Same.mono _ _ _ _ _ _ _ _ _ _ _ _ _ _ _ _ _ _ _ _ _ _ _ _ _ _ _
      | exact LeO.none _
      | refine LeO.ite ?_ ?_
      | refine LeO.bind ?_ (fun _ => ?_)
theorem postroadlaw14_WireApart.mono : ∀ a0 a1 a2 a3 a4 a5 a6 a7 a8 a9 a10 a11 a12 a13 a14 a15 a16 a17 a18 a19 a20 a21 a22 a23 a24 a25 k, LeO (postroadlaw14_WireApart.f k a0 a1 a2 a3 a4 a5 a6 a7 a8 a9 a10 a11 a12 a13 a14 a15 a16 a17 a18 a19 a20 a21 a22 a23 a24 a25) (postroadlaw14_WireApart.f (k + 1) a0 a1 a2 a3 a4 a5 a6 a7 a8 a9 a10 a11 a12 a13 a14 a15 a16 a17 a18 a19 a20 a21 a22 a23 a24 a25) := by
  intro a0 a1 a2 a3 a4 a5 a6 a7 a8 a9 a10 a11 a12 a13 a14 a15 a16 a17 a18 a19 a20 a21 a22 a23 a24 a25 k
  have ih0 := postroadlaw14_WireApart.mono_l k
  unfold postroadlaw14_WireApart.f
  repeat' first
      | (with_reducible exact ih0 _ _ _ _ _ _ _ _ _ _ _ _ _ _ _ _ _ _ _ _ _ _ _ _ _ _ _ _ _)
      | (with_reducible exact postroadref14_Same.mono _ _ _ _ _ _ _ _ _ _ _ _ _ _ _ _ _ _ _ _ _ _ _ _ _ _ _)
      | (with_reducible exact LeO.refl _)
      | (with_reducible exact LeO.none _)
      | (with_reducible refine LeO.ite ?_ ?_)
      | (with_reducible refine LeO.bind ?_ (fun _ => ?_))
      | exact ih0 _ _ _ _ _ _ _ _ _ _ _ _ _ _ _ _ _ _ _ _ _ _ _ _ _ _ _ _ _
      | exact postroadref14_Same.mono _ _ _ _ _ _ _ _ _ _ _ _ _ _ _ _ _ _ _ _ _ _ _ _ _ _ _
      | exact LeO.none _
      | refine LeO.ite ?_ ?_
      | refine LeO.bind ?_ (fun _ => ?_)
set_option maxHeartbeats 8000000 in
set_option maxRecDepth 100000 in
theorem postroadlaw14_WireApart.calls (k : Nat) (a0_0 : Int) (a0_1 : Int) (a0_2 : Int) (a0_3 : Int) (a0_4 : Int) (a0_5 : Int) (a0_6 : Int) (a0_7 : Int) (a0_8 : Int) (a0_9 : Int) (a0_10 : Int) (A0_11 : Option Addr) (c0_11 : Nat) (l0_11 : List ByteArray) (A0_12 : Option Addr) (c0_12 : Nat) (l0_12 : List (S63)) (a1_0 : Int) (a1_1 : Int) (a1_2 : Int) (a1_3 : Int) (a1_4 : Int) (a1_5 : Int) (a1_6 : Int) (a1_7 : Int) (a1_8 : Int) (a1_9 : Int) (a1_10 : Int) (A1_11 : Option Addr) (c1_11 : Nat) (l1_11 : List ByteArray) (A1_12 : Option Addr) (c1_12 : Nat) (l1_12 : List (S63)) (r : Bool) (w : World) (hr0_11 : Kd.C Kd.string w A0_11 l0_11.length l0_11) (hc0_11 : l0_11.length ≤ c0_11) (hr0_12 : Kd.C k63 w A0_12 l0_12.length l0_12) (hc0_12 : l0_12.length ≤ c0_12) (hr1_11 : Kd.C Kd.string w A1_11 l1_11.length l1_11) (hc1_11 : l1_11.length ≤ c1_11) (hr1_12 : Kd.C k63 w A1_12 l1_12.length l1_12) (hc1_12 : l1_12.length ≤ c1_12) (h : postroadlaw14_WireApart.f k a0_0 a0_1 a0_2 a0_3 a0_4 a0_5 a0_6 a0_7 a0_8 a0_9 a0_10 l0_11 l0_12 a1_0 a1_1 a1_2 a1_3 a1_4 a1_5 a1_6 a1_7 a1_8 a1_9 a1_10 l1_11 l1_12 = some r) :
    Calls Try.prog 8 #[.agg #[.int .i64 a0_0, .int .i64 a0_1, .int .i64 a0_2, .int .i64 a0_3, .int .i64 a0_4, .int .i64 a0_5, .int .i64 a0_6, .int .i64 a0_7, .int .i64 a0_8, .int .i64 a0_9, .int .i64 a0_10, .slice A0_11 l0_11.length c0_11, .slice A0_12 l0_12.length c0_12], .agg #[.int .i64 a1_0, .int .i64 a1_1, .int .i64 a1_2, .int .i64 a1_3, .int .i64 a1_4, .int .i64 a1_5, .int .i64 a1_6, .int .i64 a1_7, .int .i64 a1_8, .int .i64 a1_9, .int .i64 a1_10, .slice A1_11 l1_11.length c1_11, .slice A1_12 l1_12.length c1_12]] w fun e w' => e = .returned (.bool r) ∧ Below w.heap.size w w' := by
  have hu28 := Try.underlying28
  have HR0_11 := Aside0.mk hr0_11
  have HC0_11 := Aside0.mk hc0_11
  clear hr0_11 hc0_11
  have HR0_12 := Aside0.mk hr0_12
  have HC0_12 := Aside0.mk hc0_12
  clear hr0_12 hc0_12
  have HR1_11 := Aside0.mk hr1_11
  have HC1_11 := Aside0.mk hc1_11
  clear hr1_11 hc1_11
  have HR1_12 := Aside0.mk hr1_12
  have HC1_12 := Aside0.mk hc1_12
  clear hr1_12 hc1_12
  have HB := Aside0.mk (Below.refl w.heap.size w)
  have H : ((wire_Bytes.f a0_0 a0_1 a0_2 a0_3 a0_4 a0_5 a0_6 a0_7 a0_8 a0_9 a0_10 l0_11 l0_12).bind fun bt437 => ((wire_Bytes.f a1_0 a1_1 a1_2 a1_3 a1_4 a1_5 a1_6 a1_7 a1_8 a1_9 a1_10 l1_11 l1_12).bind fun bt439 => (if bt437.2 = 0 then (postroadlaw14_WireApart.j0 k bt437.1 bt439.1 (bt439.2 != 0) a0_0 a0_1 a0_2 a0_3 a0_4 a0_5 a0_6 a0_7 a0_8 a0_9 a0_10 l0_11 l0_12 a1_0 a1_1 a1_2 a1_3 a1_4 a1_5 a1_6 a1_7 a1_8 a1_9 a1_10 l1_11 l1_12) else (postroadlaw14_WireApart.j0 k bt437.1 bt439.1 true a0_0 a0_1 a0_2 a0_3 a0_4 a0_5 a0_6 a0_7 a0_8 a0_9 a0_10 l0_11 l0_12 a1_0 a1_1 a1_2 a1_3 a1_4 a1_5 a1_6 a1_7 a1_8 a1_9 a1_10 l1_11 l1_12)))) = some r := h
  clear h
  replace H := Option.bind_eq_some_iff.mp H
  obtain ⟨⟨t437, t438⟩, A30, H⟩ := H
  replace H : ((wire_Bytes.f a1_0 a1_1 a1_2 a1_3 a1_4 a1_5 a1_6 a1_7 a1_8 a1_9 a1_10 l1_11 l1_12).bind fun bt439 => (if t438 = 0 then (postroadlaw14_WireApart.j0 k t437 bt439.1 (bt439.2 != 0) a0_0 a0_1 a0_2 a0_3 a0_4 a0_5 a0_6 a0_7 a0_8 a0_9 a0_10 l0_11 l0_12 a1_0 a1_1 a1_2 a1_3 a1_4 a1_5 a1_6 a1_7 a1_8 a1_9 a1_10 l1_11 l1_12) else (postroadlaw14_WireApart.j0 k t437 bt439.1 true a0_0 a0_1 a0_2 a0_3 a0_4 a0_5 a0_6 a0_7 a0_8 a0_9 a0_10 l0_11 l0_12 a1_0 a1_1 a1_2 a1_3 a1_4 a1_5 a1_6 a1_7 a1_8 a1_9 a1_10 l1_11 l1_12))) = some r := H
  have A3 := Aside0.mk A30
  clear A30
  replace H := Option.bind_eq_some_iff.mp H
  obtain ⟨⟨t439, t440⟩, A40, H⟩ := H
  replace H : (if t438 = 0 then (postroadlaw14_WireApart.j0 k t437 t439 (t440 != 0) a0_0 a0_1 a0_2 a0_3 a0_4 a0_5 a0_6 a0_7 a0_8 a0_9 a0_10 l0_11 l0_12 a1_0 a1_1 a1_2 a1_3 a1_4 a1_5 a1_6 a1_7 a1_8 a1_9 a1_10 l1_11 l1_12) else (postroadlaw14_WireApart.j0 k t437 t439 true a0_0 a0_1 a0_2 a0_3 a0_4 a0_5 a0_6 a0_7 a0_8 a0_9 a0_10 l0_11 l0_12 a1_0 a1_1 a1_2 a1_3 a1_4 a1_5 a1_6 a1_7 a1_8 a1_9 a1_10 l1_11 l1_12)) = some r := H
  have A4 := Aside0.mk A40
  clear A40
  have HC5 := Aside0.mk H
  clear H
  go_enter Try.func8, Try.ntmps8
  go_upto_region 3 with (first | ((with_reducible refine gate_dst (N := 2) rfl ?_); refine box_event ?hg (N := 2) ?hd (cs := #[.int .i64 a0_0, .int .i64 a0_1, .int .i64 a0_2, .int .i64 a0_3, .int .i64 a0_4, .int .i64 a0_5, .int .i64 a0_6, .int .i64 a0_7, .int .i64 a0_8, .int .i64 a0_9, .int .i64 a0_10, .slice A0_11 l0_11.length c0_11, .slice A0_12 l0_12.length c0_12]) (t := 28) ?hr ?_; (case hd => rfl); (case hg => rfl); (case hr => first | (go_simp; done) | (go_simp; rfl)); intro gb435 hg w6 hbox hb; have n0_ := Aside0.mk (below_step (by repeat (first | (with_reducible first | exact HB.out | apply below_alloc | apply pw_below_drewN | apply below_drew1) | exact HB.out)) hb); have n1_ := Aside0.mk (hbox); have n2_ := Aside0.mk ((by rw [hg]; exact (below_size (by repeat (first | (with_reducible first | exact HB.out | apply below_alloc | apply pw_below_drewN | apply below_drew1) | exact HB.out))) : w.heap.size ≤ gb435)); have n3_ := Aside0.mk ((by rw [hg]; exact (below_size (by repeat (first | (with_reducible first | exact HB.out | apply below_alloc | apply pw_below_drewN | apply below_drew1) | exact HB.out))) : w.heap.size ≤ gb435)); clear HB; have HB := n0_; have BK435 := n1_; have GW435 := n2_; have GE435 := n3_; clear n0_ n1_ n2_ n3_; clear hb hbox hg) | ((with_reducible refine gate_dst (N := 3) rfl ?_); refine box_event ?hg (N := 3) ?hd (cs := #[.int .i64 a1_0, .int .i64 a1_1, .int .i64 a1_2, .int .i64 a1_3, .int .i64 a1_4, .int .i64 a1_5, .int .i64 a1_6, .int .i64 a1_7, .int .i64 a1_8, .int .i64 a1_9, .int .i64 a1_10, .slice A1_11 l1_11.length c1_11, .slice A1_12 l1_12.length c1_12]) (t := 28) ?hr ?_; (case hd => rfl); (case hg => rfl); (case hr => first | (go_simp; done) | (go_simp; rfl)); intro gb436 hg w7 hbox hb; have n0_ := Aside0.mk (blk_below (g := gb435) (o := .cells #[.int .i64 a0_0, .int .i64 a0_1, .int .i64 a0_2, .int .i64 a0_3, .int .i64 a0_4, .int .i64 a0_5, .int .i64 a0_6, .int .i64 a0_7, .int .i64 a0_8, .int .i64 a0_9, .int .i64 a0_10, .slice A0_11 l0_11.length c0_11, .slice A0_12 l0_12.length c0_12] 28 (0, 0)) (by (with_reducible repeat (first | refine blk_drewN ?_ _ | refine blk_drew ?_ | refine blk_alloc ?_ _)); exact BK435.out) hb); have n1_ := Aside0.mk (below_step (by repeat (first | (with_reducible first | exact HB.out | apply below_alloc | apply pw_below_drewN | apply below_drew1 | refine below_set ?_ GE435.out) | exact HB.out)) hb); have n2_ := Aside0.mk (hbox); have n3_ := Aside0.mk ((by rw [hg]; exact (below_size (by repeat (first | (with_reducible first | exact HB.out | apply below_alloc | apply pw_below_drewN | apply below_drew1 | refine below_set ?_ GE435.out) | exact HB.out))) : w.heap.size ≤ gb436)); have n4_ := Aside0.mk ((by rw [hg]; exact (below_size (by repeat (first | (with_reducible first | exact HB.out | apply below_alloc | apply pw_below_drewN | apply below_drew1 | refine below_set ?_ GE435.out) | exact HB.out))) : w.heap.size ≤ gb436)); have n5_ := Aside0.mk ((by rw [hg]; exact Nat.ne_of_lt (blk_lt (g := gb435) (o := .cells #[.int .i64 a0_0, .int .i64 a0_1, .int .i64 a0_2, .int .i64 a0_3, .int .i64 a0_4, .int .i64 a0_5, .int .i64 a0_6, .int .i64 a0_7, .int .i64 a0_8, .int .i64 a0_9, .int .i64 a0_10, .slice A0_11 l0_11.length c0_11, .slice A0_12 l0_12.length c0_12] 28 (0, 0)) (by (with_reducible repeat (first | refine blk_drewN ?_ _ | refine blk_drew ?_ | refine blk_alloc ?_ _)); exact BK435.out)) : gb435 ≠ gb436)); have n6_ := Aside0.mk ((by rw [hg]; exact Nat.ne_of_gt (blk_lt (g := gb435) (o := .cells #[.int .i64 a0_0, .int .i64 a0_1, .int .i64 a0_2, .int .i64 a0_3, .int .i64 a0_4, .int .i64 a0_5, .int .i64 a0_6, .int .i64 a0_7, .int .i64 a0_8, .int .i64 a0_9, .int .i64 a0_10, .slice A0_11 l0_11.length c0_11, .slice A0_12 l0_12.length c0_12] 28 (0, 0)) (by (with_reducible repeat (first | refine blk_drewN ?_ _ | refine blk_drew ?_ | refine blk_alloc ?_ _)); exact BK435.out)) : gb436 ≠ gb435)); clear BK435; clear HB; have BK435 := n0_; have HB := n1_; have BK436 := n2_; have GW436 := n3_; have GE436 := n4_; have NB435_436 := n5_; have NB436_435 := n6_; clear n0_ n1_ n2_ n3_ n4_ n5_ n6_; clear hb hbox hg; have hnb8 := NB435_436.out; have hnc8 := NB436_435.out; have hcz9_0 : w7.cell? ⟨gb435, 0, none⟩ = some (.int .i64 a0_0) := (blk_cell BK435.out 0).trans rfl; have hcz9_1 : w7.cell? ⟨gb435, 1, none⟩ = some (.int .i64 a0_1) := (blk_cell BK435.out 1).trans rfl; have hcz9_2 : w7.cell? ⟨gb435, 2, none⟩ = some (.int .i64 a0_2) := (blk_cell BK435.out 2).trans rfl; have hcz9_3 : w7.cell? ⟨gb435, 3, none⟩ = some (.int .i64 a0_3) := (blk_cell BK435.out 3).trans rfl; have hcz9_4 : w7.cell? ⟨gb435, 4, none⟩ = some (.int .i64 a0_4) := (blk_cell BK435.out 4).trans rfl; have hcz9_5 : w7.cell? ⟨gb435, 5, none⟩ = some (.int .i64 a0_5) := (blk_cell BK435.out 5).trans rfl; have hcz9_6 : w7.cell? ⟨gb435, 6, none⟩ = some (.int .i64 a0_6) := (blk_cell BK435.out 6).trans rfl; have hcz9_7 : w7.cell? ⟨gb435, 7, none⟩ = some (.int .i64 a0_7) := (blk_cell BK435.out 7).trans rfl; have hcz9_8 : w7.cell? ⟨gb435, 8, none⟩ = some (.int .i64 a0_8) := (blk_cell BK435.out 8).trans rfl; have hcz9_9 : w7.cell? ⟨gb435, 9, none⟩ = some (.int .i64 a0_9) := (blk_cell BK435.out 9).trans rfl; have hcz9_10 : w7.cell? ⟨gb435, 10, none⟩ = some (.int .i64 a0_10) := (blk_cell BK435.out 10).trans rfl; have hcz9_11 : w7.cell? ⟨gb435, 11, none⟩ = some (.slice A0_11 l0_11.length c0_11) := (blk_cell BK435.out 11).trans rfl; have hcz9_12 : w7.cell? ⟨gb435, 12, none⟩ = some (.slice A0_12 l0_12.length c0_12) := (blk_cell BK435.out 12).trans rfl; have hfz9_0 := blk_frozen BK435.out 0; have hfz9_1 := blk_frozen BK435.out 1; have hfz9_2 := blk_frozen BK435.out 2; have hfz9_3 := blk_frozen BK435.out 3; have hfz9_4 := blk_frozen BK435.out 4; have hfz9_5 := blk_frozen BK435.out 5; have hfz9_6 := blk_frozen BK435.out 6; have hfz9_7 := blk_frozen BK435.out 7; have hfz9_8 := blk_frozen BK435.out 8; have hfz9_9 := blk_frozen BK435.out 9; have hfz9_10 := blk_frozen BK435.out 10; have hfz9_11 := blk_frozen BK435.out 11; have hfz9_12 := blk_frozen BK435.out 12) | ((with_reducible refine gate_callee (f := 9) rfl ?_); refine goesL_ (some 11) rfl rfl Try.func9 (by kernel_rfl) rfl #[.agg #[.int .i64 a0_0, .int .i64 a0_1, .int .i64 a0_2, .int .i64 a0_3, .int .i64 a0_4, .int .i64 a0_5, .int .i64 a0_6, .int .i64 a0_7, .int .i64 a0_8, .int .i64 a0_9, .int .i64 a0_10, .slice A0_11 l0_11.length c0_11, .slice A0_12 l0_12.length c0_12]] rfl (by (try simp only [List.map_toArray, List.map_cons, List.map_nil]); first | done | rfl | (simp only [List.length_drop, List.length_take]; rfl)) ?_; (with_reducible refine (wire_Bytes.calls a0_0 a0_1 a0_2 a0_3 a0_4 a0_5 a0_6 a0_7 a0_8 a0_9 a0_10 _ _ l0_11 _ _ l0_12 t437 t438 _ ?side1 ?side2 ?side3 ?side4 A3.out).mono ?_); (case side1 => repeat (first | exact (Kd.C_below HR0_11.out HB.out) | (with_reducible refine Kd.C_alloc ?_ _) | (with_reducible refine Kd.C_drewN ?_ _) | (with_reducible refine Kd.C_drew ?_))); (case side2 => exact HC0_11.out); (case side3 => repeat (first | exact (Kd.C_below HR0_12.out HB.out) | (with_reducible refine Kd.C_alloc ?_ _) | (with_reducible refine Kd.C_drewN ?_ _) | (with_reducible refine Kd.C_drew ?_))); (case side4 => exact HC0_12.out); rintro e w10 ⟨rfl, hb⟩; refine ⟨_, rfl, ?_⟩; have n0_ := Aside0.mk (blk_below (g := gb435) (o := .cells #[.int .i64 a0_0, .int .i64 a0_1, .int .i64 a0_2, .int .i64 a0_3, .int .i64 a0_4, .int .i64 a0_5, .int .i64 a0_6, .int .i64 a0_7, .int .i64 a0_8, .int .i64 a0_9, .int .i64 a0_10, .slice A0_11 l0_11.length c0_11, .slice A0_12 l0_12.length c0_12] 28 (0, 0)) (by (with_reducible repeat (first | refine blk_drewN ?_ _ | refine blk_drew ?_ | refine blk_alloc ?_ _)); exact BK435.out) hb); have n1_ := Aside0.mk (blk_below (g := gb436) (o := .cells #[.int .i64 a1_0, .int .i64 a1_1, .int .i64 a1_2, .int .i64 a1_3, .int .i64 a1_4, .int .i64 a1_5, .int .i64 a1_6, .int .i64 a1_7, .int .i64 a1_8, .int .i64 a1_9, .int .i64 a1_10, .slice A1_11 l1_11.length c1_11, .slice A1_12 l1_12.length c1_12] 28 (0, 0)) (by (with_reducible repeat (first | refine blk_drewN ?_ _ | refine blk_drew ?_ | refine blk_alloc ?_ _)); exact BK436.out) hb); have n2_ := Aside0.mk (below_step (by repeat (first | (with_reducible first | exact HB.out | apply below_alloc | apply pw_below_drewN | apply below_drew1 | refine below_set ?_ GE435.out | refine below_set ?_ GE436.out) | exact HB.out)) hb); clear BK435; clear BK436; clear HB; have BK435 := n0_; have BK436 := n1_; have HB := n2_; clear n0_ n1_ n2_; (try clear hb); (try clear hb2); (try clear hk); (try clear hi); have hcz11_0 : w10.cell? ⟨gb436, 0, none⟩ = some (.int .i64 a1_0) := (blk_cell BK436.out 0).trans rfl; have hcz11_1 : w10.cell? ⟨gb436, 1, none⟩ = some (.int .i64 a1_1) := (blk_cell BK436.out 1).trans rfl; have hcz11_2 : w10.cell? ⟨gb436, 2, none⟩ = some (.int .i64 a1_2) := (blk_cell BK436.out 2).trans rfl; have hcz11_3 : w10.cell? ⟨gb436, 3, none⟩ = some (.int .i64 a1_3) := (blk_cell BK436.out 3).trans rfl; have hcz11_4 : w10.cell? ⟨gb436, 4, none⟩ = some (.int .i64 a1_4) := (blk_cell BK436.out 4).trans rfl; have hcz11_5 : w10.cell? ⟨gb436, 5, none⟩ = some (.int .i64 a1_5) := (blk_cell BK436.out 5).trans rfl; have hcz11_6 : w10.cell? ⟨gb436, 6, none⟩ = some (.int .i64 a1_6) := (blk_cell BK436.out 6).trans rfl; have hcz11_7 : w10.cell? ⟨gb436, 7, none⟩ = some (.int .i64 a1_7) := (blk_cell BK436.out 7).trans rfl; have hcz11_8 : w10.cell? ⟨gb436, 8, none⟩ = some (.int .i64 a1_8) := (blk_cell BK436.out 8).trans rfl; have hcz11_9 : w10.cell? ⟨gb436, 9, none⟩ = some (.int .i64 a1_9) := (blk_cell BK436.out 9).trans rfl; have hcz11_10 : w10.cell? ⟨gb436, 10, none⟩ = some (.int .i64 a1_10) := (blk_cell BK436.out 10).trans rfl; have hcz11_11 : w10.cell? ⟨gb436, 11, none⟩ = some (.slice A1_11 l1_11.length c1_11) := (blk_cell BK436.out 11).trans rfl; have hcz11_12 : w10.cell? ⟨gb436, 12, none⟩ = some (.slice A1_12 l1_12.length c1_12) := (blk_cell BK436.out 12).trans rfl; have hfz11_0 := blk_frozen BK436.out 0; have hfz11_1 := blk_frozen BK436.out 1; have hfz11_2 := blk_frozen BK436.out 2; have hfz11_3 := blk_frozen BK436.out 3; have hfz11_4 := blk_frozen BK436.out 4; have hfz11_5 := blk_frozen BK436.out 5; have hfz11_6 := blk_frozen BK436.out 6; have hfz11_7 := blk_frozen BK436.out 7; have hfz11_8 := blk_frozen BK436.out 8; have hfz11_9 := blk_frozen BK436.out 9; have hfz11_10 := blk_frozen BK436.out 10; have hfz11_11 := blk_frozen BK436.out 11; have hfz11_12 := blk_frozen BK436.out 12) | ((with_reducible refine gate_callee (f := 9) rfl ?_); refine goesL_ (some 16) rfl rfl Try.func9 (by kernel_rfl) rfl #[.agg #[.int .i64 a1_0, .int .i64 a1_1, .int .i64 a1_2, .int .i64 a1_3, .int .i64 a1_4, .int .i64 a1_5, .int .i64 a1_6, .int .i64 a1_7, .int .i64 a1_8, .int .i64 a1_9, .int .i64 a1_10, .slice A1_11 l1_11.length c1_11, .slice A1_12 l1_12.length c1_12]] rfl (by (try simp only [List.map_toArray, List.map_cons, List.map_nil]); first | done | rfl | (simp only [List.length_drop, List.length_take]; rfl)) ?_; (with_reducible refine (wire_Bytes.calls a1_0 a1_1 a1_2 a1_3 a1_4 a1_5 a1_6 a1_7 a1_8 a1_9 a1_10 _ _ l1_11 _ _ l1_12 t439 t440 _ ?side1 ?side2 ?side3 ?side4 A4.out).mono ?_); (case side1 => repeat (first | exact (Kd.C_below HR1_11.out HB.out) | (with_reducible refine Kd.C_alloc ?_ _) | (with_reducible refine Kd.C_drewN ?_ _) | (with_reducible refine Kd.C_drew ?_))); (case side2 => exact HC1_11.out); (case side3 => repeat (first | exact (Kd.C_below HR1_12.out HB.out) | (with_reducible refine Kd.C_alloc ?_ _) | (with_reducible refine Kd.C_drewN ?_ _) | (with_reducible refine Kd.C_drew ?_))); (case side4 => exact HC1_12.out); rintro e w12 ⟨rfl, hb⟩; refine ⟨_, rfl, ?_⟩; have n0_ := Aside0.mk (blk_below (g := gb435) (o := .cells #[.int .i64 a0_0, .int .i64 a0_1, .int .i64 a0_2, .int .i64 a0_3, .int .i64 a0_4, .int .i64 a0_5, .int .i64 a0_6, .int .i64 a0_7, .int .i64 a0_8, .int .i64 a0_9, .int .i64 a0_10, .slice A0_11 l0_11.length c0_11, .slice A0_12 l0_12.length c0_12] 28 (0, 0)) (by (with_reducible repeat (first | refine blk_drewN ?_ _ | refine blk_drew ?_ | refine blk_alloc ?_ _)); exact BK435.out) hb); have n1_ := Aside0.mk (blk_below (g := gb436) (o := .cells #[.int .i64 a1_0, .int .i64 a1_1, .int .i64 a1_2, .int .i64 a1_3, .int .i64 a1_4, .int .i64 a1_5, .int .i64 a1_6, .int .i64 a1_7, .int .i64 a1_8, .int .i64 a1_9, .int .i64 a1_10, .slice A1_11 l1_11.length c1_11, .slice A1_12 l1_12.length c1_12] 28 (0, 0)) (by (with_reducible repeat (first | refine blk_drewN ?_ _ | refine blk_drew ?_ | refine blk_alloc ?_ _)); exact BK436.out) hb); have n2_ := Aside0.mk (below_step (by repeat (first | (with_reducible first | exact HB.out | apply below_alloc | apply pw_below_drewN | apply below_drew1 | refine below_set ?_ GE435.out | refine below_set ?_ GE436.out) | exact HB.out)) hb); clear BK435; clear BK436; clear HB; have BK435 := n0_; have BK436 := n1_; have HB := n2_; clear n0_ n1_ n2_; (try clear hb); (try clear hb2); (try clear hk); (try clear hi)))
  (try simp only [Act.put, List.setIfInBounds_toArray, List.set_cons_zero, List.set_cons_succ])
  go_cut [24] (fun v24 wc => ∃ (kq : Nat) (x24_4 : Bool), v24 = .bool x24_4 ∧ Aside0 (postroadlaw14_WireApart.j0 kq t437 t439 x24_4 a0_0 a0_1 a0_2 a0_3 a0_4 a0_5 a0_6 a0_7 a0_8 a0_9 a0_10 l0_11 l0_12 a1_0 a1_1 a1_2 a1_3 a1_4 a1_5 a1_6 a1_7 a1_8 a1_9 a1_10 l1_11 l1_12 = some r) ∧ Aside0 (kq ≤ k) ∧ Aside0 (wc.heap[gb435]? = some (.cells #[.int .i64 a0_0, .int .i64 a0_1, .int .i64 a0_2, .int .i64 a0_3, .int .i64 a0_4, .int .i64 a0_5, .int .i64 a0_6, .int .i64 a0_7, .int .i64 a0_8, .int .i64 a0_9, .int .i64 a0_10, (.slice A0_11 l0_11.length c0_11), (.slice A0_12 l0_12.length c0_12)] 28 (0, 0))) ∧ Aside0 (wc.heap[gb436]? = some (.cells #[.int .i64 a1_0, .int .i64 a1_1, .int .i64 a1_2, .int .i64 a1_3, .int .i64 a1_4, .int .i64 a1_5, .int .i64 a1_6, .int .i64 a1_7, .int .i64 a1_8, .int .i64 a1_9, .int .i64 a1_10, (.slice A1_11 l1_11.length c1_11), (.slice A1_12 l1_12.length c1_12)] 28 (0, 0))) ∧ Aside0 (Below w.heap.size w wc))
  case first =>
    have H := HC5.out
    clear HC5
    by_cases c13 : t438 = 0
    · rw [if_pos c13] at H
      have c13b0 : (t438 == 0) = true := beq_iff_eq.mpr c13
      have c13b1 : (t438 != 0) = false := bne_eq_false_iff_eq.mpr c13
      clear c13
      (first | rw [c13b0] | (simp only [i64_w, i32_w]; rw [c13b0]) | skip)
      have H' := Aside0.mk H
      clear H
      go_wp2
      go_meet
      case rel => exact ⟨_, ((t440 != 0)), (by first | rfl | (simp; done) | (simp [*]; done)), H', ⟨by first | omega | exact Nat.le_refl _⟩, ⟨by (with_reducible repeat (first | refine blk_drewN ?_ _ | refine blk_drew ?_ | refine blk_alloc ?_ _)); exact BK435.out⟩, ⟨by (with_reducible repeat (first | refine blk_drewN ?_ _ | refine blk_drew ?_ | refine blk_alloc ?_ _)); exact BK436.out⟩, ⟨by repeat (first | (with_reducible first | exact HB.out | apply below_alloc | apply pw_below_drewN | apply below_drew1 | refine below_set ?_ GE435.out | refine below_set ?_ GE436.out) | exact HB.out)⟩⟩
    · rw [if_neg c13] at H
      have c13b0 : (t438 == 0) = false := beq_eq_false_iff_ne.mpr c13
      have c13b1 : (t438 != 0) = true := bne_iff_ne.mpr c13
      (first | rw [c13b0] | (simp only [i64_w, i32_w]; rw [c13b0]) | skip)
      have H' := Aside0.mk H
      clear H
      go_wp2
      go_meet
      case rel => exact ⟨_, (true), (by first | rfl | (simp; done) | (simp [*]; done)), H', ⟨by first | omega | exact Nat.le_refl _⟩, ⟨by (with_reducible repeat (first | refine blk_drewN ?_ _ | refine blk_drew ?_ | refine blk_alloc ?_ _)); exact BK435.out⟩, ⟨by (with_reducible repeat (first | refine blk_drewN ?_ _ | refine blk_drew ?_ | refine blk_alloc ?_ _)); exact BK436.out⟩, ⟨by repeat (first | (with_reducible first | exact HB.out | apply below_alloc | apply pw_below_drewN | apply below_drew1 | refine below_set ?_ GE435.out | refine below_set ?_ GE436.out) | exact HB.out)⟩⟩
  case rest =>
    clear HC5
    try clear c1
    try clear p2
    try clear c8
    try clear c9
    try clear c13
    try clear c13b0
    try clear c13b1
    try clear hcz11_0
    try clear hcz11_1
    try clear hcz11_10
    try clear hcz11_11
    try clear hcz11_12
    try clear hcz11_2
    try clear hcz11_3
    try clear hcz11_4
    try clear hcz11_5
    try clear hcz11_6
    try clear hcz11_7
    try clear hcz11_8
    try clear hcz11_9
    try clear hcz9_0
    try clear hcz9_1
    try clear hcz9_10
    try clear hcz9_11
    try clear hcz9_12
    try clear hcz9_2
    try clear hcz9_3
    try clear hcz9_4
    try clear hcz9_5
    try clear hcz9_6
    try clear hcz9_7
    try clear hcz9_8
    try clear hcz9_9
    try clear hfz11_0
    try clear hfz11_1
    try clear hfz11_10
    try clear hfz11_11
    try clear hfz11_12
    try clear hfz11_2
    try clear hfz11_3
    try clear hfz11_4
    try clear hfz11_5
    try clear hfz11_6
    try clear hfz11_7
    try clear hfz11_8
    try clear hfz11_9
    try clear hfz9_0
    try clear hfz9_1
    try clear hfz9_10
    try clear hfz9_11
    try clear hfz9_12
    try clear hfz9_2
    try clear hfz9_3
    try clear hfz9_4
    try clear hfz9_5
    try clear hfz9_6
    try clear hfz9_7
    try clear hfz9_8
    try clear hfz9_9
    obtain ⟨kq, x24_4, rfl, HA, HJ4, BK435, BK436, HB⟩ := hcut
    cases kq with
    | zero => exact absurd HA.out (by simp [postroadlaw14_WireApart.j0])
    | succ kj4 =>
      have H := HA.out
      clear HA
      simp only [postroadlaw14_WireApart.j0] at H
      by_cases c14 : x24_4 = true
      · subst c14
        have H1 : ((postroadlaw14_awake.f).bind fun t441 => (some t441)) = some r := by rw [if_pos rfl] at H; exact H
        clear H
        have H := H1
        clear H1
        replace H := Option.bind_eq_some_iff.mp H
        obtain ⟨t441, A150, H⟩ := H
        replace H : (some t441) = some r := H
        have A15 := Aside0.mk A150
        clear A150
        obtain rfl := Option.some.inj H
        go_wp2_with (first | ((with_reducible refine gate_callee (f := 13) rfl ?_); refine goesL_ (some 25) rfl rfl Try.func13 (by kernel_rfl) rfl #[] rfl (by (try simp only [List.map_toArray, List.map_cons, List.map_nil]); first | done | rfl | (simp only [List.length_drop, List.length_take]; rfl)) ?_; (with_reducible refine (postroadlaw14_awake.calls  t441 _ A15.out).mono ?_); rintro e w16 ⟨rfl, hb⟩; refine ⟨_, rfl, ?_⟩; have n0_ := Aside0.mk (blk_below (g := gb435) (o := .cells #[.int .i64 a0_0, .int .i64 a0_1, .int .i64 a0_2, .int .i64 a0_3, .int .i64 a0_4, .int .i64 a0_5, .int .i64 a0_6, .int .i64 a0_7, .int .i64 a0_8, .int .i64 a0_9, .int .i64 a0_10, .slice A0_11 l0_11.length c0_11, .slice A0_12 l0_12.length c0_12] 28 (0, 0)) (by (with_reducible repeat (first | refine blk_drewN ?_ _ | refine blk_drew ?_ | refine blk_alloc ?_ _)); exact BK435.out) hb); have n1_ := Aside0.mk (blk_below (g := gb436) (o := .cells #[.int .i64 a1_0, .int .i64 a1_1, .int .i64 a1_2, .int .i64 a1_3, .int .i64 a1_4, .int .i64 a1_5, .int .i64 a1_6, .int .i64 a1_7, .int .i64 a1_8, .int .i64 a1_9, .int .i64 a1_10, .slice A1_11 l1_11.length c1_11, .slice A1_12 l1_12.length c1_12] 28 (0, 0)) (by (with_reducible repeat (first | refine blk_drewN ?_ _ | refine blk_drew ?_ | refine blk_alloc ?_ _)); exact BK436.out) hb); have n2_ := Aside0.mk (below_step (by repeat (first | (with_reducible first | exact HB.out | apply below_alloc | apply pw_below_drewN | apply below_drew1 | refine below_set ?_ GE435.out | refine below_set ?_ GE436.out) | exact HB.out)) hb); clear BK435; clear BK436; clear HB; have BK435 := n0_; have BK436 := n1_; have HB := n2_; clear n0_ n1_ n2_; (try clear hb); (try clear hb2); (try clear hk); (try clear hi)))
        go_ret
        exact ⟨by first | rfl | (simp [errW_none, errW_some] <;> rfl) | (simp [*, errW_none, errW_some] <;> rfl), by repeat (first | (with_reducible first | exact HB.out | apply below_alloc | apply pw_below_drewN | apply below_drew1 | refine below_set ?_ GE435.out | refine below_set ?_ GE436.out) | exact HB.out)⟩
      · replace c14 := Bool.eq_false_iff.mpr c14
        subst c14
        have H1 : ((postroadref14_Same.f kj4 a0_0 a0_1 a0_2 a0_3 a0_4 a0_5 a0_6 a0_7 a0_8 a0_9 a0_10 l0_11 l0_12 a1_0 a1_1 a1_2 a1_3 a1_4 a1_5 a1_6 a1_7 a1_8 a1_9 a1_10 l1_11 l1_12).bind fun t442 => (if ((t437.toList == t439.toList) == t442) = true then ((postroadlaw14_awake.f).bind fun t443 => (some t443)) else (some false))) = some r := by rw [if_neg (show ¬ (false = true) by decide)] at H; exact H
        clear H
        have H := H1
        clear H1
        replace H := Option.bind_eq_some_iff.mp H
        obtain ⟨t442, A170, H⟩ := H
        replace H : (if ((t437.toList == t439.toList) == t442) = true then ((postroadlaw14_awake.f).bind fun t443 => (some t443)) else (some false)) = some r := H
        have A17 := Aside0.mk A170
        clear A170
        by_cases c18 : ((t437.toList == t439.toList) == t442) = true
        · rw [if_pos c18] at H
          have c18b0 : ((t437.toList == t439.toList) == t442) = true := c18
          (try (have c18b1 : decide ((t437.toList == t439.toList) = t442) = true := by simpa using c18))
          (try (have c18b2 : ((t437.toList == t439.toList) == t442) = true := by simpa using c18))
          clear c18
          replace H := Option.bind_eq_some_iff.mp H
          obtain ⟨t443, A190, H⟩ := H
          replace H : (some t443) = some r := H
          have A19 := Aside0.mk A190
          clear A190
          obtain rfl := Option.some.inj H
          have hnb20 := NB435_436.out
          have hnc20 := NB436_435.out
          have hcz21_0 : wc.cell? ⟨gb435, 0, none⟩ = some (.int .i64 a0_0) := (blk_cell BK435.out 0).trans rfl
          have hcz21_1 : wc.cell? ⟨gb435, 1, none⟩ = some (.int .i64 a0_1) := (blk_cell BK435.out 1).trans rfl
          have hcz21_2 : wc.cell? ⟨gb435, 2, none⟩ = some (.int .i64 a0_2) := (blk_cell BK435.out 2).trans rfl
          have hcz21_3 : wc.cell? ⟨gb435, 3, none⟩ = some (.int .i64 a0_3) := (blk_cell BK435.out 3).trans rfl
          have hcz21_4 : wc.cell? ⟨gb435, 4, none⟩ = some (.int .i64 a0_4) := (blk_cell BK435.out 4).trans rfl
          have hcz21_5 : wc.cell? ⟨gb435, 5, none⟩ = some (.int .i64 a0_5) := (blk_cell BK435.out 5).trans rfl
          have hcz21_6 : wc.cell? ⟨gb435, 6, none⟩ = some (.int .i64 a0_6) := (blk_cell BK435.out 6).trans rfl
          have hcz21_7 : wc.cell? ⟨gb435, 7, none⟩ = some (.int .i64 a0_7) := (blk_cell BK435.out 7).trans rfl
          have hcz21_8 : wc.cell? ⟨gb435, 8, none⟩ = some (.int .i64 a0_8) := (blk_cell BK435.out 8).trans rfl
          have hcz21_9 : wc.cell? ⟨gb435, 9, none⟩ = some (.int .i64 a0_9) := (blk_cell BK435.out 9).trans rfl
          have hcz21_10 : wc.cell? ⟨gb435, 10, none⟩ = some (.int .i64 a0_10) := (blk_cell BK435.out 10).trans rfl
          have hcz21_11 : wc.cell? ⟨gb435, 11, none⟩ = some (.slice A0_11 l0_11.length c0_11) := (blk_cell BK435.out 11).trans rfl
          have hcz21_12 : wc.cell? ⟨gb435, 12, none⟩ = some (.slice A0_12 l0_12.length c0_12) := (blk_cell BK435.out 12).trans rfl
          have hfz21_0 := blk_frozen BK435.out 0
          have hfz21_1 := blk_frozen BK435.out 1
          have hfz21_2 := blk_frozen BK435.out 2
          have hfz21_3 := blk_frozen BK435.out 3
          have hfz21_4 := blk_frozen BK435.out 4
          have hfz21_5 := blk_frozen BK435.out 5
          have hfz21_6 := blk_frozen BK435.out 6
          have hfz21_7 := blk_frozen BK435.out 7
          have hfz21_8 := blk_frozen BK435.out 8
          have hfz21_9 := blk_frozen BK435.out 9
          have hfz21_10 := blk_frozen BK435.out 10
          have hfz21_11 := blk_frozen BK435.out 11
          have hfz21_12 := blk_frozen BK435.out 12
          have hcz22_0 : wc.cell? ⟨gb436, 0, none⟩ = some (.int .i64 a1_0) := (blk_cell BK436.out 0).trans rfl
          have hcz22_1 : wc.cell? ⟨gb436, 1, none⟩ = some (.int .i64 a1_1) := (blk_cell BK436.out 1).trans rfl
          have hcz22_2 : wc.cell? ⟨gb436, 2, none⟩ = some (.int .i64 a1_2) := (blk_cell BK436.out 2).trans rfl
          have hcz22_3 : wc.cell? ⟨gb436, 3, none⟩ = some (.int .i64 a1_3) := (blk_cell BK436.out 3).trans rfl
          have hcz22_4 : wc.cell? ⟨gb436, 4, none⟩ = some (.int .i64 a1_4) := (blk_cell BK436.out 4).trans rfl
          have hcz22_5 : wc.cell? ⟨gb436, 5, none⟩ = some (.int .i64 a1_5) := (blk_cell BK436.out 5).trans rfl
          have hcz22_6 : wc.cell? ⟨gb436, 6, none⟩ = some (.int .i64 a1_6) := (blk_cell BK436.out 6).trans rfl
          have hcz22_7 : wc.cell? ⟨gb436, 7, none⟩ = some (.int .i64 a1_7) := (blk_cell BK436.out 7).trans rfl
          have hcz22_8 : wc.cell? ⟨gb436, 8, none⟩ = some (.int .i64 a1_8) := (blk_cell BK436.out 8).trans rfl
          have hcz22_9 : wc.cell? ⟨gb436, 9, none⟩ = some (.int .i64 a1_9) := (blk_cell BK436.out 9).trans rfl
          have hcz22_10 : wc.cell? ⟨gb436, 10, none⟩ = some (.int .i64 a1_10) := (blk_cell BK436.out 10).trans rfl
          have hcz22_11 : wc.cell? ⟨gb436, 11, none⟩ = some (.slice A1_11 l1_11.length c1_11) := (blk_cell BK436.out 11).trans rfl
          have hcz22_12 : wc.cell? ⟨gb436, 12, none⟩ = some (.slice A1_12 l1_12.length c1_12) := (blk_cell BK436.out 12).trans rfl
          have hfz22_0 := blk_frozen BK436.out 0
          have hfz22_1 := blk_frozen BK436.out 1
          have hfz22_2 := blk_frozen BK436.out 2
          have hfz22_3 := blk_frozen BK436.out 3
          have hfz22_4 := blk_frozen BK436.out 4
          have hfz22_5 := blk_frozen BK436.out 5
          have hfz22_6 := blk_frozen BK436.out 6
          have hfz22_7 := blk_frozen BK436.out 7
          have hfz22_8 := blk_frozen BK436.out 8
          have hfz22_9 := blk_frozen BK436.out 9
          have hfz22_10 := blk_frozen BK436.out 10
          have hfz22_11 := blk_frozen BK436.out 11
          have hfz22_12 := blk_frozen BK436.out 12
          go_wp2_with (first | ((with_reducible refine gate_callee (f := 16) rfl ?_); refine goesL_ (some 31) rfl rfl Try.func16 (by kernel_rfl) rfl #[.agg #[.int .i64 a0_0, .int .i64 a0_1, .int .i64 a0_2, .int .i64 a0_3, .int .i64 a0_4, .int .i64 a0_5, .int .i64 a0_6, .int .i64 a0_7, .int .i64 a0_8, .int .i64 a0_9, .int .i64 a0_10, .slice A0_11 l0_11.length c0_11, .slice A0_12 l0_12.length c0_12], .agg #[.int .i64 a1_0, .int .i64 a1_1, .int .i64 a1_2, .int .i64 a1_3, .int .i64 a1_4, .int .i64 a1_5, .int .i64 a1_6, .int .i64 a1_7, .int .i64 a1_8, .int .i64 a1_9, .int .i64 a1_10, .slice A1_11 l1_11.length c1_11, .slice A1_12 l1_12.length c1_12]] rfl (by (try simp only [List.map_toArray, List.map_cons, List.map_nil]); first | done | rfl | (simp only [List.length_drop, List.length_take]; rfl)) ?_; (with_reducible refine (postroadref14_Same.calls kj4 a0_0 a0_1 a0_2 a0_3 a0_4 a0_5 a0_6 a0_7 a0_8 a0_9 a0_10 _ _ l0_11 _ _ l0_12 a1_0 a1_1 a1_2 a1_3 a1_4 a1_5 a1_6 a1_7 a1_8 a1_9 a1_10 _ _ l1_11 _ _ l1_12 t442 _ ?side1 ?side2 ?side3 ?side4 ?side5 ?side6 ?side7 ?side8 A17.out).mono ?_); (case side1 => repeat (first | exact (Kd.C_below HR0_11.out HB.out) | (with_reducible refine Kd.C_alloc ?_ _) | (with_reducible refine Kd.C_drewN ?_ _) | (with_reducible refine Kd.C_drew ?_))); (case side2 => exact HC0_11.out); (case side3 => repeat (first | exact (Kd.C_below HR0_12.out HB.out) | (with_reducible refine Kd.C_alloc ?_ _) | (with_reducible refine Kd.C_drewN ?_ _) | (with_reducible refine Kd.C_drew ?_))); (case side4 => exact HC0_12.out); (case side5 => repeat (first | exact (Kd.C_below HR1_11.out HB.out) | (with_reducible refine Kd.C_alloc ?_ _) | (with_reducible refine Kd.C_drewN ?_ _) | (with_reducible refine Kd.C_drew ?_))); (case side6 => exact HC1_11.out); (case side7 => repeat (first | exact (Kd.C_below HR1_12.out HB.out) | (with_reducible refine Kd.C_alloc ?_ _) | (with_reducible refine Kd.C_drewN ?_ _) | (with_reducible refine Kd.C_drew ?_))); (case side8 => exact HC1_12.out); rintro e w23 ⟨rfl, hb⟩; refine ⟨_, rfl, ?_⟩; have n0_ := Aside0.mk (blk_below (g := gb435) (o := .cells #[.int .i64 a0_0, .int .i64 a0_1, .int .i64 a0_2, .int .i64 a0_3, .int .i64 a0_4, .int .i64 a0_5, .int .i64 a0_6, .int .i64 a0_7, .int .i64 a0_8, .int .i64 a0_9, .int .i64 a0_10, .slice A0_11 l0_11.length c0_11, .slice A0_12 l0_12.length c0_12] 28 (0, 0)) (by (with_reducible repeat (first | refine blk_drewN ?_ _ | refine blk_drew ?_ | refine blk_alloc ?_ _)); exact BK435.out) hb); have n1_ := Aside0.mk (blk_below (g := gb436) (o := .cells #[.int .i64 a1_0, .int .i64 a1_1, .int .i64 a1_2, .int .i64 a1_3, .int .i64 a1_4, .int .i64 a1_5, .int .i64 a1_6, .int .i64 a1_7, .int .i64 a1_8, .int .i64 a1_9, .int .i64 a1_10, .slice A1_11 l1_11.length c1_11, .slice A1_12 l1_12.length c1_12] 28 (0, 0)) (by (with_reducible repeat (first | refine blk_drewN ?_ _ | refine blk_drew ?_ | refine blk_alloc ?_ _)); exact BK436.out) hb); have n2_ := Aside0.mk (below_step (by repeat (first | (with_reducible first | exact HB.out | apply below_alloc | apply pw_below_drewN | apply below_drew1 | refine below_set ?_ GE435.out | refine below_set ?_ GE436.out) | exact HB.out)) hb); clear BK435; clear BK436; clear HB; have BK435 := n0_; have BK436 := n1_; have HB := n2_; clear n0_ n1_ n2_; (try clear hb); (try clear hb2); (try clear hk); (try clear hi)) | (go_at_call 13; (with_reducible refine (postroadlaw14_awake.calls  t443 _ A19.out).mono ?_); rintro e w24 ⟨rfl, hb⟩; have n0_ := Aside0.mk (blk_below (g := gb435) (o := .cells #[.int .i64 a0_0, .int .i64 a0_1, .int .i64 a0_2, .int .i64 a0_3, .int .i64 a0_4, .int .i64 a0_5, .int .i64 a0_6, .int .i64 a0_7, .int .i64 a0_8, .int .i64 a0_9, .int .i64 a0_10, .slice A0_11 l0_11.length c0_11, .slice A0_12 l0_12.length c0_12] 28 (0, 0)) (by (with_reducible repeat (first | refine blk_drewN ?_ _ | refine blk_drew ?_ | refine blk_alloc ?_ _)); exact BK435.out) hb); have n1_ := Aside0.mk (blk_below (g := gb436) (o := .cells #[.int .i64 a1_0, .int .i64 a1_1, .int .i64 a1_2, .int .i64 a1_3, .int .i64 a1_4, .int .i64 a1_5, .int .i64 a1_6, .int .i64 a1_7, .int .i64 a1_8, .int .i64 a1_9, .int .i64 a1_10, .slice A1_11 l1_11.length c1_11, .slice A1_12 l1_12.length c1_12] 28 (0, 0)) (by (with_reducible repeat (first | refine blk_drewN ?_ _ | refine blk_drew ?_ | refine blk_alloc ?_ _)); exact BK436.out) hb); have n2_ := Aside0.mk (below_step (by repeat (first | (with_reducible first | exact HB.out | apply below_alloc | apply pw_below_drewN | apply below_drew1 | refine below_set ?_ GE435.out | refine below_set ?_ GE436.out) | exact HB.out)) hb); clear BK435; clear BK436; clear HB; have BK435 := n0_; have BK436 := n1_; have HB := n2_; clear n0_ n1_ n2_; (try clear hb); (try clear hb2); (try clear hk); (try clear hi)))
          go_ret
          exact ⟨by first | rfl | (simp [errW_none, errW_some] <;> rfl) | (simp [*, errW_none, errW_some] <;> rfl), by repeat (first | (with_reducible first | exact HB.out | apply below_alloc | apply pw_below_drewN | apply below_drew1 | refine below_set ?_ GE435.out | refine below_set ?_ GE436.out) | exact HB.out)⟩
        · rw [if_neg c18] at H
          have c18b0 : ((t437.toList == t439.toList) == t442) = false := by simpa using c18
          (try (have c18b1 : decide ((t437.toList == t439.toList) = t442) = false := by simpa using c18))
          (try (have c18b2 : ((t437.toList == t439.toList) == t442) = false := by simpa using c18))
          (try (have c18b3 : ¬ ((t437.toList == t439.toList) = t442) := by simpa using c18))
          clear c18
          obtain rfl := Option.some.inj H
          have hnb25 := NB435_436.out
          have hnc25 := NB436_435.out
          have hcz26_0 : wc.cell? ⟨gb435, 0, none⟩ = some (.int .i64 a0_0) := (blk_cell BK435.out 0).trans rfl
          have hcz26_1 : wc.cell? ⟨gb435, 1, none⟩ = some (.int .i64 a0_1) := (blk_cell BK435.out 1).trans rfl
          have hcz26_2 : wc.cell? ⟨gb435, 2, none⟩ = some (.int .i64 a0_2) := (blk_cell BK435.out 2).trans rfl
          have hcz26_3 : wc.cell? ⟨gb435, 3, none⟩ = some (.int .i64 a0_3) := (blk_cell BK435.out 3).trans rfl
          have hcz26_4 : wc.cell? ⟨gb435, 4, none⟩ = some (.int .i64 a0_4) := (blk_cell BK435.out 4).trans rfl
          have hcz26_5 : wc.cell? ⟨gb435, 5, none⟩ = some (.int .i64 a0_5) := (blk_cell BK435.out 5).trans rfl
          have hcz26_6 : wc.cell? ⟨gb435, 6, none⟩ = some (.int .i64 a0_6) := (blk_cell BK435.out 6).trans rfl
          have hcz26_7 : wc.cell? ⟨gb435, 7, none⟩ = some (.int .i64 a0_7) := (blk_cell BK435.out 7).trans rfl
          have hcz26_8 : wc.cell? ⟨gb435, 8, none⟩ = some (.int .i64 a0_8) := (blk_cell BK435.out 8).trans rfl
          have hcz26_9 : wc.cell? ⟨gb435, 9, none⟩ = some (.int .i64 a0_9) := (blk_cell BK435.out 9).trans rfl
          have hcz26_10 : wc.cell? ⟨gb435, 10, none⟩ = some (.int .i64 a0_10) := (blk_cell BK435.out 10).trans rfl
          have hcz26_11 : wc.cell? ⟨gb435, 11, none⟩ = some (.slice A0_11 l0_11.length c0_11) := (blk_cell BK435.out 11).trans rfl
          have hcz26_12 : wc.cell? ⟨gb435, 12, none⟩ = some (.slice A0_12 l0_12.length c0_12) := (blk_cell BK435.out 12).trans rfl
          have hfz26_0 := blk_frozen BK435.out 0
          have hfz26_1 := blk_frozen BK435.out 1
          have hfz26_2 := blk_frozen BK435.out 2
          have hfz26_3 := blk_frozen BK435.out 3
          have hfz26_4 := blk_frozen BK435.out 4
          have hfz26_5 := blk_frozen BK435.out 5
          have hfz26_6 := blk_frozen BK435.out 6
          have hfz26_7 := blk_frozen BK435.out 7
          have hfz26_8 := blk_frozen BK435.out 8
          have hfz26_9 := blk_frozen BK435.out 9
          have hfz26_10 := blk_frozen BK435.out 10
          have hfz26_11 := blk_frozen BK435.out 11
          have hfz26_12 := blk_frozen BK435.out 12
          have hcz27_0 : wc.cell? ⟨gb436, 0, none⟩ = some (.int .i64 a1_0) := (blk_cell BK436.out 0).trans rfl
          have hcz27_1 : wc.cell? ⟨gb436, 1, none⟩ = some (.int .i64 a1_1) := (blk_cell BK436.out 1).trans rfl
          have hcz27_2 : wc.cell? ⟨gb436, 2, none⟩ = some (.int .i64 a1_2) := (blk_cell BK436.out 2).trans rfl
          have hcz27_3 : wc.cell? ⟨gb436, 3, none⟩ = some (.int .i64 a1_3) := (blk_cell BK436.out 3).trans rfl
          have hcz27_4 : wc.cell? ⟨gb436, 4, none⟩ = some (.int .i64 a1_4) := (blk_cell BK436.out 4).trans rfl
          have hcz27_5 : wc.cell? ⟨gb436, 5, none⟩ = some (.int .i64 a1_5) := (blk_cell BK436.out 5).trans rfl
          have hcz27_6 : wc.cell? ⟨gb436, 6, none⟩ = some (.int .i64 a1_6) := (blk_cell BK436.out 6).trans rfl
          have hcz27_7 : wc.cell? ⟨gb436, 7, none⟩ = some (.int .i64 a1_7) := (blk_cell BK436.out 7).trans rfl
          have hcz27_8 : wc.cell? ⟨gb436, 8, none⟩ = some (.int .i64 a1_8) := (blk_cell BK436.out 8).trans rfl
          have hcz27_9 : wc.cell? ⟨gb436, 9, none⟩ = some (.int .i64 a1_9) := (blk_cell BK436.out 9).trans rfl
          have hcz27_10 : wc.cell? ⟨gb436, 10, none⟩ = some (.int .i64 a1_10) := (blk_cell BK436.out 10).trans rfl
          have hcz27_11 : wc.cell? ⟨gb436, 11, none⟩ = some (.slice A1_11 l1_11.length c1_11) := (blk_cell BK436.out 11).trans rfl
          have hcz27_12 : wc.cell? ⟨gb436, 12, none⟩ = some (.slice A1_12 l1_12.length c1_12) := (blk_cell BK436.out 12).trans rfl
          have hfz27_0 := blk_frozen BK436.out 0
          have hfz27_1 := blk_frozen BK436.out 1
          have hfz27_2 := blk_frozen BK436.out 2
          have hfz27_3 := blk_frozen BK436.out 3
          have hfz27_4 := blk_frozen BK436.out 4
          have hfz27_5 := blk_frozen BK436.out 5
          have hfz27_6 := blk_frozen BK436.out 6
          have hfz27_7 := blk_frozen BK436.out 7
          have hfz27_8 := blk_frozen BK436.out 8
          have hfz27_9 := blk_frozen BK436.out 9
          have hfz27_10 := blk_frozen BK436.out 10
          have hfz27_11 := blk_frozen BK436.out 11
          have hfz27_12 := blk_frozen BK436.out 12
          go_wp2_with (first | ((with_reducible refine gate_callee (f := 16) rfl ?_); refine goesL_ (some 31) rfl rfl Try.func16 (by kernel_rfl) rfl #[.agg #[.int .i64 a0_0, .int .i64 a0_1, .int .i64 a0_2, .int .i64 a0_3, .int .i64 a0_4, .int .i64 a0_5, .int .i64 a0_6, .int .i64 a0_7, .int .i64 a0_8, .int .i64 a0_9, .int .i64 a0_10, .slice A0_11 l0_11.length c0_11, .slice A0_12 l0_12.length c0_12], .agg #[.int .i64 a1_0, .int .i64 a1_1, .int .i64 a1_2, .int .i64 a1_3, .int .i64 a1_4, .int .i64 a1_5, .int .i64 a1_6, .int .i64 a1_7, .int .i64 a1_8, .int .i64 a1_9, .int .i64 a1_10, .slice A1_11 l1_11.length c1_11, .slice A1_12 l1_12.length c1_12]] rfl (by (try simp only [List.map_toArray, List.map_cons, List.map_nil]); first | done | rfl | (simp only [List.length_drop, List.length_take]; rfl)) ?_; (with_reducible refine (postroadref14_Same.calls kj4 a0_0 a0_1 a0_2 a0_3 a0_4 a0_5 a0_6 a0_7 a0_8 a0_9 a0_10 _ _ l0_11 _ _ l0_12 a1_0 a1_1 a1_2 a1_3 a1_4 a1_5 a1_6 a1_7 a1_8 a1_9 a1_10 _ _ l1_11 _ _ l1_12 t442 _ ?side1 ?side2 ?side3 ?side4 ?side5 ?side6 ?side7 ?side8 A17.out).mono ?_); (case side1 => repeat (first | exact (Kd.C_below HR0_11.out HB.out) | (with_reducible refine Kd.C_alloc ?_ _) | (with_reducible refine Kd.C_drewN ?_ _) | (with_reducible refine Kd.C_drew ?_))); (case side2 => exact HC0_11.out); (case side3 => repeat (first | exact (Kd.C_below HR0_12.out HB.out) | (with_reducible refine Kd.C_alloc ?_ _) | (with_reducible refine Kd.C_drewN ?_ _) | (with_reducible refine Kd.C_drew ?_))); (case side4 => exact HC0_12.out); (case side5 => repeat (first | exact (Kd.C_below HR1_11.out HB.out) | (with_reducible refine Kd.C_alloc ?_ _) | (with_reducible refine Kd.C_drewN ?_ _) | (with_reducible refine Kd.C_drew ?_))); (case side6 => exact HC1_11.out); (case side7 => repeat (first | exact (Kd.C_below HR1_12.out HB.out) | (with_reducible refine Kd.C_alloc ?_ _) | (with_reducible refine Kd.C_drewN ?_ _) | (with_reducible refine Kd.C_drew ?_))); (case side8 => exact HC1_12.out); rintro e w28 ⟨rfl, hb⟩; refine ⟨_, rfl, ?_⟩; have n0_ := Aside0.mk (blk_below (g := gb435) (o := .cells #[.int .i64 a0_0, .int .i64 a0_1, .int .i64 a0_2, .int .i64 a0_3, .int .i64 a0_4, .int .i64 a0_5, .int .i64 a0_6, .int .i64 a0_7, .int .i64 a0_8, .int .i64 a0_9, .int .i64 a0_10, .slice A0_11 l0_11.length c0_11, .slice A0_12 l0_12.length c0_12] 28 (0, 0)) (by (with_reducible repeat (first | refine blk_drewN ?_ _ | refine blk_drew ?_ | refine blk_alloc ?_ _)); exact BK435.out) hb); have n1_ := Aside0.mk (blk_below (g := gb436) (o := .cells #[.int .i64 a1_0, .int .i64 a1_1, .int .i64 a1_2, .int .i64 a1_3, .int .i64 a1_4, .int .i64 a1_5, .int .i64 a1_6, .int .i64 a1_7, .int .i64 a1_8, .int .i64 a1_9, .int .i64 a1_10, .slice A1_11 l1_11.length c1_11, .slice A1_12 l1_12.length c1_12] 28 (0, 0)) (by (with_reducible repeat (first | refine blk_drewN ?_ _ | refine blk_drew ?_ | refine blk_alloc ?_ _)); exact BK436.out) hb); have n2_ := Aside0.mk (below_step (by repeat (first | (with_reducible first | exact HB.out | apply below_alloc | apply pw_below_drewN | apply below_drew1 | refine below_set ?_ GE435.out | refine below_set ?_ GE436.out) | exact HB.out)) hb); clear BK435; clear BK436; clear HB; have BK435 := n0_; have BK436 := n1_; have HB := n2_; clear n0_ n1_ n2_; (try clear hb); (try clear hb2); (try clear hk); (try clear hi)))
          go_ret
          exact ⟨by first | rfl | (simp [errW_none, errW_some] <;> rfl) | (simp [*, errW_none, errW_some] <;> rfl), by repeat (first | (with_reducible first | exact HB.out | apply below_alloc | apply pw_below_drewN | apply below_drew1 | refine below_set ?_ GE435.out | refine below_set ?_ GE436.out) | exact HB.out)⟩

end Go.Proofs.Ytojnhklgfdfkcaa.Fn
