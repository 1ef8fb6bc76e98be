-- machine text of this session's own
import Derived.Test.YtojnhklgfdfkcaaFnx0
import Derived.Test.YtojnhklgfdfkcaaFnx2
import Derived.Test.YtojnhklgfdfkcaaFB
import Derived.Test.YtojnhklgfdfkcaaFM
import Derived.Test.YtojnhklgfdfkcaaFN
import Derived.Test.YtojnhklgfdfkcaaFP
namespace Go.Proofs.Ytojnhklgfdfkcaa.Fn
open Go.RowKit Go.Proofs.YtojnhklgfdfkcaaW.PrintWords Go.Proofs.YtojnhklgfdfkcaaW.PrintLast Go.Proofs.YtojnhklgfdfkcaaW.PrintMore
attribute [local go_sem] max2_int min2_int max_two min_two max_three min_three max_four min_four   -- for this text's walks alone
set_option linter.unusedVariables false
set_option linter.unusedSimpArgs false

/-! ### postroadref14_Bytes: function 10 -/
mutual
def postroadref14_Bytes.l0 : Nat → List Int → List Int → Int → Int → Int → Int → Int → Int → Int → Int → Int → Int → Int → Int → List ByteArray → List (S63) → Option (ByteArray × Int)
  | 0, _, _, _, _, _, _, _, _, _, _, _, _, _, _, _, _ => none
  | k + 1, x4, x5, x6, x200000, x200001, x200002, x200003, x200004, x200005, x200006, x200007, x200008, x200009, x200010, x200011, x200012 => if x6 < (x5.length : Int) then (if 0 ≤ x6 then ((postroadref14_put.f k x4 (rd x5 x6)).bind fun t205 => (postroadref14_Bytes.l0 k t205 x5 (wrap64 (x6 + 1)) x200000 x200001 x200002 x200003 x200004 x200005 x200006 x200007 x200008 x200009 x200010 x200011 x200012)) else (none)) else ((postroadref14_put.f k x4 (x200011.length : Int)).bind fun t208 => (postroadref14_Bytes.l1 k t208 0 x200000 x200001 x200002 x200003 x200004 x200005 x200006 x200007 x200008 x200009 x200010 x200011 x200012))
def postroadref14_Bytes.l1 : Nat → List Int → Int → Int → Int → Int → Int → Int → Int → Int → Int → Int → Int → Int → List ByteArray → List (S63) → Option (ByteArray × Int)
  | 0, _, _, _, _, _, _, _, _, _, _, _, _, _, _, _ => none
  | k + 1, x4, x7, x200000, x200001, x200002, x200003, x200004, x200005, x200006, x200007, x200008, x200009, x200010, x200011, x200012 => if x7 < (x200011.length : Int) then (if 0 ≤ x7 then ((postroadref14_put.f k x4 ((rdOf ByteArray.empty x200011 x7).size : Int)).bind fun t212 => (if t212.length + (rdOf ByteArray.empty x200011 x7).size < 140737488355328 then ((some (t212 ++ bytesOf (rdOf ByteArray.empty x200011 x7) : List Int)).bind fun y216 => (if (y216.length : Int) > 1048576 then (some ((⟨#[]⟩ : ByteArray), 4)) else (postroadref14_Bytes.l1 k y216 (wrap64 (x7 + 1)) x200000 x200001 x200002 x200003 x200004 x200005 x200006 x200007 x200008 x200009 x200010 x200011 x200012))) else (none))) else (none)) else ((postroadref14_put.f k x4 (x200012.length : Int)).bind fun t219 => ((postroadref09_Bytes.f k x200012 0).bind fun bt222 => (if t219.length + bt222.1.size < 140737488355328 then ((some (t219 ++ bytesOf bt222.1 : List Int)).bind fun y224 => (if (y224.length : Int) > 1048576 then (some ((⟨#[]⟩ : ByteArray), 4)) else (some (strOfNums y224, 0)))) else (none))))
end
def postroadref14_Bytes.f (k : Nat) (a0_0 : Int) (a0_1 : Int) (a0_2 : Int) (a0_3 : Int) (a0_4 : Int) (a0_5 : Int) (a0_6 : Int) (a0_7 : Int) (a0_8 : Int) (a0_9 : Int) (a0_10 : Int) (l0_11 : List ByteArray) (l0_12 : List (S63)) : Option (ByteArray × Int) := (postroadref14_May.f k a0_0 a0_1 a0_2 a0_3 a0_4 a0_5 a0_6 a0_7 a0_8 a0_9 a0_10 l0_11 l0_12).bind fun t200 => (if t200 = true then ((postroadref14_numbers.f a0_0 a0_1 a0_2 a0_3 a0_4 a0_5 a0_6 a0_7 a0_8 a0_9 a0_10 l0_11 l0_12).bind fun t201 => (postroadref14_Bytes.l0 k ([] : List Int) t201 0 a0_0 a0_1 a0_2 a0_3 a0_4 a0_5 a0_6 a0_7 a0_8 a0_9 a0_10 l0_11 l0_12)) else (some ((⟨#[]⟩ : ByteArray), 140)))
theorem postroadref14_Bytes.mono_l : ∀ k, (∀ y0 y1 y2 y3 y4 y5 y6 y7 y8 y9 y10 y11 y12 y13 y14 y15, LeO (postroadref14_Bytes.l0 k y0 y1 y2 y3 y4 y5 y6 y7 y8 y9 y10 y11 y12 y13 y14 y15) (postroadref14_Bytes.l0 (k + 1) y0 y1 y2 y3 y4 y5 y6 y7 y8 y9 y10 y11 y12 y13 y14 y15)) ∧ (∀ y0 y1 y2 y3 y4 y5 y6 y7 y8 y9 y10 y11 y12 y13 y14, LeO (postroadref14_Bytes.l1 k y0 y1 y2 y3 y4 y5 y6 y7 y8 y9 y10 y11 y12 y13 y14) (postroadref14_Bytes.l1 (k + 1) y0 y1 y2 y3 y4 y5 y6 y7 y8 y9 y10 y11 y12 y13 y14))
  | 0 => ⟨fun _ _ _ _ _ _ _ _ _ _ _ _ _ _ _ _ r h => by simp [postroadref14_Bytes.l0] at h, fun _ _ _ _ _ _ _ _ _ _ _ _ _ _ _ r h => by simp [postroadref14_Bytes.l1] at h⟩
  | k + 1 => by
    obtain ⟨ih0, ih1⟩ := postroadref14_Bytes.mono_l k
    refine ⟨?_, ?_⟩
    · intro y0 y1 y2 y3 y4 y5 y6 y7 y8 y9 y10 y11 y12 y13 y14 y15
      unfold postroadref14_Bytes.l0
      repeat' first
      | (with_reducible exact ih0 _ _ _ _ _ _ _ _ _ _ _ _ _ _ _ _)
      | (with_reducible exact ih1 _ _ _ _ _ _ _ _ _ _ _ _ _ _ _)
      | (with_reducible exact postroadref09_Bytes.mono _ _ _)
      | (with_reducible exact postroadref14_May.mono _ _ _ _ _ _ _ _ _ _ _ _ _ _)
      | (with_reducible exact postroadref14_put.mono _ _ _)
      | (with_reducible exact LeO.refl _)
      | (with_reducible exact LeO.none _)
      | (with_reducible refine LeO.ite ?_ ?_)
      | (with_reducible refine LeO.bind ?_ (fun _ => ?_))
      | exact ih0 _ _ _ _ _ _ _ _ _ _ _ _ _ _ _ _
      | exact ih1 _ _ _ _ _ _ _ _ _ _ _ _ _ _ _
      | exact postroadref09_Bytes.mono _ _ _
      | exact postroadref14_May.mono _ _ _ _ _ _ _ _ _ _ _ _ _ _
      | exact postroadref14_put.mono _ _ _
      | exact LeO.none _
      | refine LeO.ite ?_ ?_
      | refine LeO.bind ?_ (fun _ => ?_)
    · intro y0 y1 y2 y3 y4 y5 y6 y7 y8 y9 y10 y11 y12 y13 y14
      unfold postroadref14_Bytes.l1
      repeat' first
      | (with_reducible exact ih0 _ _ _ _ _ _ _ _ _ _ _ _ _ _ _ _)
      | (with_reducible exact ih1 _ _ _ _ _ _ _ _ _ _ _ _ _ _ _)
      | (with_reducible exact postroadref09_Bytes.mono _ _ _)
      | (with_reducible exact postroadref14_May.mono _ _ _ _ _ _ _ _ _ _ _ _ _ _)
      | (with_reducible exact postroadref14_put.mono _ _ _)
      | (with_reducible exact LeO.refl _)
      | (with_reducible exact LeO.none _)
      | (with_reducible refine LeO.ite ?_ ?_)
      | (with_reducible refine LeO.bind ?_ (fun _ => ?_))
      | exact ih0 _ _ _ _ _ _ _ _ _ _ _ _ _ _ _ _
      | exact ih1 _ _ _ _ _ _ _ _ _ _ _ _ _ _ _
      | exact postroadref09_Bytes.mono _ _ _
      | exact postroadref14_May.mono _ _ _ _ _ _ _ _ _ _ _ _ _ _
      | exact postroadref14_put.mono _ _ _
      | exact LeO.none _
      | refine LeO.ite ?_ ?_
      | refine LeO.bind ?_ (fun _ => ?_)
theorem postroadref14_Bytes.mono : ∀ a0 a1 a2 a3 a4 a5 a6 a7 a8 a9 a10 a11 a12 k, LeO (postroadref14_Bytes.f k a0 a1 a2 a3 a4 a5 a6 a7 a8 a9 a10 a11 a12) (postroadref14_Bytes.f (k + 1) a0 a1 a2 a3 a4 a5 a6 a7 a8 a9 a10 a11 a12) := by
  intro a0 a1 a2 a3 a4 a5 a6 a7 a8 a9 a10 a11 a12 k
  obtain ⟨ih0, ih1⟩ := postroadref14_Bytes.mono_l k
  unfold postroadref14_Bytes.f
  repeat' first
      | (with_reducible exact ih0 _ _ _ _ _ _ _ _ _ _ _ _ _ _ _ _)
      | (with_reducible exact ih1 _ _ _ _ _ _ _ _ _ _ _ _ _ _ _)
      | (with_reducible exact postroadref09_Bytes.mono _ _ _)
      | (with_reducible exact postroadref14_May.mono _ _ _ _ _ _ _ _ _ _ _ _ _ _)
      | (with_reducible exact postroadref14_put.mono _ _ _)
      | (with_reducible exact LeO.refl _)
      | (with_reducible exact LeO.none _)
      | (with_reducible refine LeO.ite ?_ ?_)
      | (with_reducible refine LeO.bind ?_ (fun _ => ?_))
      | exact ih0 _ _ _ _ _ _ _ _ _ _ _ _ _ _ _ _
      | exact ih1 _ _ _ _ _ _ _ _ _ _ _ _ _ _ _
      | exact postroadref09_Bytes.mono _ _ _
      | exact postroadref14_May.mono _ _ _ _ _ _ _ _ _ _ _ _ _ _
      | exact postroadref14_put.mono _ _ _
      | exact LeO.none _
      | refine LeO.ite ?_ ?_
      | refine LeO.bind ?_ (fun _ => ?_)
set_option maxHeartbeats 8000000 in
set_option maxRecDepth 100000 in
theorem postroadref14_Bytes.calls (k : Nat) (a0_0 : Int) (a0_1 : Int) (a0_2 : Int) (a0_3 : Int) (a0_4 : Int) (a0_5 : Int) (a0_6 : Int) (a0_7 : Int) (a0_8 : Int) (a0_9 : Int) (a0_10 : Int) (A0_11 : Option Addr) (c0_11 : Nat) (l0_11 : List ByteArray) (A0_12 : Option Addr) (c0_12 : Nat) (l0_12 : List (S63)) (r1 : ByteArray) (r2 : Int) (w : World) (hr0_11 : Kd.C Kd.string w A0_11 l0_11.length l0_11) (hc0_11 : l0_11.length ≤ c0_11) (hr0_12 : Kd.C k63 w A0_12 l0_12.length l0_12) (hc0_12 : l0_12.length ≤ c0_12) (h : postroadref14_Bytes.f k a0_0 a0_1 a0_2 a0_3 a0_4 a0_5 a0_6 a0_7 a0_8 a0_9 a0_10 l0_11 l0_12 = some (r1, r2)) :
    Calls Try.prog 10 #[.agg #[.int .i64 a0_0, .int .i64 a0_1, .int .i64 a0_2, .int .i64 a0_3, .int .i64 a0_4, .int .i64 a0_5, .int .i64 a0_6, .int .i64 a0_7, .int .i64 a0_8, .int .i64 a0_9, .int .i64 a0_10, .slice A0_11 l0_11.length c0_11, .slice A0_12 l0_12.length c0_12]] w fun e w' => e = .returned (.tuple #[.string r1, .int .i64 r2]) ∧ Below w.heap.size w w' := by
  have hu28 := Try.underlying28
  have HR0_11 := Aside0.mk hr0_11
  have HC0_11 := Aside0.mk hc0_11
  clear hr0_11 hc0_11
  have HR0_12 := Aside0.mk hr0_12
  have HC0_12 := Aside0.mk hc0_12
  clear hr0_12 hc0_12
  have HB := Aside0.mk (Below.refl w.heap.size w)
  have H : ((postroadref14_May.f k a0_0 a0_1 a0_2 a0_3 a0_4 a0_5 a0_6 a0_7 a0_8 a0_9 a0_10 l0_11 l0_12).bind fun t200 => (if t200 = true then ((postroadref14_numbers.f a0_0 a0_1 a0_2 a0_3 a0_4 a0_5 a0_6 a0_7 a0_8 a0_9 a0_10 l0_11 l0_12).bind fun t201 => (postroadref14_Bytes.l0 k ([] : List Int) t201 0 a0_0 a0_1 a0_2 a0_3 a0_4 a0_5 a0_6 a0_7 a0_8 a0_9 a0_10 l0_11 l0_12)) else (some ((⟨#[]⟩ : ByteArray), 140)))) = some (r1, r2) := h
  clear h
  replace H := Option.bind_eq_some_iff.mp H
  obtain ⟨t200, A20, H⟩ := H
  replace H : (if t200 = true then ((postroadref14_numbers.f a0_0 a0_1 a0_2 a0_3 a0_4 a0_5 a0_6 a0_7 a0_8 a0_9 a0_10 l0_11 l0_12).bind fun t201 => (postroadref14_Bytes.l0 k ([] : List Int) t201 0 a0_0 a0_1 a0_2 a0_3 a0_4 a0_5 a0_6 a0_7 a0_8 a0_9 a0_10 l0_11 l0_12)) else (some ((⟨#[]⟩ : ByteArray), 140))) = some (r1, r2) := H
  have A2 := Aside0.mk A20
  clear A20
  by_cases c3 : t200 = true
  · subst c3
    have H1 : ((postroadref14_numbers.f a0_0 a0_1 a0_2 a0_3 a0_4 a0_5 a0_6 a0_7 a0_8 a0_9 a0_10 l0_11 l0_12).bind fun t201 => (postroadref14_Bytes.l0 k ([] : List Int) t201 0 a0_0 a0_1 a0_2 a0_3 a0_4 a0_5 a0_6 a0_7 a0_8 a0_9 a0_10 l0_11 l0_12)) = some (r1, r2) := by rw [if_pos rfl] at H; exact H
    clear H
    have H := H1
    clear H1
    replace H := Option.bind_eq_some_iff.mp H
    obtain ⟨t201, A40, H⟩ := H
    replace H : (postroadref14_Bytes.l0 k ([] : List Int) t201 0 a0_0 a0_1 a0_2 a0_3 a0_4 a0_5 a0_6 a0_7 a0_8 a0_9 a0_10 l0_11 l0_12) = some (r1, r2) := H
    have A4 := Aside0.mk A40
    clear A40
    have H' := Aside0.mk H
    clear H
    go_enter Try.func10, Try.ntmps10
    go_wp2_with (first | ((with_reducible refine gate_dst (N := 1) rfl ?_); refine box_event ?hg (N := 1) ?hd (cs := #[.int .i64 a0_0, .int .i64 a0_1, .int .i64 a0_2, .int .i64 a0_3, .int .i64 a0_4, .int .i64 a0_5, .int .i64 a0_6, .int .i64 a0_7, .int .i64 a0_8, .int .i64 a0_9, .int .i64 a0_10, .slice A0_11 l0_11.length c0_11, .slice A0_12 l0_12.length c0_12]) (t := 28) ?hr ?_; (case hd => rfl); (case hg => rfl); (case hr => first | (go_simp; done) | (go_simp; rfl)); intro gb199 hg w5 hbox hb; have n0_ := Aside0.mk (below_step (by repeat (first | (with_reducible first | exact HB.out | apply below_alloc | apply pw_below_drewN | apply below_drew1) | exact HB.out)) hb); have n1_ := Aside0.mk (hbox); have n2_ := Aside0.mk ((by rw [hg]; exact (below_size (by repeat (first | (with_reducible first | exact HB.out | apply below_alloc | apply pw_below_drewN | apply below_drew1) | exact HB.out))) : w.heap.size ≤ gb199)); have n3_ := Aside0.mk ((by rw [hg]; exact (below_size (by repeat (first | (with_reducible first | exact HB.out | apply below_alloc | apply pw_below_drewN | apply below_drew1) | exact HB.out))) : w.heap.size ≤ gb199)); clear HB; have HB := n0_; have BK199 := n1_; have GW199 := n2_; have GE199 := n3_; clear n0_ n1_ n2_ n3_; clear hb hbox hg; have hcz6_0 : w5.cell? ⟨gb199, 0, none⟩ = some (.int .i64 a0_0) := (blk_cell BK199.out 0).trans rfl; have hcz6_1 : w5.cell? ⟨gb199, 1, none⟩ = some (.int .i64 a0_1) := (blk_cell BK199.out 1).trans rfl; have hcz6_2 : w5.cell? ⟨gb199, 2, none⟩ = some (.int .i64 a0_2) := (blk_cell BK199.out 2).trans rfl; have hcz6_3 : w5.cell? ⟨gb199, 3, none⟩ = some (.int .i64 a0_3) := (blk_cell BK199.out 3).trans rfl; have hcz6_4 : w5.cell? ⟨gb199, 4, none⟩ = some (.int .i64 a0_4) := (blk_cell BK199.out 4).trans rfl; have hcz6_5 : w5.cell? ⟨gb199, 5, none⟩ = some (.int .i64 a0_5) := (blk_cell BK199.out 5).trans rfl; have hcz6_6 : w5.cell? ⟨gb199, 6, none⟩ = some (.int .i64 a0_6) := (blk_cell BK199.out 6).trans rfl; have hcz6_7 : w5.cell? ⟨gb199, 7, none⟩ = some (.int .i64 a0_7) := (blk_cell BK199.out 7).trans rfl; have hcz6_8 : w5.cell? ⟨gb199, 8, none⟩ = some (.int .i64 a0_8) := (blk_cell BK199.out 8).trans rfl; have hcz6_9 : w5.cell? ⟨gb199, 9, none⟩ = some (.int .i64 a0_9) := (blk_cell BK199.out 9).trans rfl; have hcz6_10 : w5.cell? ⟨gb199, 10, none⟩ = some (.int .i64 a0_10) := (blk_cell BK199.out 10).trans rfl; have hcz6_11 : w5.cell? ⟨gb199, 11, none⟩ = some (.slice A0_11 l0_11.length c0_11) := (blk_cell BK199.out 11).trans rfl; have hcz6_12 : w5.cell? ⟨gb199, 12, none⟩ = some (.slice A0_12 l0_12.length c0_12) := (blk_cell BK199.out 12).trans rfl; have hfz6_0 := blk_frozen BK199.out 0; have hfz6_1 := blk_frozen BK199.out 1; have hfz6_2 := blk_frozen BK199.out 2; have hfz6_3 := blk_frozen BK199.out 3; have hfz6_4 := blk_frozen BK199.out 4; have hfz6_5 := blk_frozen BK199.out 5; have hfz6_6 := blk_frozen BK199.out 6; have hfz6_7 := blk_frozen BK199.out 7; have hfz6_8 := blk_frozen BK199.out 8; have hfz6_9 := blk_frozen BK199.out 9; have hfz6_10 := blk_frozen BK199.out 10; have hfz6_11 := blk_frozen BK199.out 11; have hfz6_12 := blk_frozen BK199.out 12) | ((with_reducible refine gate_callee (f := 24) rfl ?_); refine goesL_ (some 11) rfl rfl Try.func24 (by kernel_rfl) rfl #[.agg #[.int .i64 a0_0, .int .i64 a0_1, .int .i64 a0_2, .int .i64 a0_3, .int .i64 a0_4, .int .i64 a0_5, .int .i64 a0_6, .int .i64 a0_7, .int .i64 a0_8, .int .i64 a0_9, .int .i64 a0_10, .slice A0_11 l0_11.length c0_11, .slice A0_12 l0_12.length c0_12]] rfl (by (try simp only [List.map_toArray, List.map_cons, List.map_nil]); first | done | rfl | (simp only [List.length_drop, List.length_take]; rfl)) ?_; (with_reducible refine (postroadref14_May.calls k a0_0 a0_1 a0_2 a0_3 a0_4 a0_5 a0_6 a0_7 a0_8 a0_9 a0_10 _ _ l0_11 _ _ l0_12 true _ ?side1 ?side2 ?side3 ?side4 A2.out).mono ?_); (case side1 => repeat (first | exact (Kd.C_below HR0_11.out HB.out) | (with_reducible refine Kd.C_alloc ?_ _) | (with_reducible refine Kd.C_drewN ?_ _) | (with_reducible refine Kd.C_drew ?_))); (case side2 => exact HC0_11.out); (case side3 => repeat (first | exact (Kd.C_below HR0_12.out HB.out) | (with_reducible refine Kd.C_alloc ?_ _) | (with_reducible refine Kd.C_drewN ?_ _) | (with_reducible refine Kd.C_drew ?_))); (case side4 => exact HC0_12.out); rintro e w7 ⟨rfl, hb⟩; refine ⟨_, rfl, ?_⟩; have n0_ := Aside0.mk (blk_below (g := gb199) (o := .cells #[.int .i64 a0_0, .int .i64 a0_1, .int .i64 a0_2, .int .i64 a0_3, .int .i64 a0_4, .int .i64 a0_5, .int .i64 a0_6, .int .i64 a0_7, .int .i64 a0_8, .int .i64 a0_9, .int .i64 a0_10, .slice A0_11 l0_11.length c0_11, .slice A0_12 l0_12.length c0_12] 28 (0, 0)) (by (with_reducible repeat (first | refine blk_drewN ?_ _ | refine blk_drew ?_ | refine blk_alloc ?_ _)); exact BK199.out) hb); have n1_ := Aside0.mk (below_step (by repeat (first | (with_reducible first | exact HB.out | apply below_alloc | apply pw_below_drewN | apply below_drew1 | refine below_set ?_ GE199.out) | exact HB.out)) hb); clear BK199; clear HB; have BK199 := n0_; have HB := n1_; clear n0_ n1_; (try clear hb); (try clear hb2); (try clear hk); (try clear hi); have hcz8_0 : w7.cell? ⟨gb199, 0, none⟩ = some (.int .i64 a0_0) := (blk_cell BK199.out 0).trans rfl; have hcz8_1 : w7.cell? ⟨gb199, 1, none⟩ = some (.int .i64 a0_1) := (blk_cell BK199.out 1).trans rfl; have hcz8_2 : w7.cell? ⟨gb199, 2, none⟩ = some (.int .i64 a0_2) := (blk_cell BK199.out 2).trans rfl; have hcz8_3 : w7.cell? ⟨gb199, 3, none⟩ = some (.int .i64 a0_3) := (blk_cell BK199.out 3).trans rfl; have hcz8_4 : w7.cell? ⟨gb199, 4, none⟩ = some (.int .i64 a0_4) := (blk_cell BK199.out 4).trans rfl; have hcz8_5 : w7.cell? ⟨gb199, 5, none⟩ = some (.int .i64 a0_5) := (blk_cell BK199.out 5).trans rfl; have hcz8_6 : w7.cell? ⟨gb199, 6, none⟩ = some (.int .i64 a0_6) := (blk_cell BK199.out 6).trans rfl; have hcz8_7 : w7.cell? ⟨gb199, 7, none⟩ = some (.int .i64 a0_7) := (blk_cell BK199.out 7).trans rfl; have hcz8_8 : w7.cell? ⟨gb199, 8, none⟩ = some (.int .i64 a0_8) := (blk_cell BK199.out 8).trans rfl; have hcz8_9 : w7.cell? ⟨gb199, 9, none⟩ = some (.int .i64 a0_9) := (blk_cell BK199.out 9).trans rfl; have hcz8_10 : w7.cell? ⟨gb199, 10, none⟩ = some (.int .i64 a0_10) := (blk_cell BK199.out 10).trans rfl; have hcz8_11 : w7.cell? ⟨gb199, 11, none⟩ = some (.slice A0_11 l0_11.length c0_11) := (blk_cell BK199.out 11).trans rfl; have hcz8_12 : w7.cell? ⟨gb199, 12, none⟩ = some (.slice A0_12 l0_12.length c0_12) := (blk_cell BK199.out 12).trans rfl; have hfz8_0 := blk_frozen BK199.out 0; have hfz8_1 := blk_frozen BK199.out 1; have hfz8_2 := blk_frozen BK199.out 2; have hfz8_3 := blk_frozen BK199.out 3; have hfz8_4 := blk_frozen BK199.out 4; have hfz8_5 := blk_frozen BK199.out 5; have hfz8_6 := blk_frozen BK199.out 6; have hfz8_7 := blk_frozen BK199.out 7; have hfz8_8 := blk_frozen BK199.out 8; have hfz8_9 := blk_frozen BK199.out 9; have hfz8_10 := blk_frozen BK199.out 10; have hfz8_11 := blk_frozen BK199.out 11; have hfz8_12 := blk_frozen BK199.out 12) | ((with_reducible refine gate_callee (f := 25) rfl ?_); refine goesL_ (some 14) rfl rfl Try.func25 (by kernel_rfl) rfl #[.agg #[.int .i64 a0_0, .int .i64 a0_1, .int .i64 a0_2, .int .i64 a0_3, .int .i64 a0_4, .int .i64 a0_5, .int .i64 a0_6, .int .i64 a0_7, .int .i64 a0_8, .int .i64 a0_9, .int .i64 a0_10, .slice A0_11 l0_11.length c0_11, .slice A0_12 l0_12.length c0_12]] rfl (by (try simp only [List.map_toArray, List.map_cons, List.map_nil]); first | done | rfl | (simp only [List.length_drop, List.length_take]; rfl)) ?_; (with_reducible refine (postroadref14_numbers.calls a0_0 a0_1 a0_2 a0_3 a0_4 a0_5 a0_6 a0_7 a0_8 a0_9 a0_10 _ _ l0_11 _ _ l0_12 t201 _ ?side1 ?side2 ?side3 ?side4 A4.out).mono ?_); (case side1 => repeat (first | exact (Kd.C_below HR0_11.out HB.out) | (with_reducible refine Kd.C_alloc ?_ _) | (with_reducible refine Kd.C_drewN ?_ _) | (with_reducible refine Kd.C_drew ?_))); (case side2 => exact HC0_11.out); (case side3 => repeat (first | exact (Kd.C_below HR0_12.out HB.out) | (with_reducible refine Kd.C_alloc ?_ _) | (with_reducible refine Kd.C_drewN ?_ _) | (with_reducible refine Kd.C_drew ?_))); (case side4 => exact HC0_12.out); rintro e w9 ⟨v202, rfl, ho0, hb⟩; refine ⟨_, rfl, ?_⟩; have n0_ := Aside0.mk (Kd.R_lower ho0 (below_size (by repeat (first | (with_reducible first | exact HB.out | apply below_alloc | apply pw_below_drewN | apply below_drew1 | refine below_set ?_ GE199.out) | exact HB.out)))); have n1_ := Aside0.mk (blk_below (g := gb199) (o := .cells #[.int .i64 a0_0, .int .i64 a0_1, .int .i64 a0_2, .int .i64 a0_3, .int .i64 a0_4, .int .i64 a0_5, .int .i64 a0_6, .int .i64 a0_7, .int .i64 a0_8, .int .i64 a0_9, .int .i64 a0_10, .slice A0_11 l0_11.length c0_11, .slice A0_12 l0_12.length c0_12] 28 (0, 0)) (by (with_reducible repeat (first | refine blk_drewN ?_ _ | refine blk_drew ?_ | refine blk_alloc ?_ _)); exact BK199.out) hb); have n2_ := Aside0.mk (below_step (by repeat (first | (with_reducible first | exact HB.out | apply below_alloc | apply pw_below_drewN | apply below_drew1 | refine below_set ?_ GE199.out) | exact HB.out)) hb); clear BK199; clear HB; have HO203 := n0_; have BK199 := n1_; have HB := n2_; clear n0_ n1_ n2_; (try clear hb); (try clear hb2); (try clear hk); (try clear hi); (try clear ho0)))
    go_loopg [4, 6] k (fun kq v4 v6 w' => ∃ (x4_1 : List Int) (x6_1 : Int), v6 = .int .i64 x6_1 ∧ Aside0 (postroadref14_Bytes.l0 kq x4_1 t201 x6_1 a0_0 a0_1 a0_2 a0_3 a0_4 a0_5 a0_6 a0_7 a0_8 a0_9 a0_10 l0_11 l0_12 = some (r1, r2)) ∧ Aside0 (kq ≤ k) ∧ Aside0 (Kd.R (Kd.int .u8) 5 w' w.heap.size (fun _ => True) v4 x4_1) ∧ Aside0 (Kd.R (Kd.int .i64) 3 w' w.heap.size (fun _ => True) v202 t201) ∧ Aside0 (w'.heap[gb199]? = some (.cells #[.int .i64 a0_0, .int .i64 a0_1, .int .i64 a0_2, .int .i64 a0_3, .int .i64 a0_4, .int .i64 a0_5, .int .i64 a0_6, .int .i64 a0_7, .int .i64 a0_8, .int .i64 a0_9, .int .i64 a0_10, (.slice A0_11 l0_11.length c0_11), (.slice A0_12 l0_12.length c0_12)] 28 (0, 0))) ∧ Aside0 (Below w.heap.size w w'))
    case atStart => exact ⟨(([] : List Int)), (0), (by first | rfl | (simp; done) | (simp [*]; done)), H', ⟨Nat.le_refl _⟩, ⟨by first | exact Kd.R_nil _ _ _ _ _ | exact Kd.N_nil _ _ _ _ _ | exact Kd.V_nil _ _ _ _ _ | exact Kd.Q_nil _ _ _ _ _ | exact Kd.S_nil _ _ _ _ _⟩, ⟨by (with_reducible repeat (first | apply Kd.R_alloc | apply Kd.R_drewN | apply Kd.R_drew)); exact HO203.out⟩, ⟨by (with_reducible repeat (first | refine blk_drewN ?_ _ | refine blk_drew ?_ | refine blk_alloc ?_ _)); exact BK199.out⟩, ⟨by repeat (first | (with_reducible first | exact HB.out | apply below_alloc | apply pw_below_drewN | apply below_drew1 | refine below_set ?_ GE199.out) | exact HB.out)⟩⟩
    case round =>
      clear H'
      try clear c1
      try clear c2
      try clear p2
      try clear c3
      try clear hcz6_0
      try clear hcz6_1
      try clear hcz6_10
      try clear hcz6_11
      try clear hcz6_12
      try clear hcz6_2
      try clear hcz6_3
      try clear hcz6_4
      try clear hcz6_5
      try clear hcz6_6
      try clear hcz6_7
      try clear hcz6_8
      try clear hcz6_9
      try clear hcz8_0
      try clear hcz8_1
      try clear hcz8_10
      try clear hcz8_11
      try clear hcz8_12
      try clear hcz8_2
      try clear hcz8_3
      try clear hcz8_4
      try clear hcz8_5
      try clear hcz8_6
      try clear hcz8_7
      try clear hcz8_8
      try clear hcz8_9
      try clear hfz6_0
      try clear hfz6_1
      try clear hfz6_10
      try clear hfz6_11
      try clear hfz6_12
      try clear hfz6_2
      try clear hfz6_3
      try clear hfz6_4
      try clear hfz6_5
      try clear hfz6_6
      try clear hfz6_7
      try clear hfz6_8
      try clear hfz6_9
      try clear hfz8_0
      try clear hfz8_1
      try clear hfz8_10
      try clear hfz8_11
      try clear hfz8_12
      try clear hfz8_2
      try clear hfz8_3
      try clear hfz8_4
      try clear hfz8_5
      try clear hfz8_6
      try clear hfz8_7
      try clear hfz8_8
      try clear hfz8_9
      obtain ⟨x4_1, x6_1, rfl, HA, HK1, HO_4, HO_5, BK199, HB⟩ := hrel
      cases gk with
      | zero => exact absurd HA.out (by simp [postroadref14_Bytes.l0])
      | succ k1 =>
        have H := HA.out
        clear HA
        simp only [postroadref14_Bytes.l0] at H
        by_cases c10 : x6_1 < (t201.length : Int)
        · rw [if_pos c10] at H
          have c10b0 : decide (x6_1 < (t201.length : Int)) = true := decide_eq_true c10
          clear c10
          by_cases c11 : 0 ≤ x6_1
          · rw [if_pos c11] at H
            have c11b0 : decide (0 ≤ x6_1) = true := decide_eq_true c11
            clear c11
            replace H := Option.bind_eq_some_iff.mp H
            obtain ⟨t205, A120, H⟩ := H
            replace H : (postroadref14_Bytes.l0 k1 t205 t201 (wrap64 (x6_1 + 1)) a0_0 a0_1 a0_2 a0_3 a0_4 a0_5 a0_6 a0_7 a0_8 a0_9 a0_10 l0_11 l0_12) = some (r1, r2) := H
            have A12 := Aside0.mk A120
            clear A120
            have H' := Aside0.mk H
            clear H
            obtain ⟨Ao13, co13, eo13⟩ := Kd.R_slice HO_5.out
            subst eo13
            have p204 : 0 ≤ (x6_1 : Int) := of_decide_eq_true (by first | (with_reducible assumption) | assumption)
            have q204 : x6_1 < (t201.length : Int) := of_decide_eq_true (by first | (with_reducible assumption) | assumption)
            obtain ⟨ad204, e204, hx204_0⟩ := Kd.at_int (Kd.R_reads' HO_5.out).2.2 x6_1 p204 q204
            cases e204
            replace p204 := eq_true p204
            replace q204 := eq_true q204
            obtain ⟨Ao14, co14, eo14⟩ := Kd.R_slice HO_4.out
            subst eo14
            go_wp2_with (first | ((with_reducible refine gate_callee (f := 26) rfl ?_); refine goesL_ (some 26) rfl rfl Try.func26 (by kernel_rfl) rfl #[.slice Ao14 x4_1.length co14, .int .i64 (rd t201 x6_1)] rfl (by (try simp only [List.map_toArray, List.map_cons, List.map_nil]); first | done | rfl | (simp only [List.length_drop, List.length_take]; rfl)) ?_; (with_reducible refine (postroadref14_put.calls k1 (fun k_ => some k_ = (.slice Ao14 x4_1.length co14 : Value).ownBlock) (.slice Ao14 x4_1.length co14) x4_1 (rd t201 x6_1) t205 w _ ?side1 ?side2 A12.out).mono ?_); (case side1 => repeat (first | (with_reducible first | exact HB.out | apply below_alloc | apply pw_below_drewN | apply below_drew1 | refine below_set ?_ GE199.out) | exact HB.out)); (case side2 => exact Kd.R_tight rfl HO_4.out); rintro e w15 ⟨v206, rfl, ho0, hb, hkp⟩; refine ⟨_, rfl, ?_⟩; have n0_ := Aside0.mk (Kd.R_mono (ok' := fun k_ => True) (Kd.R_keptB ((Kd.R_apart' HO_5.out (Kd.R_typed HO_4.out) (by decide))) hkp (fun k_ hk_ hs_ => (hk_.2) hs_)) (fun k_ hk_ => trivial)); have n1_ := Aside0.mk (blk_kept (by (with_reducible repeat (first | refine blk_drewN ?_ _ | refine blk_drew ?_ | refine blk_alloc ?_ _)); exact BK199.out) hkp (fun hs_ => (fun e_ => (Kd.R_ne HO_4.out BK199.out (by decide)) e_) hs_)); have n2_ := Aside0.mk (Kd.R_mono (ok' := fun k_ => True) ho0 (fun k_ hk_ => trivial)); have n3_ := Aside0.mk (hb); clear HO_5; clear BK199; clear HB; clear HO_4; have HO_5 := n0_; have BK199 := n1_; have HO207 := n2_; have HB := n3_; clear n0_ n1_ n2_ n3_; (try clear hb); (try clear hkp); (try clear ho0)))
            go_roundg k1
            case measure => have := HK1.out; omega
            case rel => exact ⟨(t205), (wrap64 (x6_1 + 1)), (by first | rfl | (simp; done) | (simp [*]; done)), H', ⟨by have := HK1.out; omega⟩, ⟨by (with_reducible repeat (first | apply Kd.R_alloc | apply Kd.R_drewN | apply Kd.R_drew)); exact HO207.out⟩, ⟨by (with_reducible repeat (first | apply Kd.R_alloc | apply Kd.R_drewN | apply Kd.R_drew)); exact HO_5.out⟩, ⟨by (with_reducible repeat (first | refine blk_drewN ?_ _ | refine blk_drew ?_ | refine blk_alloc ?_ _)); exact BK199.out⟩, ⟨by repeat (first | (with_reducible first | exact HB.out | apply below_alloc | apply pw_below_drewN | apply below_drew1 | refine below_set ?_ GE199.out) | exact HB.out)⟩⟩
          · rw [if_neg c11] at H
            exact absurd H (by simp)
        · rw [if_neg c10] at H
          have c10b0 : decide (x6_1 < (t201.length : Int)) = false := decide_eq_false c10
          clear c10
          replace H := Option.bind_eq_some_iff.mp H
          obtain ⟨t208, A160, H⟩ := H
          replace H : (postroadref14_Bytes.l1 k1 t208 0 a0_0 a0_1 a0_2 a0_3 a0_4 a0_5 a0_6 a0_7 a0_8 a0_9 a0_10 l0_11 l0_12) = some (r1, r2) := H
          have A16 := Aside0.mk A160
          clear A160
          have H' := Aside0.mk H
          clear H
          obtain ⟨Ao17, co17, eo17⟩ := Kd.R_slice HO_5.out
          subst eo17
          have hcz18_0 : wr.cell? ⟨gb199, 0, none⟩ = some (.int .i64 a0_0) := (blk_cell BK199.out 0).trans rfl
          have hcz18_1 : wr.cell? ⟨gb199, 1, none⟩ = some (.int .i64 a0_1) := (blk_cell BK199.out 1).trans rfl
          have hcz18_2 : wr.cell? ⟨gb199, 2, none⟩ = some (.int .i64 a0_2) := (blk_cell BK199.out 2).trans rfl
          have hcz18_3 : wr.cell? ⟨gb199, 3, none⟩ = some (.int .i64 a0_3) := (blk_cell BK199.out 3).trans rfl
          have hcz18_4 : wr.cell? ⟨gb199, 4, none⟩ = some (.int .i64 a0_4) := (blk_cell BK199.out 4).trans rfl
          have hcz18_5 : wr.cell? ⟨gb199, 5, none⟩ = some (.int .i64 a0_5) := (blk_cell BK199.out 5).trans rfl
          have hcz18_6 : wr.cell? ⟨gb199, 6, none⟩ = some (.int .i64 a0_6) := (blk_cell BK199.out 6).trans rfl
          have hcz18_7 : wr.cell? ⟨gb199, 7, none⟩ = some (.int .i64 a0_7) := (blk_cell BK199.out 7).trans rfl
          have hcz18_8 : wr.cell? ⟨gb199, 8, none⟩ = some (.int .i64 a0_8) := (blk_cell BK199.out 8).trans rfl
          have hcz18_9 : wr.cell? ⟨gb199, 9, none⟩ = some (.int .i64 a0_9) := (blk_cell BK199.out 9).trans rfl
          have hcz18_10 : wr.cell? ⟨gb199, 10, none⟩ = some (.int .i64 a0_10) := (blk_cell BK199.out 10).trans rfl
          have hcz18_11 : wr.cell? ⟨gb199, 11, none⟩ = some (.slice A0_11 l0_11.length c0_11) := (blk_cell BK199.out 11).trans rfl
          have hcz18_12 : wr.cell? ⟨gb199, 12, none⟩ = some (.slice A0_12 l0_12.length c0_12) := (blk_cell BK199.out 12).trans rfl
          have hfz18_0 := blk_frozen BK199.out 0
          have hfz18_1 := blk_frozen BK199.out 1
          have hfz18_2 := blk_frozen BK199.out 2
          have hfz18_3 := blk_frozen BK199.out 3
          have hfz18_4 := blk_frozen BK199.out 4
          have hfz18_5 := blk_frozen BK199.out 5
          have hfz18_6 := blk_frozen BK199.out 6
          have hfz18_7 := blk_frozen BK199.out 7
          have hfz18_8 := blk_frozen BK199.out 8
          have hfz18_9 := blk_frozen BK199.out 9
          have hfz18_10 := blk_frozen BK199.out 10
          have hfz18_11 := blk_frozen BK199.out 11
          have hfz18_12 := blk_frozen BK199.out 12
          obtain ⟨Ao19, co19, eo19⟩ := Kd.R_slice HO_4.out
          subst eo19
          go_wp2_with (first | ((with_reducible refine gate_callee (f := 26) rfl ?_); refine goesL_ (some 31) rfl rfl Try.func26 (by kernel_rfl) rfl #[.slice Ao19 x4_1.length co19, .int .i64 (l0_11.length : Int)] rfl (by (try simp only [List.map_toArray, List.map_cons, List.map_nil]); first | done | rfl | (simp only [List.length_drop, List.length_take]; rfl)) ?_; (with_reducible refine (postroadref14_put.calls k1 (fun k_ => some k_ = (.slice Ao19 x4_1.length co19 : Value).ownBlock) (.slice Ao19 x4_1.length co19) x4_1 (l0_11.length : Int) t208 w _ ?side1 ?side2 A16.out).mono ?_); (case side1 => repeat (first | (with_reducible first | exact HB.out | apply below_alloc | apply pw_below_drewN | apply below_drew1 | refine below_set ?_ GE199.out) | exact HB.out)); (case side2 => exact Kd.R_tight rfl HO_4.out); rintro e w20 ⟨v209, rfl, ho0, hb, hkp⟩; refine ⟨_, rfl, ?_⟩; have n0_ := Aside0.mk (Kd.R_mono (ok' := fun k_ => True) (Kd.R_keptB ((Kd.R_apart' HO_5.out (Kd.R_typed HO_4.out) (by decide))) hkp (fun k_ hk_ hs_ => (hk_.2) hs_)) (fun k_ hk_ => trivial)); have n1_ := Aside0.mk (blk_kept (by (with_reducible repeat (first | refine blk_drewN ?_ _ | refine blk_drew ?_ | refine blk_alloc ?_ _)); exact BK199.out) hkp (fun hs_ => (fun e_ => (Kd.R_ne HO_4.out BK199.out (by decide)) e_) hs_)); have n2_ := Aside0.mk (Kd.R_mono (ok' := fun k_ => True) ho0 (fun k_ hk_ => trivial)); have n3_ := Aside0.mk (hb); clear HO_5; clear BK199; clear HB; clear HO_4; have HO_5 := n0_; have BK199 := n1_; have HO210 := n2_; have HB := n3_; clear n0_ n1_ n2_ n3_; (try clear hb); (try clear hkp); (try clear ho0)))
          go_loopg [4, 7] k1 (fun kq v4 v7 w' => ∃ (x4_2 : List Int) (x7_2 : Int), v7 = .int .i64 x7_2 ∧ Aside0 (postroadref14_Bytes.l1 kq x4_2 x7_2 a0_0 a0_1 a0_2 a0_3 a0_4 a0_5 a0_6 a0_7 a0_8 a0_9 a0_10 l0_11 l0_12 = some (r1, r2)) ∧ Aside0 (kq ≤ k1) ∧ Aside0 (Kd.R (Kd.int .u8) 5 w' w.heap.size (fun _ => True) v4 x4_2) ∧ Aside0 (w'.heap[gb199]? = some (.cells #[.int .i64 a0_0, .int .i64 a0_1, .int .i64 a0_2, .int .i64 a0_3, .int .i64 a0_4, .int .i64 a0_5, .int .i64 a0_6, .int .i64 a0_7, .int .i64 a0_8, .int .i64 a0_9, .int .i64 a0_10, (.slice A0_11 l0_11.length c0_11), (.slice A0_12 l0_12.length c0_12)] 28 (0, 0))) ∧ Aside0 (Below w.heap.size w w'))
          case atStart => exact ⟨(t208), (0), (by first | rfl | (simp; done) | (simp [*]; done)), H', ⟨Nat.le_refl _⟩, ⟨by (with_reducible repeat (first | apply Kd.R_alloc | apply Kd.R_drewN | apply Kd.R_drew)); exact HO210.out⟩, ⟨by (with_reducible repeat (first | refine blk_drewN ?_ _ | refine blk_drew ?_ | refine blk_alloc ?_ _)); exact BK199.out⟩, ⟨by repeat (first | (with_reducible first | exact HB.out | apply below_alloc | apply pw_below_drewN | apply below_drew1 | refine below_set ?_ GE199.out) | exact HB.out)⟩⟩
          case round =>
            clear H'
            try clear c1
            try clear c2
            try clear p2
            try clear q2
            try clear hx2
            try clear c3
            try clear p6
            try clear c10
            try clear c10b0
            try clear c11
            try clear c11b0
            try clear p20
            try clear q20
            try clear hx20
            try clear hcz18_0
            try clear hcz18_1
            try clear hcz18_10
            try clear hcz18_11
            try clear hcz18_12
            try clear hcz18_2
            try clear hcz18_3
            try clear hcz18_4
            try clear hcz18_5
            try clear hcz18_6
            try clear hcz18_7
            try clear hcz18_8
            try clear hcz18_9
            try clear hcz6_0
            try clear hcz6_1
            try clear hcz6_10
            try clear hcz6_11
            try clear hcz6_12
            try clear hcz6_2
            try clear hcz6_3
            try clear hcz6_4
            try clear hcz6_5
            try clear hcz6_6
            try clear hcz6_7
            try clear hcz6_8
            try clear hcz6_9
            try clear hcz8_0
            try clear hcz8_1
            try clear hcz8_10
            try clear hcz8_11
            try clear hcz8_12
            try clear hcz8_2
            try clear hcz8_3
            try clear hcz8_4
            try clear hcz8_5
            try clear hcz8_6
            try clear hcz8_7
            try clear hcz8_8
            try clear hcz8_9
            try clear hfz18_0
            try clear hfz18_1
            try clear hfz18_10
            try clear hfz18_11
            try clear hfz18_12
            try clear hfz18_2
            try clear hfz18_3
            try clear hfz18_4
            try clear hfz18_5
            try clear hfz18_6
            try clear hfz18_7
            try clear hfz18_8
            try clear hfz18_9
            try clear hfz6_0
            try clear hfz6_1
            try clear hfz6_10
            try clear hfz6_11
            try clear hfz6_12
            try clear hfz6_2
            try clear hfz6_3
            try clear hfz6_4
            try clear hfz6_5
            try clear hfz6_6
            try clear hfz6_7
            try clear hfz6_8
            try clear hfz6_9
            try clear hfz8_0
            try clear hfz8_1
            try clear hfz8_10
            try clear hfz8_11
            try clear hfz8_12
            try clear hfz8_2
            try clear hfz8_3
            try clear hfz8_4
            try clear hfz8_5
            try clear hfz8_6
            try clear hfz8_7
            try clear hfz8_8
            try clear hfz8_9
            try clear hx204_0
            try clear p2
            try clear p204
            try clear q204
            obtain ⟨x4_2, x7_2, rfl, HA, HK2, HO_4, BK199, HB⟩ := hrel
            cases gk with
            | zero => exact absurd HA.out (by simp [postroadref14_Bytes.l1])
            | succ k2 =>
              have H := HA.out
              clear HA
              simp only [postroadref14_Bytes.l1] at H
              by_cases c21 : x7_2 < (l0_11.length : Int)
              · rw [if_pos c21] at H
                have c21b0 : decide (x7_2 < (l0_11.length : Int)) = true := decide_eq_true c21
                clear c21
                by_cases c22 : 0 ≤ x7_2
                · rw [if_pos c22] at H
                  have c22b0 : decide (0 ≤ x7_2) = true := decide_eq_true c22
                  clear c22
                  replace H := Option.bind_eq_some_iff.mp H
                  obtain ⟨t212, A230, H⟩ := H
                  replace H : (if t212.length + (rdOf ByteArray.empty l0_11 x7_2).size < 140737488355328 then ((some (t212 ++ bytesOf (rdOf ByteArray.empty l0_11 x7_2) : List Int)).bind fun y216 => (if (y216.length : Int) > 1048576 then (some ((⟨#[]⟩ : ByteArray), 4)) else (postroadref14_Bytes.l1 k2 y216 (wrap64 (x7_2 + 1)) a0_0 a0_1 a0_2 a0_3 a0_4 a0_5 a0_6 a0_7 a0_8 a0_9 a0_10 l0_11 l0_12))) else (none)) = some (r1, r2) := H
                  have A23 := Aside0.mk A230
                  clear A230
                  by_cases c24 : t212.length + (rdOf ByteArray.empty l0_11 x7_2).size < 140737488355328
                  · rw [if_pos c24] at H
                    have LMc24 := Aside0.mk c24
                    clear c24
                    obtain ⟨y216, hy216⟩ : ∃ y_ : List Int, y_ = (t212 ++ bytesOf (rdOf ByteArray.empty l0_11 x7_2)) := ⟨_, rfl⟩
                    replace H : (if (y216.length : Int) > 1048576 then (some ((⟨#[]⟩ : ByteArray), 4)) else (postroadref14_Bytes.l1 k2 y216 (wrap64 (x7_2 + 1)) a0_0 a0_1 a0_2 a0_3 a0_4 a0_5 a0_6 a0_7 a0_8 a0_9 a0_10 l0_11 l0_12)) = some (r1, r2) := by first | (rw [hy216]; with_reducible exact H) | (have H2_ := (Option.bind_some _ _).symm.trans H; rw [hy216]; with_reducible exact H2_) | (have H2_ := (Option.bind_some _ _).symm.trans H; with_reducible exact H2_) | with_reducible exact H | (rw [hy216]; exact H) | exact H
                    have Ny216 := Aside0.mk hy216
                    clear hy216
                    by_cases c25 : (y216.length : Int) > 1048576
                    · rw [if_pos c25] at H
                      have c25b0 : decide (1048576 < (y216.length : Int)) = true := decide_eq_true c25
                      have c25b1 : decide (1048576 < y216.length) = true := decide_eq_true (by omega)
                      clear c25
                      simp only [Option.some.injEq, Prod.mk.injEq] at H
                      obtain ⟨rfl, rfl⟩ := H
                      have hcz26_0 : wr.cell? ⟨gb199, 0, none⟩ = some (.int .i64 a0_0) := (blk_cell BK199.out 0).trans rfl
                      have hcz26_1 : wr.cell? ⟨gb199, 1, none⟩ = some (.int .i64 a0_1) := (blk_cell BK199.out 1).trans rfl
                      have hcz26_2 : wr.cell? ⟨gb199, 2, none⟩ = some (.int .i64 a0_2) := (blk_cell BK199.out 2).trans rfl
                      have hcz26_3 : wr.cell? ⟨gb199, 3, none⟩ = some (.int .i64 a0_3) := (blk_cell BK199.out 3).trans rfl
                      have hcz26_4 : wr.cell? ⟨gb199, 4, none⟩ = some (.int .i64 a0_4) := (blk_cell BK199.out 4).trans rfl
                      have hcz26_5 : wr.cell? ⟨gb199, 5, none⟩ = some (.int .i64 a0_5) := (blk_cell BK199.out 5).trans rfl
                      have hcz26_6 : wr.cell? ⟨gb199, 6, none⟩ = some (.int .i64 a0_6) := (blk_cell BK199.out 6).trans rfl
                      have hcz26_7 : wr.cell? ⟨gb199, 7, none⟩ = some (.int .i64 a0_7) := (blk_cell BK199.out 7).trans rfl
                      have hcz26_8 : wr.cell? ⟨gb199, 8, none⟩ = some (.int .i64 a0_8) := (blk_cell BK199.out 8).trans rfl
                      have hcz26_9 : wr.cell? ⟨gb199, 9, none⟩ = some (.int .i64 a0_9) := (blk_cell BK199.out 9).trans rfl
                      have hcz26_10 : wr.cell? ⟨gb199, 10, none⟩ = some (.int .i64 a0_10) := (blk_cell BK199.out 10).trans rfl
                      have hcz26_11 : wr.cell? ⟨gb199, 11, none⟩ = some (.slice A0_11 l0_11.length c0_11) := (blk_cell BK199.out 11).trans rfl
                      have hcz26_12 : wr.cell? ⟨gb199, 12, none⟩ = some (.slice A0_12 l0_12.length c0_12) := (blk_cell BK199.out 12).trans rfl
                      have hfz26_0 := blk_frozen BK199.out 0
                      have hfz26_1 := blk_frozen BK199.out 1
                      have hfz26_2 := blk_frozen BK199.out 2
                      have hfz26_3 := blk_frozen BK199.out 3
                      have hfz26_4 := blk_frozen BK199.out 4
                      have hfz26_5 := blk_frozen BK199.out 5
                      have hfz26_6 := blk_frozen BK199.out 6
                      have hfz26_7 := blk_frozen BK199.out 7
                      have hfz26_8 := blk_frozen BK199.out 8
                      have hfz26_9 := blk_frozen BK199.out 9
                      have hfz26_10 := blk_frozen BK199.out 10
                      have hfz26_11 := blk_frozen BK199.out 11
                      have hfz26_12 := blk_frozen BK199.out 12
                      have p211 : 0 ≤ (x7_2 : Int) := of_decide_eq_true (by first | (with_reducible assumption) | assumption)
                      have q211 : x7_2 < (l0_11.length : Int) := of_decide_eq_true (by first | (with_reducible assumption) | assumption)
                      obtain ⟨ad211, e211, hx211_0⟩ := Kd.at_string HR0_11.out x7_2 p211 q211
                      cases e211
                      replace hx211_0 := (HB.out.cell (World.block_lt_of_cell? w _ hx211_0)).trans hx211_0
                      replace p211 := eq_true p211
                      replace q211 := eq_true q211
                      obtain ⟨Ao27, co27, eo27⟩ := Kd.R_slice HO_4.out
                      subst eo27
                      go_wp2_with (first | ((with_reducible refine gate_callee (f := 26) rfl ?_); refine goesL_ (some 46) rfl rfl Try.func26 (by kernel_rfl) rfl #[.slice Ao27 x4_2.length co27, .int .i64 ((rdOf ByteArray.empty l0_11 x7_2).size : Int)] rfl (by (try simp only [List.map_toArray, List.map_cons, List.map_nil]); first | done | rfl | (simp only [List.length_drop, List.length_take]; rfl)) ?_; (with_reducible refine (postroadref14_put.calls k2 (fun k_ => some k_ = (.slice Ao27 x4_2.length co27 : Value).ownBlock) (.slice Ao27 x4_2.length co27) x4_2 ((rdOf ByteArray.empty l0_11 x7_2).size : Int) t212 w _ ?side1 ?side2 A23.out).mono ?_); (case side1 => repeat (first | (with_reducible first | exact HB.out | apply below_alloc | apply pw_below_drewN | apply below_drew1 | refine below_set ?_ GE199.out) | exact HB.out)); (case side2 => exact Kd.R_tight rfl HO_4.out); rintro e w28 ⟨v213, rfl, ho0, hb, hkp⟩; refine ⟨_, rfl, ?_⟩; have n0_ := Aside0.mk (blk_kept (by (with_reducible repeat (first | refine blk_drewN ?_ _ | refine blk_drew ?_ | refine blk_alloc ?_ _)); exact BK199.out) hkp (fun hs_ => (fun e_ => (Kd.R_ne HO_4.out BK199.out (by decide)) e_) hs_)); have n1_ := Aside0.mk (Kd.R_mono (ok' := fun k_ => True) ho0 (fun k_ hk_ => trivial)); have n2_ := Aside0.mk (hb); clear BK199; clear HB; clear HO_4; have BK199 := n0_; have HO214 := n1_; have HB := n2_; clear n0_ n1_ n2_; (try clear hb); (try clear hkp); (try clear ho0); have hcz29_0 : w28.cell? ⟨gb199, 0, none⟩ = some (.int .i64 a0_0) := (blk_cell BK199.out 0).trans rfl; have hcz29_1 : w28.cell? ⟨gb199, 1, none⟩ = some (.int .i64 a0_1) := (blk_cell BK199.out 1).trans rfl; have hcz29_2 : w28.cell? ⟨gb199, 2, none⟩ = some (.int .i64 a0_2) := (blk_cell BK199.out 2).trans rfl; have hcz29_3 : w28.cell? ⟨gb199, 3, none⟩ = some (.int .i64 a0_3) := (blk_cell BK199.out 3).trans rfl; have hcz29_4 : w28.cell? ⟨gb199, 4, none⟩ = some (.int .i64 a0_4) := (blk_cell BK199.out 4).trans rfl; have hcz29_5 : w28.cell? ⟨gb199, 5, none⟩ = some (.int .i64 a0_5) := (blk_cell BK199.out 5).trans rfl; have hcz29_6 : w28.cell? ⟨gb199, 6, none⟩ = some (.int .i64 a0_6) := (blk_cell BK199.out 6).trans rfl; have hcz29_7 : w28.cell? ⟨gb199, 7, none⟩ = some (.int .i64 a0_7) := (blk_cell BK199.out 7).trans rfl; have hcz29_8 : w28.cell? ⟨gb199, 8, none⟩ = some (.int .i64 a0_8) := (blk_cell BK199.out 8).trans rfl; have hcz29_9 : w28.cell? ⟨gb199, 9, none⟩ = some (.int .i64 a0_9) := (blk_cell BK199.out 9).trans rfl; have hcz29_10 : w28.cell? ⟨gb199, 10, none⟩ = some (.int .i64 a0_10) := (blk_cell BK199.out 10).trans rfl; have hcz29_11 : w28.cell? ⟨gb199, 11, none⟩ = some (.slice (some ad211) l0_11.length c0_11) := (blk_cell BK199.out 11).trans rfl; have hcz29_12 : w28.cell? ⟨gb199, 12, none⟩ = some (.slice A0_12 l0_12.length c0_12) := (blk_cell BK199.out 12).trans rfl; have hfz29_0 := blk_frozen BK199.out 0; have hfz29_1 := blk_frozen BK199.out 1; have hfz29_2 := blk_frozen BK199.out 2; have hfz29_3 := blk_frozen BK199.out 3; have hfz29_4 := blk_frozen BK199.out 4; have hfz29_5 := blk_frozen BK199.out 5; have hfz29_6 := blk_frozen BK199.out 6; have hfz29_7 := blk_frozen BK199.out 7; have hfz29_8 := blk_frozen BK199.out 8; have hfz29_9 := blk_frozen BK199.out 9; have hfz29_10 := blk_frozen BK199.out 10; have hfz29_11 := blk_frozen BK199.out 11; have hfz29_12 := blk_frozen BK199.out 12; have p215 : 0 ≤ (x7_2 : Int) := of_decide_eq_true (by first | (with_reducible assumption) | assumption); have q215 : x7_2 < (l0_11.length : Int) := of_decide_eq_true (by first | (with_reducible assumption) | assumption); obtain ⟨ad215, e215, hx215_0⟩ := Kd.at_string HR0_11.out x7_2 p215 q215; obtain rfl : ad211 = ad215 := (by injection e215); replace hx215_0 := (HB.out.cell (World.block_lt_of_cell? w _ hx215_0)).trans hx215_0; replace p215 := eq_true p215; replace q215 := eq_true q215) | (at_builtin; refine print_append_str (w0 := w) w.heap.size rfl (.tmp 47) _ 38 9 5 rfl Try.underlying38 Try.underlying9 info5 v213 t212 (rdOf ByteArray.empty l0_11 x7_2) rfl rfl ?aO ?aB ?aS ?aL ?_; (case aB => exact (by repeat (first | (with_reducible first | exact HB.out | apply below_alloc | apply pw_below_drewN | apply below_drew1 | refine below_set ?_ GE199.out) | exact HB.out))); (case aO => exact (Kd.own_of_R (by (with_reducible repeat (first | apply Kd.R_alloc | apply Kd.R_drewN | apply Kd.R_drew)); exact HO214.out))); (case aS => exact (below_size (by repeat (first | (with_reducible first | exact HB.out | apply below_alloc | apply pw_below_drewN | apply below_drew1 | refine below_set ?_ GE199.out) | exact HB.out)))); (case aL => have := LMc24.out; omega); intro v217 w30 ho0 hb hg; have ho := Kd.R_of_own (h1 := fun _ => rfl) (ok := fun _ => True) ho0 (fun _ _ => trivial); clear ho0; have hat := True.intro; rw [← Ny216.out] at ho; change Kd.R (Kd.int .u8) 5 w30 w.heap.size (fun _ => True) v217 y216 at ho; have n0_ := Aside0.mk (blk_grown (g := gb199) (o := .cells #[.int .i64 a0_0, .int .i64 a0_1, .int .i64 a0_2, .int .i64 a0_3, .int .i64 a0_4, .int .i64 a0_5, .int .i64 a0_6, .int .i64 a0_7, .int .i64 a0_8, .int .i64 a0_9, .int .i64 a0_10, .slice (some ad211) l0_11.length c0_11, .slice A0_12 l0_12.length c0_12] 28 (0, 0)) (by (with_reducible repeat (first | refine blk_drewN ?_ _ | refine blk_drew ?_ | refine blk_alloc ?_ _)); exact BK199.out) hg (Kd.R_ne HO214.out BK199.out (by decide))); have n1_ := Aside0.mk (hb); have n2_ := Aside0.mk (ho); clear BK199; clear HB; clear HO214; have BK199 := n0_; have HB := n1_; have HO218 := n2_; clear n0_ n1_ n2_; clear ho hb hg hat; obtain ⟨Ao31, co31, eo31⟩ := Kd.R_slice HO218.out; subst eo31))
                      go_ret2
                      exact ⟨by first | rfl | (simp [errW_none, errW_some] <;> rfl) | (simp [*, errW_none, errW_some] <;> rfl), by repeat (first | (with_reducible first | exact HB.out | apply below_alloc | apply pw_below_drewN | apply below_drew1 | refine below_set ?_ GE199.out) | exact HB.out)⟩
                    · rw [if_neg c25] at H
                      have c25b0 : decide (1048576 < (y216.length : Int)) = false := decide_eq_false c25
                      have c25b1 : decide (1048576 < y216.length) = false := decide_eq_false (by omega)
                      clear c25
                      have H' := Aside0.mk H
                      clear H
                      have hcz32_0 : wr.cell? ⟨gb199, 0, none⟩ = some (.int .i64 a0_0) := (blk_cell BK199.out 0).trans rfl
                      have hcz32_1 : wr.cell? ⟨gb199, 1, none⟩ = some (.int .i64 a0_1) := (blk_cell BK199.out 1).trans rfl
                      have hcz32_2 : wr.cell? ⟨gb199, 2, none⟩ = some (.int .i64 a0_2) := (blk_cell BK199.out 2).trans rfl
                      have hcz32_3 : wr.cell? ⟨gb199, 3, none⟩ = some (.int .i64 a0_3) := (blk_cell BK199.out 3).trans rfl
                      have hcz32_4 : wr.cell? ⟨gb199, 4, none⟩ = some (.int .i64 a0_4) := (blk_cell BK199.out 4).trans rfl
                      have hcz32_5 : wr.cell? ⟨gb199, 5, none⟩ = some (.int .i64 a0_5) := (blk_cell BK199.out 5).trans rfl
                      have hcz32_6 : wr.cell? ⟨gb199, 6, none⟩ = some (.int .i64 a0_6) := (blk_cell BK199.out 6).trans rfl
                      have hcz32_7 : wr.cell? ⟨gb199, 7, none⟩ = some (.int .i64 a0_7) := (blk_cell BK199.out 7).trans rfl
                      have hcz32_8 : wr.cell? ⟨gb199, 8, none⟩ = some (.int .i64 a0_8) := (blk_cell BK199.out 8).trans rfl
                      have hcz32_9 : wr.cell? ⟨gb199, 9, none⟩ = some (.int .i64 a0_9) := (blk_cell BK199.out 9).trans rfl
                      have hcz32_10 : wr.cell? ⟨gb199, 10, none⟩ = some (.int .i64 a0_10) := (blk_cell BK199.out 10).trans rfl
                      have hcz32_11 : wr.cell? ⟨gb199, 11, none⟩ = some (.slice A0_11 l0_11.length c0_11) := (blk_cell BK199.out 11).trans rfl
                      have hcz32_12 : wr.cell? ⟨gb199, 12, none⟩ = some (.slice A0_12 l0_12.length c0_12) := (blk_cell BK199.out 12).trans rfl
                      have hfz32_0 := blk_frozen BK199.out 0
                      have hfz32_1 := blk_frozen BK199.out 1
                      have hfz32_2 := blk_frozen BK199.out 2
                      have hfz32_3 := blk_frozen BK199.out 3
                      have hfz32_4 := blk_frozen BK199.out 4
                      have hfz32_5 := blk_frozen BK199.out 5
                      have hfz32_6 := blk_frozen BK199.out 6
                      have hfz32_7 := blk_frozen BK199.out 7
                      have hfz32_8 := blk_frozen BK199.out 8
                      have hfz32_9 := blk_frozen BK199.out 9
                      have hfz32_10 := blk_frozen BK199.out 10
                      have hfz32_11 := blk_frozen BK199.out 11
                      have hfz32_12 := blk_frozen BK199.out 12
                      have p211 : 0 ≤ (x7_2 : Int) := of_decide_eq_true (by first | (with_reducible assumption) | assumption)
                      have q211 : x7_2 < (l0_11.length : Int) := of_decide_eq_true (by first | (with_reducible assumption) | assumption)
                      obtain ⟨ad211, e211, hx211_0⟩ := Kd.at_string HR0_11.out x7_2 p211 q211
                      cases e211
                      replace hx211_0 := (HB.out.cell (World.block_lt_of_cell? w _ hx211_0)).trans hx211_0
                      replace p211 := eq_true p211
                      replace q211 := eq_true q211
                      obtain ⟨Ao33, co33, eo33⟩ := Kd.R_slice HO_4.out
                      subst eo33
                      go_wp2_with (first | ((with_reducible refine gate_callee (f := 26) rfl ?_); refine goesL_ (some 46) rfl rfl Try.func26 (by kernel_rfl) rfl #[.slice Ao33 x4_2.length co33, .int .i64 ((rdOf ByteArray.empty l0_11 x7_2).size : Int)] rfl (by (try simp only [List.map_toArray, List.map_cons, List.map_nil]); first | done | rfl | (simp only [List.length_drop, List.length_take]; rfl)) ?_; (with_reducible refine (postroadref14_put.calls k2 (fun k_ => some k_ = (.slice Ao33 x4_2.length co33 : Value).ownBlock) (.slice Ao33 x4_2.length co33) x4_2 ((rdOf ByteArray.empty l0_11 x7_2).size : Int) t212 w _ ?side1 ?side2 A23.out).mono ?_); (case side1 => repeat (first | (with_reducible first | exact HB.out | apply below_alloc | apply pw_below_drewN | apply below_drew1 | refine below_set ?_ GE199.out) | exact HB.out)); (case side2 => exact Kd.R_tight rfl HO_4.out); rintro e w34 ⟨v213, rfl, ho0, hb, hkp⟩; refine ⟨_, rfl, ?_⟩; have n0_ := Aside0.mk (blk_kept (by (with_reducible repeat (first | refine blk_drewN ?_ _ | refine blk_drew ?_ | refine blk_alloc ?_ _)); exact BK199.out) hkp (fun hs_ => (fun e_ => (Kd.R_ne HO_4.out BK199.out (by decide)) e_) hs_)); have n1_ := Aside0.mk (Kd.R_mono (ok' := fun k_ => True) ho0 (fun k_ hk_ => trivial)); have n2_ := Aside0.mk (hb); clear BK199; clear HB; clear HO_4; have BK199 := n0_; have HO214 := n1_; have HB := n2_; clear n0_ n1_ n2_; (try clear hb); (try clear hkp); (try clear ho0); have hcz35_0 : w34.cell? ⟨gb199, 0, none⟩ = some (.int .i64 a0_0) := (blk_cell BK199.out 0).trans rfl; have hcz35_1 : w34.cell? ⟨gb199, 1, none⟩ = some (.int .i64 a0_1) := (blk_cell BK199.out 1).trans rfl; have hcz35_2 : w34.cell? ⟨gb199, 2, none⟩ = some (.int .i64 a0_2) := (blk_cell BK199.out 2).trans rfl; have hcz35_3 : w34.cell? ⟨gb199, 3, none⟩ = some (.int .i64 a0_3) := (blk_cell BK199.out 3).trans rfl; have hcz35_4 : w34.cell? ⟨gb199, 4, none⟩ = some (.int .i64 a0_4) := (blk_cell BK199.out 4).trans rfl; have hcz35_5 : w34.cell? ⟨gb199, 5, none⟩ = some (.int .i64 a0_5) := (blk_cell BK199.out 5).trans rfl; have hcz35_6 : w34.cell? ⟨gb199, 6, none⟩ = some (.int .i64 a0_6) := (blk_cell BK199.out 6).trans rfl; have hcz35_7 : w34.cell? ⟨gb199, 7, none⟩ = some (.int .i64 a0_7) := (blk_cell BK199.out 7).trans rfl; have hcz35_8 : w34.cell? ⟨gb199, 8, none⟩ = some (.int .i64 a0_8) := (blk_cell BK199.out 8).trans rfl; have hcz35_9 : w34.cell? ⟨gb199, 9, none⟩ = some (.int .i64 a0_9) := (blk_cell BK199.out 9).trans rfl; have hcz35_10 : w34.cell? ⟨gb199, 10, none⟩ = some (.int .i64 a0_10) := (blk_cell BK199.out 10).trans rfl; have hcz35_11 : w34.cell? ⟨gb199, 11, none⟩ = some (.slice (some ad211) l0_11.length c0_11) := (blk_cell BK199.out 11).trans rfl; have hcz35_12 : w34.cell? ⟨gb199, 12, none⟩ = some (.slice A0_12 l0_12.length c0_12) := (blk_cell BK199.out 12).trans rfl; have hfz35_0 := blk_frozen BK199.out 0; have hfz35_1 := blk_frozen BK199.out 1; have hfz35_2 := blk_frozen BK199.out 2; have hfz35_3 := blk_frozen BK199.out 3; have hfz35_4 := blk_frozen BK199.out 4; have hfz35_5 := blk_frozen BK199.out 5; have hfz35_6 := blk_frozen BK199.out 6; have hfz35_7 := blk_frozen BK199.out 7; have hfz35_8 := blk_frozen BK199.out 8; have hfz35_9 := blk_frozen BK199.out 9; have hfz35_10 := blk_frozen BK199.out 10; have hfz35_11 := blk_frozen BK199.out 11; have hfz35_12 := blk_frozen BK199.out 12; have p215 : 0 ≤ (x7_2 : Int) := of_decide_eq_true (by first | (with_reducible assumption) | assumption); have q215 : x7_2 < (l0_11.length : Int) := of_decide_eq_true (by first | (with_reducible assumption) | assumption); obtain ⟨ad215, e215, hx215_0⟩ := Kd.at_string HR0_11.out x7_2 p215 q215; obtain rfl : ad211 = ad215 := (by injection e215); replace hx215_0 := (HB.out.cell (World.block_lt_of_cell? w _ hx215_0)).trans hx215_0; replace p215 := eq_true p215; replace q215 := eq_true q215) | (at_builtin; refine print_append_str (w0 := w) w.heap.size rfl (.tmp 47) _ 38 9 5 rfl Try.underlying38 Try.underlying9 info5 v213 t212 (rdOf ByteArray.empty l0_11 x7_2) rfl rfl ?aO ?aB ?aS ?aL ?_; (case aB => exact (by repeat (first | (with_reducible first | exact HB.out | apply below_alloc | apply pw_below_drewN | apply below_drew1 | refine below_set ?_ GE199.out) | exact HB.out))); (case aO => exact (Kd.own_of_R (by (with_reducible repeat (first | apply Kd.R_alloc | apply Kd.R_drewN | apply Kd.R_drew)); exact HO214.out))); (case aS => exact (below_size (by repeat (first | (with_reducible first | exact HB.out | apply below_alloc | apply pw_below_drewN | apply below_drew1 | refine below_set ?_ GE199.out) | exact HB.out)))); (case aL => have := LMc24.out; omega); intro v217 w36 ho0 hb hg; have ho := Kd.R_of_own (h1 := fun _ => rfl) (ok := fun _ => True) ho0 (fun _ _ => trivial); clear ho0; have hat := True.intro; rw [← Ny216.out] at ho; change Kd.R (Kd.int .u8) 5 w36 w.heap.size (fun _ => True) v217 y216 at ho; have n0_ := Aside0.mk (blk_grown (g := gb199) (o := .cells #[.int .i64 a0_0, .int .i64 a0_1, .int .i64 a0_2, .int .i64 a0_3, .int .i64 a0_4, .int .i64 a0_5, .int .i64 a0_6, .int .i64 a0_7, .int .i64 a0_8, .int .i64 a0_9, .int .i64 a0_10, .slice (some ad211) l0_11.length c0_11, .slice A0_12 l0_12.length c0_12] 28 (0, 0)) (by (with_reducible repeat (first | refine blk_drewN ?_ _ | refine blk_drew ?_ | refine blk_alloc ?_ _)); exact BK199.out) hg (Kd.R_ne HO214.out BK199.out (by decide))); have n1_ := Aside0.mk (hb); have n2_ := Aside0.mk (ho); clear BK199; clear HB; clear HO214; have BK199 := n0_; have HB := n1_; have HO218 := n2_; clear n0_ n1_ n2_; clear ho hb hg hat; obtain ⟨Ao37, co37, eo37⟩ := Kd.R_slice HO218.out; subst eo37))
                      go_roundg k2
                      case measure => have := HK1.out; have := HK2.out; omega
                      case rel => exact ⟨(y216), (wrap64 (x7_2 + 1)), (by first | rfl | (simp; done) | (simp [*]; done)), H', ⟨by have := HK1.out; have := HK2.out; omega⟩, ⟨by (with_reducible repeat (first | apply Kd.R_alloc | apply Kd.R_drewN | apply Kd.R_drew)); exact HO218.out⟩, ⟨by (with_reducible repeat (first | refine blk_drewN ?_ _ | refine blk_drew ?_ | refine blk_alloc ?_ _)); exact BK199.out⟩, ⟨by repeat (first | (with_reducible first | exact HB.out | apply below_alloc | apply pw_below_drewN | apply below_drew1 | refine below_set ?_ GE199.out) | exact HB.out)⟩⟩
                  · rw [if_neg c24] at H
                    exact absurd H (by simp)
                · rw [if_neg c22] at H
                  exact absurd H (by simp)
              · rw [if_neg c21] at H
                have c21b0 : decide (x7_2 < (l0_11.length : Int)) = false := decide_eq_false c21
                clear c21
                replace H := Option.bind_eq_some_iff.mp H
                obtain ⟨t219, A380, H⟩ := H
                replace H : ((postroadref09_Bytes.f k2 l0_12 0).bind fun bt222 => (if t219.length + bt222.1.size < 140737488355328 then ((some (t219 ++ bytesOf bt222.1 : List Int)).bind fun y224 => (if (y224.length : Int) > 1048576 then (some ((⟨#[]⟩ : ByteArray), 4)) else (some (strOfNums y224, 0)))) else (none))) = some (r1, r2) := H
                have A38 := Aside0.mk A380
                clear A380
                replace H := Option.bind_eq_some_iff.mp H
                obtain ⟨⟨t222, t223⟩, A390, H⟩ := H
                replace H : (if t219.length + t222.size < 140737488355328 then ((some (t219 ++ bytesOf t222 : List Int)).bind fun y224 => (if (y224.length : Int) > 1048576 then (some ((⟨#[]⟩ : ByteArray), 4)) else (some (strOfNums y224, 0)))) else (none)) = some (r1, r2) := H
                have A39 := Aside0.mk A390
                clear A390
                by_cases c40 : t219.length + t222.size < 140737488355328
                · rw [if_pos c40] at H
                  have LMc40 := Aside0.mk c40
                  clear c40
                  obtain ⟨y224, hy224⟩ : ∃ y_ : List Int, y_ = (t219 ++ bytesOf t222) := ⟨_, rfl⟩
                  replace H : (if (y224.length : Int) > 1048576 then (some ((⟨#[]⟩ : ByteArray), 4)) else (some (strOfNums y224, 0))) = some (r1, r2) := by first | (rw [hy224]; with_reducible exact H) | (have H2_ := (Option.bind_some _ _).symm.trans H; rw [hy224]; with_reducible exact H2_) | (have H2_ := (Option.bind_some _ _).symm.trans H; with_reducible exact H2_) | with_reducible exact H | (rw [hy224]; exact H) | exact H
                  have Ny224 := Aside0.mk hy224
                  clear hy224
                  by_cases c41 : (y224.length : Int) > 1048576
                  · rw [if_pos c41] at H
                    have c41b0 : decide (1048576 < (y224.length : Int)) = true := decide_eq_true c41
                    have c41b1 : decide (1048576 < y224.length) = true := decide_eq_true (by omega)
                    clear c41
                    simp only [Option.some.injEq, Prod.mk.injEq] at H
                    obtain ⟨rfl, rfl⟩ := H
                    have hcz42_0 : wr.cell? ⟨gb199, 0, none⟩ = some (.int .i64 a0_0) := (blk_cell BK199.out 0).trans rfl
                    have hcz42_1 : wr.cell? ⟨gb199, 1, none⟩ = some (.int .i64 a0_1) := (blk_cell BK199.out 1).trans rfl
                    have hcz42_2 : wr.cell? ⟨gb199, 2, none⟩ = some (.int .i64 a0_2) := (blk_cell BK199.out 2).trans rfl
                    have hcz42_3 : wr.cell? ⟨gb199, 3, none⟩ = some (.int .i64 a0_3) := (blk_cell BK199.out 3).trans rfl
                    have hcz42_4 : wr.cell? ⟨gb199, 4, none⟩ = some (.int .i64 a0_4) := (blk_cell BK199.out 4).trans rfl
                    have hcz42_5 : wr.cell? ⟨gb199, 5, none⟩ = some (.int .i64 a0_5) := (blk_cell BK199.out 5).trans rfl
                    have hcz42_6 : wr.cell? ⟨gb199, 6, none⟩ = some (.int .i64 a0_6) := (blk_cell BK199.out 6).trans rfl
                    have hcz42_7 : wr.cell? ⟨gb199, 7, none⟩ = some (.int .i64 a0_7) := (blk_cell BK199.out 7).trans rfl
                    have hcz42_8 : wr.cell? ⟨gb199, 8, none⟩ = some (.int .i64 a0_8) := (blk_cell BK199.out 8).trans rfl
                    have hcz42_9 : wr.cell? ⟨gb199, 9, none⟩ = some (.int .i64 a0_9) := (blk_cell BK199.out 9).trans rfl
                    have hcz42_10 : wr.cell? ⟨gb199, 10, none⟩ = some (.int .i64 a0_10) := (blk_cell BK199.out 10).trans rfl
                    have hcz42_11 : wr.cell? ⟨gb199, 11, none⟩ = some (.slice A0_11 l0_11.length c0_11) := (blk_cell BK199.out 11).trans rfl
                    have hcz42_12 : wr.cell? ⟨gb199, 12, none⟩ = some (.slice A0_12 l0_12.length c0_12) := (blk_cell BK199.out 12).trans rfl
                    have hfz42_0 := blk_frozen BK199.out 0
                    have hfz42_1 := blk_frozen BK199.out 1
                    have hfz42_2 := blk_frozen BK199.out 2
                    have hfz42_3 := blk_frozen BK199.out 3
                    have hfz42_4 := blk_frozen BK199.out 4
                    have hfz42_5 := blk_frozen BK199.out 5
                    have hfz42_6 := blk_frozen BK199.out 6
                    have hfz42_7 := blk_frozen BK199.out 7
                    have hfz42_8 := blk_frozen BK199.out 8
                    have hfz42_9 := blk_frozen BK199.out 9
                    have hfz42_10 := blk_frozen BK199.out 10
                    have hfz42_11 := blk_frozen BK199.out 11
                    have hfz42_12 := blk_frozen BK199.out 12
                    obtain ⟨Ao43, co43, eo43⟩ := Kd.R_slice HO_4.out
                    subst eo43
                    go_wp2_with (first | ((with_reducible refine gate_callee (f := 26) rfl ?_); refine goesL_ (some 61) rfl rfl Try.func26 (by kernel_rfl) rfl #[.slice Ao43 x4_2.length co43, .int .i64 (l0_12.length : Int)] rfl (by (try simp only [List.map_toArray, List.map_cons, List.map_nil]); first | done | rfl | (simp only [List.length_drop, List.length_take]; rfl)) ?_; (with_reducible refine (postroadref14_put.calls k2 (fun k_ => some k_ = (.slice Ao43 x4_2.length co43 : Value).ownBlock) (.slice Ao43 x4_2.length co43) x4_2 (l0_12.length : Int) t219 w _ ?side1 ?side2 A38.out).mono ?_); (case side1 => repeat (first | (with_reducible first | exact HB.out | apply below_alloc | apply pw_below_drewN | apply below_drew1 | refine below_set ?_ GE199.out) | exact HB.out)); (case side2 => exact Kd.R_tight rfl HO_4.out); rintro e w44 ⟨v220, rfl, ho0, hb, hkp⟩; refine ⟨_, rfl, ?_⟩; have n0_ := Aside0.mk (blk_kept (by (with_reducible repeat (first | refine blk_drewN ?_ _ | refine blk_drew ?_ | refine blk_alloc ?_ _)); exact BK199.out) hkp (fun hs_ => (fun e_ => (Kd.R_ne HO_4.out BK199.out (by decide)) e_) hs_)); have n1_ := Aside0.mk (Kd.R_mono (ok' := fun k_ => True) ho0 (fun k_ hk_ => trivial)); have n2_ := Aside0.mk (hb); clear BK199; clear HB; clear HO_4; have BK199 := n0_; have HO221 := n1_; have HB := n2_; clear n0_ n1_ n2_; (try clear hb); (try clear hkp); (try clear ho0); have hcz45_0 : w44.cell? ⟨gb199, 0, none⟩ = some (.int .i64 a0_0) := (blk_cell BK199.out 0).trans rfl; have hcz45_1 : w44.cell? ⟨gb199, 1, none⟩ = some (.int .i64 a0_1) := (blk_cell BK199.out 1).trans rfl; have hcz45_2 : w44.cell? ⟨gb199, 2, none⟩ = some (.int .i64 a0_2) := (blk_cell BK199.out 2).trans rfl; have hcz45_3 : w44.cell? ⟨gb199, 3, none⟩ = some (.int .i64 a0_3) := (blk_cell BK199.out 3).trans rfl; have hcz45_4 : w44.cell? ⟨gb199, 4, none⟩ = some (.int .i64 a0_4) := (blk_cell BK199.out 4).trans rfl; have hcz45_5 : w44.cell? ⟨gb199, 5, none⟩ = some (.int .i64 a0_5) := (blk_cell BK199.out 5).trans rfl; have hcz45_6 : w44.cell? ⟨gb199, 6, none⟩ = some (.int .i64 a0_6) := (blk_cell BK199.out 6).trans rfl; have hcz45_7 : w44.cell? ⟨gb199, 7, none⟩ = some (.int .i64 a0_7) := (blk_cell BK199.out 7).trans rfl; have hcz45_8 : w44.cell? ⟨gb199, 8, none⟩ = some (.int .i64 a0_8) := (blk_cell BK199.out 8).trans rfl; have hcz45_9 : w44.cell? ⟨gb199, 9, none⟩ = some (.int .i64 a0_9) := (blk_cell BK199.out 9).trans rfl; have hcz45_10 : w44.cell? ⟨gb199, 10, none⟩ = some (.int .i64 a0_10) := (blk_cell BK199.out 10).trans rfl; have hcz45_11 : w44.cell? ⟨gb199, 11, none⟩ = some (.slice A0_11 l0_11.length c0_11) := (blk_cell BK199.out 11).trans rfl; have hcz45_12 : w44.cell? ⟨gb199, 12, none⟩ = some (.slice A0_12 l0_12.length c0_12) := (blk_cell BK199.out 12).trans rfl; have hfz45_0 := blk_frozen BK199.out 0; have hfz45_1 := blk_frozen BK199.out 1; have hfz45_2 := blk_frozen BK199.out 2; have hfz45_3 := blk_frozen BK199.out 3; have hfz45_4 := blk_frozen BK199.out 4; have hfz45_5 := blk_frozen BK199.out 5; have hfz45_6 := blk_frozen BK199.out 6; have hfz45_7 := blk_frozen BK199.out 7; have hfz45_8 := blk_frozen BK199.out 8; have hfz45_9 := blk_frozen BK199.out 9; have hfz45_10 := blk_frozen BK199.out 10; have hfz45_11 := blk_frozen BK199.out 11; have hfz45_12 := blk_frozen BK199.out 12) | ((with_reducible refine gate_callee (f := 27) rfl ?_); refine goesL_ (some 65) rfl rfl Try.func27 (by kernel_rfl) rfl #[.slice A0_12 l0_12.length c0_12, .int .i64 0] rfl (by (try simp only [List.map_toArray, List.map_cons, List.map_nil]); first | done | rfl | (simp only [List.length_drop, List.length_take]; rfl)) ?_; (with_reducible refine (postroadref09_Bytes.calls k2 _ _ l0_12 0 t222 t223 _ ?side1 ?side2 A39.out).mono ?_); (case side1 => repeat (first | exact (Kd.C_below HR0_12.out HB.out) | (with_reducible refine Kd.C_alloc ?_ _) | (with_reducible refine Kd.C_drewN ?_ _) | (with_reducible refine Kd.C_drew ?_))); (case side2 => exact HC0_12.out); rintro e w46 ⟨rfl, hb⟩; refine ⟨_, rfl, ?_⟩; have n0_ := Aside0.mk (Kd.R_below (by (with_reducible repeat (first | apply Kd.R_alloc | apply Kd.R_drewN | apply Kd.R_drew)); exact HO221.out) hb); have n1_ := Aside0.mk (blk_below (g := gb199) (o := .cells #[.int .i64 a0_0, .int .i64 a0_1, .int .i64 a0_2, .int .i64 a0_3, .int .i64 a0_4, .int .i64 a0_5, .int .i64 a0_6, .int .i64 a0_7, .int .i64 a0_8, .int .i64 a0_9, .int .i64 a0_10, .slice A0_11 l0_11.length c0_11, .slice A0_12 l0_12.length c0_12] 28 (0, 0)) (by (with_reducible repeat (first | refine blk_drewN ?_ _ | refine blk_drew ?_ | refine blk_alloc ?_ _)); exact BK199.out) hb); have n2_ := Aside0.mk (below_step (by repeat (first | (with_reducible first | exact HB.out | apply below_alloc | apply pw_below_drewN | apply below_drew1 | refine below_set ?_ GE199.out) | exact HB.out)) hb); clear HO221; clear BK199; clear HB; have HO221 := n0_; have BK199 := n1_; have HB := n2_; clear n0_ n1_ n2_; (try clear hb); (try clear hb2); (try clear hk); (try clear hi)) | (at_builtin; refine print_append_str (w0 := w) w.heap.size rfl (.tmp 68) _ 38 9 5 rfl Try.underlying38 Try.underlying9 info5 v220 t219 t222 rfl rfl ?aO ?aB ?aS ?aL ?_; (case aB => exact (by repeat (first | (with_reducible first | exact HB.out | apply below_alloc | apply pw_below_drewN | apply below_drew1 | refine below_set ?_ GE199.out) | exact HB.out))); (case aO => exact (Kd.own_of_R (by (with_reducible repeat (first | apply Kd.R_alloc | apply Kd.R_drewN | apply Kd.R_drew)); exact HO221.out))); (case aS => exact (below_size (by repeat (first | (with_reducible first | exact HB.out | apply below_alloc | apply pw_below_drewN | apply below_drew1 | refine below_set ?_ GE199.out) | exact HB.out)))); (case aL => have := LMc40.out; omega); intro v225 w47 ho0 hb hg; have ho := Kd.R_of_own (h1 := fun _ => rfl) (ok := fun _ => True) ho0 (fun _ _ => trivial); clear ho0; have hat := True.intro; rw [← Ny224.out] at ho; change Kd.R (Kd.int .u8) 5 w47 w.heap.size (fun _ => True) v225 y224 at ho; have n0_ := Aside0.mk (blk_grown (g := gb199) (o := .cells #[.int .i64 a0_0, .int .i64 a0_1, .int .i64 a0_2, .int .i64 a0_3, .int .i64 a0_4, .int .i64 a0_5, .int .i64 a0_6, .int .i64 a0_7, .int .i64 a0_8, .int .i64 a0_9, .int .i64 a0_10, .slice A0_11 l0_11.length c0_11, .slice A0_12 l0_12.length c0_12] 28 (0, 0)) (by (with_reducible repeat (first | refine blk_drewN ?_ _ | refine blk_drew ?_ | refine blk_alloc ?_ _)); exact BK199.out) hg (Kd.R_ne HO221.out BK199.out (by decide))); have n1_ := Aside0.mk (hb); have n2_ := Aside0.mk (ho); clear BK199; clear HB; clear HO221; have BK199 := n0_; have HB := n1_; have HO226 := n2_; clear n0_ n1_ n2_; clear ho hb hg hat; obtain ⟨Ao48, co48, eo48⟩ := Kd.R_slice HO226.out; subst eo48))
                    go_ret2
                    exact ⟨by first | rfl | (simp [errW_none, errW_some] <;> rfl) | (simp [*, errW_none, errW_some] <;> rfl), by repeat (first | (with_reducible first | exact HB.out | apply below_alloc | apply pw_below_drewN | apply below_drew1 | refine below_set ?_ GE199.out) | exact HB.out)⟩
                  · rw [if_neg c41] at H
                    have c41b0 : decide (1048576 < (y224.length : Int)) = false := decide_eq_false c41
                    have c41b1 : decide (1048576 < y224.length) = false := decide_eq_false (by omega)
                    clear c41
                    simp only [Option.some.injEq, Prod.mk.injEq] at H
                    obtain ⟨rfl, rfl⟩ := H
                    have hcz49_0 : wr.cell? ⟨gb199, 0, none⟩ = some (.int .i64 a0_0) := (blk_cell BK199.out 0).trans rfl
                    have hcz49_1 : wr.cell? ⟨gb199, 1, none⟩ = some (.int .i64 a0_1) := (blk_cell BK199.out 1).trans rfl
                    have hcz49_2 : wr.cell? ⟨gb199, 2, none⟩ = some (.int .i64 a0_2) := (blk_cell BK199.out 2).trans rfl
                    have hcz49_3 : wr.cell? ⟨gb199, 3, none⟩ = some (.int .i64 a0_3) := (blk_cell BK199.out 3).trans rfl
                    have hcz49_4 : wr.cell? ⟨gb199, 4, none⟩ = some (.int .i64 a0_4) := (blk_cell BK199.out 4).trans rfl
                    have hcz49_5 : wr.cell? ⟨gb199, 5, none⟩ = some (.int .i64 a0_5) := (blk_cell BK199.out 5).trans rfl
                    have hcz49_6 : wr.cell? ⟨gb199, 6, none⟩ = some (.int .i64 a0_6) := (blk_cell BK199.out 6).trans rfl
                    have hcz49_7 : wr.cell? ⟨gb199, 7, none⟩ = some (.int .i64 a0_7) := (blk_cell BK199.out 7).trans rfl
                    have hcz49_8 : wr.cell? ⟨gb199, 8, none⟩ = some (.int .i64 a0_8) := (blk_cell BK199.out 8).trans rfl
                    have hcz49_9 : wr.cell? ⟨gb199, 9, none⟩ = some (.int .i64 a0_9) := (blk_cell BK199.out 9).trans rfl
                    have hcz49_10 : wr.cell? ⟨gb199, 10, none⟩ = some (.int .i64 a0_10) := (blk_cell BK199.out 10).trans rfl
                    have hcz49_11 : wr.cell? ⟨gb199, 11, none⟩ = some (.slice A0_11 l0_11.length c0_11) := (blk_cell BK199.out 11).trans rfl
                    have hcz49_12 : wr.cell? ⟨gb199, 12, none⟩ = some (.slice A0_12 l0_12.length c0_12) := (blk_cell BK199.out 12).trans rfl
                    have hfz49_0 := blk_frozen BK199.out 0
                    have hfz49_1 := blk_frozen BK199.out 1
                    have hfz49_2 := blk_frozen BK199.out 2
                    have hfz49_3 := blk_frozen BK199.out 3
                    have hfz49_4 := blk_frozen BK199.out 4
                    have hfz49_5 := blk_frozen BK199.out 5
                    have hfz49_6 := blk_frozen BK199.out 6
                    have hfz49_7 := blk_frozen BK199.out 7
                    have hfz49_8 := blk_frozen BK199.out 8
                    have hfz49_9 := blk_frozen BK199.out 9
                    have hfz49_10 := blk_frozen BK199.out 10
                    have hfz49_11 := blk_frozen BK199.out 11
                    have hfz49_12 := blk_frozen BK199.out 12
                    obtain ⟨Ao50, co50, eo50⟩ := Kd.R_slice HO_4.out
                    subst eo50
                    go_wp2_with (first | ((with_reducible refine gate_callee (f := 26) rfl ?_); refine goesL_ (some 61) rfl rfl Try.func26 (by kernel_rfl) rfl #[.slice Ao50 x4_2.length co50, .int .i64 (l0_12.length : Int)] rfl (by (try simp only [List.map_toArray, List.map_cons, List.map_nil]); first | done | rfl | (simp only [List.length_drop, List.length_take]; rfl)) ?_; (with_reducible refine (postroadref14_put.calls k2 (fun k_ => some k_ = (.slice Ao50 x4_2.length co50 : Value).ownBlock) (.slice Ao50 x4_2.length co50) x4_2 (l0_12.length : Int) t219 w _ ?side1 ?side2 A38.out).mono ?_); (case side1 => repeat (first | (with_reducible first | exact HB.out | apply below_alloc | apply pw_below_drewN | apply below_drew1 | refine below_set ?_ GE199.out) | exact HB.out)); (case side2 => exact Kd.R_tight rfl HO_4.out); rintro e w51 ⟨v220, rfl, ho0, hb, hkp⟩; refine ⟨_, rfl, ?_⟩; have n0_ := Aside0.mk (blk_kept (by (with_reducible repeat (first | refine blk_drewN ?_ _ | refine blk_drew ?_ | refine blk_alloc ?_ _)); exact BK199.out) hkp (fun hs_ => (fun e_ => (Kd.R_ne HO_4.out BK199.out (by decide)) e_) hs_)); have n1_ := Aside0.mk (Kd.R_mono (ok' := fun k_ => True) ho0 (fun k_ hk_ => trivial)); have n2_ := Aside0.mk (hb); clear BK199; clear HB; clear HO_4; have BK199 := n0_; have HO221 := n1_; have HB := n2_; clear n0_ n1_ n2_; (try clear hb); (try clear hkp); (try clear ho0); have hcz52_0 : w51.cell? ⟨gb199, 0, none⟩ = some (.int .i64 a0_0) := (blk_cell BK199.out 0).trans rfl; have hcz52_1 : w51.cell? ⟨gb199, 1, none⟩ = some (.int .i64 a0_1) := (blk_cell BK199.out 1).trans rfl; have hcz52_2 : w51.cell? ⟨gb199, 2, none⟩ = some (.int .i64 a0_2) := (blk_cell BK199.out 2).trans rfl; have hcz52_3 : w51.cell? ⟨gb199, 3, none⟩ = some (.int .i64 a0_3) := (blk_cell BK199.out 3).trans rfl; have hcz52_4 : w51.cell? ⟨gb199, 4, none⟩ = some (.int .i64 a0_4) := (blk_cell BK199.out 4).trans rfl; have hcz52_5 : w51.cell? ⟨gb199, 5, none⟩ = some (.int .i64 a0_5) := (blk_cell BK199.out 5).trans rfl; have hcz52_6 : w51.cell? ⟨gb199, 6, none⟩ = some (.int .i64 a0_6) := (blk_cell BK199.out 6).trans rfl; have hcz52_7 : w51.cell? ⟨gb199, 7, none⟩ = some (.int .i64 a0_7) := (blk_cell BK199.out 7).trans rfl; have hcz52_8 : w51.cell? ⟨gb199, 8, none⟩ = some (.int .i64 a0_8) := (blk_cell BK199.out 8).trans rfl; have hcz52_9 : w51.cell? ⟨gb199, 9, none⟩ = some (.int .i64 a0_9) := (blk_cell BK199.out 9).trans rfl; have hcz52_10 : w51.cell? ⟨gb199, 10, none⟩ = some (.int .i64 a0_10) := (blk_cell BK199.out 10).trans rfl; have hcz52_11 : w51.cell? ⟨gb199, 11, none⟩ = some (.slice A0_11 l0_11.length c0_11) := (blk_cell BK199.out 11).trans rfl; have hcz52_12 : w51.cell? ⟨gb199, 12, none⟩ = some (.slice A0_12 l0_12.length c0_12) := (blk_cell BK199.out 12).trans rfl; have hfz52_0 := blk_frozen BK199.out 0; have hfz52_1 := blk_frozen BK199.out 1; have hfz52_2 := blk_frozen BK199.out 2; have hfz52_3 := blk_frozen BK199.out 3; have hfz52_4 := blk_frozen BK199.out 4; have hfz52_5 := blk_frozen BK199.out 5; have hfz52_6 := blk_frozen BK199.out 6; have hfz52_7 := blk_frozen BK199.out 7; have hfz52_8 := blk_frozen BK199.out 8; have hfz52_9 := blk_frozen BK199.out 9; have hfz52_10 := blk_frozen BK199.out 10; have hfz52_11 := blk_frozen BK199.out 11; have hfz52_12 := blk_frozen BK199.out 12) | ((with_reducible refine gate_callee (f := 27) rfl ?_); refine goesL_ (some 65) rfl rfl Try.func27 (by kernel_rfl) rfl #[.slice A0_12 l0_12.length c0_12, .int .i64 0] rfl (by (try simp only [List.map_toArray, List.map_cons, List.map_nil]); first | done | rfl | (simp only [List.length_drop, List.length_take]; rfl)) ?_; (with_reducible refine (postroadref09_Bytes.calls k2 _ _ l0_12 0 t222 t223 _ ?side1 ?side2 A39.out).mono ?_); (case side1 => repeat (first | exact (Kd.C_below HR0_12.out HB.out) | (with_reducible refine Kd.C_alloc ?_ _) | (with_reducible refine Kd.C_drewN ?_ _) | (with_reducible refine Kd.C_drew ?_))); (case side2 => exact HC0_12.out); rintro e w53 ⟨rfl, hb⟩; refine ⟨_, rfl, ?_⟩; have n0_ := Aside0.mk (Kd.R_below (by (with_reducible repeat (first | apply Kd.R_alloc | apply Kd.R_drewN | apply Kd.R_drew)); exact HO221.out) hb); have n1_ := Aside0.mk (blk_below (g := gb199) (o := .cells #[.int .i64 a0_0, .int .i64 a0_1, .int .i64 a0_2, .int .i64 a0_3, .int .i64 a0_4, .int .i64 a0_5, .int .i64 a0_6, .int .i64 a0_7, .int .i64 a0_8, .int .i64 a0_9, .int .i64 a0_10, .slice A0_11 l0_11.length c0_11, .slice A0_12 l0_12.length c0_12] 28 (0, 0)) (by (with_reducible repeat (first | refine blk_drewN ?_ _ | refine blk_drew ?_ | refine blk_alloc ?_ _)); exact BK199.out) hb); have n2_ := Aside0.mk (below_step (by repeat (first | (with_reducible first | exact HB.out | apply below_alloc | apply pw_below_drewN | apply below_drew1 | refine below_set ?_ GE199.out) | exact HB.out)) hb); clear HO221; clear BK199; clear HB; have HO221 := n0_; have BK199 := n1_; have HB := n2_; clear n0_ n1_ n2_; (try clear hb); (try clear hb2); (try clear hk); (try clear hi)) | (at_builtin; refine print_append_str (w0 := w) w.heap.size rfl (.tmp 68) _ 38 9 5 rfl Try.underlying38 Try.underlying9 info5 v220 t219 t222 rfl rfl ?aO ?aB ?aS ?aL ?_; (case aB => exact (by repeat (first | (with_reducible first | exact HB.out | apply below_alloc | apply pw_below_drewN | apply below_drew1 | refine below_set ?_ GE199.out) | exact HB.out))); (case aO => exact (Kd.own_of_R (by (with_reducible repeat (first | apply Kd.R_alloc | apply Kd.R_drewN | apply Kd.R_drew)); exact HO221.out))); (case aS => exact (below_size (by repeat (first | (with_reducible first | exact HB.out | apply below_alloc | apply pw_below_drewN | apply below_drew1 | refine below_set ?_ GE199.out) | exact HB.out)))); (case aL => have := LMc40.out; omega); intro v225 w54 ho0 hb hg; have ho := Kd.R_of_own (h1 := fun _ => rfl) (ok := fun _ => True) ho0 (fun _ _ => trivial); clear ho0; have hat := True.intro; rw [← Ny224.out] at ho; change Kd.R (Kd.int .u8) 5 w54 w.heap.size (fun _ => True) v225 y224 at ho; have n0_ := Aside0.mk (blk_grown (g := gb199) (o := .cells #[.int .i64 a0_0, .int .i64 a0_1, .int .i64 a0_2, .int .i64 a0_3, .int .i64 a0_4, .int .i64 a0_5, .int .i64 a0_6, .int .i64 a0_7, .int .i64 a0_8, .int .i64 a0_9, .int .i64 a0_10, .slice A0_11 l0_11.length c0_11, .slice A0_12 l0_12.length c0_12] 28 (0, 0)) (by (with_reducible repeat (first | refine blk_drewN ?_ _ | refine blk_drew ?_ | refine blk_alloc ?_ _)); exact BK199.out) hg (Kd.R_ne HO221.out BK199.out (by decide))); have n1_ := Aside0.mk (hb); have n2_ := Aside0.mk (ho); clear BK199; clear HB; clear HO221; have BK199 := n0_; have HB := n1_; have HO226 := n2_; clear n0_ n1_ n2_; clear ho hb hg hat; obtain ⟨Ao55, co55, eo55⟩ := Kd.R_slice HO226.out; subst eo55; have hcv56 := own_string (P := Try.prog) Try.underlying38 Try.underlying5 Try.underlying9 (Kd.own_of_R HO226.out)))
                    go_ret2
                    exact ⟨by first | rfl | (simp [errW_none, errW_some] <;> rfl) | (simp [*, errW_none, errW_some] <;> rfl), by repeat (first | (with_reducible first | exact HB.out | apply below_alloc | apply pw_below_drewN | apply below_drew1 | refine below_set ?_ GE199.out) | exact HB.out)⟩
                · rw [if_neg c40] at H
                  exact absurd H (by simp)
  · replace c3 := Bool.eq_false_iff.mpr c3
    subst c3
    have H1 : (some ((⟨#[]⟩ : ByteArray), 140)) = some (r1, r2) := by rw [if_neg (show ¬ (false = true) by decide)] at H; exact H
    clear H
    have H := H1
    clear H1
    simp only [Option.some.injEq, Prod.mk.injEq] at H
    obtain ⟨rfl, rfl⟩ := H
    go_enter Try.func10, Try.ntmps10
    go_wp2_with (first | ((with_reducible refine gate_dst (N := 1) rfl ?_); refine box_event ?hg (N := 1) ?hd (cs := #[.int .i64 a0_0, .int .i64 a0_1, .int .i64 a0_2, .int .i64 a0_3, .int .i64 a0_4, .int .i64 a0_5, .int .i64 a0_6, .int .i64 a0_7, .int .i64 a0_8, .int .i64 a0_9, .int .i64 a0_10, .slice A0_11 l0_11.length c0_11, .slice A0_12 l0_12.length c0_12]) (t := 28) ?hr ?_; (case hd => rfl); (case hg => rfl); (case hr => first | (go_simp; done) | (go_simp; rfl)); intro gb199 hg w57 hbox hb; have n0_ := Aside0.mk (below_step (by repeat (first | (with_reducible first | exact HB.out | apply below_alloc | apply pw_below_drewN | apply below_drew1) | exact HB.out)) hb); have n1_ := Aside0.mk (hbox); have n2_ := Aside0.mk ((by rw [hg]; exact (below_size (by repeat (first | (with_reducible first | exact HB.out | apply below_alloc | apply pw_below_drewN | apply below_drew1) | exact HB.out))) : w.heap.size ≤ gb199)); have n3_ := Aside0.mk ((by rw [hg]; exact (below_size (by repeat (first | (with_reducible first | exact HB.out | apply below_alloc | apply pw_below_drewN | apply below_drew1) | exact HB.out))) : w.heap.size ≤ gb199)); clear HB; have HB := n0_; have BK199 := n1_; have GW199 := n2_; have GE199 := n3_; clear n0_ n1_ n2_ n3_; clear hb hbox hg; have hcz58_0 : w57.cell? ⟨gb199, 0, none⟩ = some (.int .i64 a0_0) := (blk_cell BK199.out 0).trans rfl; have hcz58_1 : w57.cell? ⟨gb199, 1, none⟩ = some (.int .i64 a0_1) := (blk_cell BK199.out 1).trans rfl; have hcz58_2 : w57.cell? ⟨gb199, 2, none⟩ = some (.int .i64 a0_2) := (blk_cell BK199.out 2).trans rfl; have hcz58_3 : w57.cell? ⟨gb199, 3, none⟩ = some (.int .i64 a0_3) := (blk_cell BK199.out 3).trans rfl; have hcz58_4 : w57.cell? ⟨gb199, 4, none⟩ = some (.int .i64 a0_4) := (blk_cell BK199.out 4).trans rfl; have hcz58_5 : w57.cell? ⟨gb199, 5, none⟩ = some (.int .i64 a0_5) := (blk_cell BK199.out 5).trans rfl; have hcz58_6 : w57.cell? ⟨gb199, 6, none⟩ = some (.int .i64 a0_6) := (blk_cell BK199.out 6).trans rfl; have hcz58_7 : w57.cell? ⟨gb199, 7, none⟩ = some (.int .i64 a0_7) := (blk_cell BK199.out 7).trans rfl; have hcz58_8 : w57.cell? ⟨gb199, 8, none⟩ = some (.int .i64 a0_8) := (blk_cell BK199.out 8).trans rfl; have hcz58_9 : w57.cell? ⟨gb199, 9, none⟩ = some (.int .i64 a0_9) := (blk_cell BK199.out 9).trans rfl; have hcz58_10 : w57.cell? ⟨gb199, 10, none⟩ = some (.int .i64 a0_10) := (blk_cell BK199.out 10).trans rfl; have hcz58_11 : w57.cell? ⟨gb199, 11, none⟩ = some (.slice A0_11 l0_11.length c0_11) := (blk_cell BK199.out 11).trans rfl; have hcz58_12 : w57.cell? ⟨gb199, 12, none⟩ = some (.slice A0_12 l0_12.length c0_12) := (blk_cell BK199.out 12).trans rfl; have hfz58_0 := blk_frozen BK199.out 0; have hfz58_1 := blk_frozen BK199.out 1; have hfz58_2 := blk_frozen BK199.out 2; have hfz58_3 := blk_frozen BK199.out 3; have hfz58_4 := blk_frozen BK199.out 4; have hfz58_5 := blk_frozen BK199.out 5; have hfz58_6 := blk_frozen BK199.out 6; have hfz58_7 := blk_frozen BK199.out 7; have hfz58_8 := blk_frozen BK199.out 8; have hfz58_9 := blk_frozen BK199.out 9; have hfz58_10 := blk_frozen BK199.out 10; have hfz58_11 := blk_frozen BK199.out 11; have hfz58_12 := blk_frozen BK199.out 12) | ((with_reducible refine gate_callee (f := 24) rfl ?_); refine goesL_ (some 11) rfl rfl Try.func24 (by kernel_rfl) rfl #[.agg #[.int .i64 a0_0, .int .i64 a0_1, .int .i64 a0_2, .int .i64 a0_3, .int .i64 a0_4, .int .i64 a0_5, .int .i64 a0_6, .int .i64 a0_7, .int .i64 a0_8, .int .i64 a0_9, .int .i64 a0_10, .slice A0_11 l0_11.length c0_11, .slice A0_12 l0_12.length c0_12]] rfl (by (try simp only [List.map_toArray, List.map_cons, List.map_nil]); first | done | rfl | (simp only [List.length_drop, List.length_take]; rfl)) ?_; (with_reducible refine (postroadref14_May.calls k a0_0 a0_1 a0_2 a0_3 a0_4 a0_5 a0_6 a0_7 a0_8 a0_9 a0_10 _ _ l0_11 _ _ l0_12 false _ ?side1 ?side2 ?side3 ?side4 A2.out).mono ?_); (case side1 => repeat (first | exact (Kd.C_below HR0_11.out HB.out) | (with_reducible refine Kd.C_alloc ?_ _) | (with_reducible refine Kd.C_drewN ?_ _) | (with_reducible refine Kd.C_drew ?_))); (case side2 => exact HC0_11.out); (case side3 => repeat (first | exact (Kd.C_below HR0_12.out HB.out) | (with_reducible refine Kd.C_alloc ?_ _) | (with_reducible refine Kd.C_drewN ?_ _) | (with_reducible refine Kd.C_drew ?_))); (case side4 => exact HC0_12.out); rintro e w59 ⟨rfl, hb⟩; refine ⟨_, rfl, ?_⟩; have n0_ := Aside0.mk (blk_below (g := gb199) (o := .cells #[.int .i64 a0_0, .int .i64 a0_1, .int .i64 a0_2, .int .i64 a0_3, .int .i64 a0_4, .int .i64 a0_5, .int .i64 a0_6, .int .i64 a0_7, .int .i64 a0_8, .int .i64 a0_9, .int .i64 a0_10, .slice A0_11 l0_11.length c0_11, .slice A0_12 l0_12.length c0_12] 28 (0, 0)) (by (with_reducible repeat (first | refine blk_drewN ?_ _ | refine blk_drew ?_ | refine blk_alloc ?_ _)); exact BK199.out) hb); have n1_ := Aside0.mk (below_step (by repeat (first | (with_reducible first | exact HB.out | apply below_alloc | apply pw_below_drewN | apply below_drew1 | refine below_set ?_ GE199.out) | exact HB.out)) hb); clear BK199; clear HB; have BK199 := n0_; have HB := n1_; clear n0_ n1_; (try clear hb); (try clear hb2); (try clear hk); (try clear hi)))
    go_ret2
    exact ⟨by first | rfl | (simp [errW_none, errW_some] <;> rfl) | (simp [*, errW_none, errW_some] <;> rfl), by repeat (first | (with_reducible first | exact HB.out | apply below_alloc | apply pw_below_drewN | apply below_drew1 | refine below_set ?_ GE199.out) | exact HB.out)⟩

end Go.Proofs.Ytojnhklgfdfkcaa.Fn
