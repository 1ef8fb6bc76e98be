-- machine text of this session's own
import Derived.Test.YtojnhklgfdfkcaaFnx0
import Derived.Test.YtojnhklgfdfkcaaFA
import Derived.Test.YtojnhklgfdfkcaaGE
namespace Go.Proofs.Ytojnhklgfdfkcaa.Fn
open Go.RowKit Go.Proofs.YtojnhklgfdfkcaaW.PrintWords Go.Proofs.YtojnhklgfdfkcaaW.PrintLast Go.Proofs.YtojnhklgfdfkcaaW.PrintMore
attribute [local go_sem] max2_int min2_int max_two min_two max_three min_three max_four min_four   -- for this text's walks alone
set_option linter.unusedVariables false
set_option linter.unusedSimpArgs false

/-! ### postroadlaw14_WireLong: function 6 -/
def postroadlaw14_WireLong.l0 : Nat → Int → Int → ByteArray → Int → Int → Int → Int → Int → Int → Int → Int → Int → Int → Int → Int → List ByteArray → Option (Bool)
  | 0, _, _, _, _, _, _, _, _, _, _, _, _, _, _, _, _ => none
  | k + 1, x5, x6, x8, x9, x375000, x375001, x375002, x375003, x375004, x375005, x375006, x375007, x375008, x375009, x375010, x375011 => if x9 < x5 then (if x375011.length < 8796093022208 then (postroadlaw14_WireLong.l0 k x5 x6 x8 (wrap64 (x9 + 1)) x375000 x375001 x375002 x375003 x375004 x375005 x375006 x375007 x375008 x375009 x375010 (x375011 ++ [x8])) else (none)) else ((wire_Bytes.f x375000 x375001 x375002 x375003 x375004 x375005 x375006 x375007 x375008 x375009 x375010 x375011 ([] : List (S63))).bind fun bt381 => (if (wrap64 (x5 * (wrap64 (x6 + 3)))) > 1048576 then (if bt381.2 = 4 then (if bt381.1.toList = ([] : List UInt8) then ((postroadlaw14_awake.f).bind fun t383 => (some t383)) else (if bt381.2 = 0 then (if (bt381.1.size : Int) ≤ 1048576 then ((postroadlaw14_awake.f).bind fun t384 => (some t384)) else (some false)) else (some false))) else (if bt381.2 = 0 then (if (bt381.1.size : Int) ≤ 1048576 then ((postroadlaw14_awake.f).bind fun t385 => (some t385)) else (some false)) else (some false))) else (if bt381.2 = 0 then (if (bt381.1.size : Int) ≥ (wrap64 (x5 * x6)) then ((postroadlaw14_awake.f).bind fun t386 => (some t386)) else (if (wrap64 ((wrap64 (x5 * (wrap64 (x6 + 3)))) + 40)) > 1048576 then ((postroadlaw14_awake.f).bind fun t387 => (some t387)) else (some false))) else (if (wrap64 ((wrap64 (x5 * (wrap64 (x6 + 3)))) + 40)) > 1048576 then ((postroadlaw14_awake.f).bind fun t388 => (some t388)) else (some false)))))
def postroadlaw14_WireLong.f (k : Nat) (a0 : Int) (a1 : Int) : Option (Bool) := if 0 ≤ (Go.bits .and .i64 a1 262143) then (if (Go.bits .and .i64 a1 262143 : Int).toNat ≤ 281474976710656 then (postroadlaw14_WireLong.l0 k (Go.bits .and .i64 a0 15) (Go.bits .and .i64 a1 262143) (strOfNums (List.replicate (Go.bits .and .i64 a1 262143 : Int).toNat 0)) 0 8 0 0 0 0 0 0 0 0 0 0 ([] : List ByteArray)) else (none)) else (none)
theorem postroadlaw14_WireLong.mono_l : ∀ k, (∀ y0 y1 y2 y3 y4 y5 y6 y7 y8 y9 y10 y11 y12 y13 y14 y15, LeO (postroadlaw14_WireLong.l0 k y0 y1 y2 y3 y4 y5 y6 y7 y8 y9 y10 y11 y12 y13 y14 y15) (postroadlaw14_WireLong.l0 (k + 1) y0 y1 y2 y3 y4 y5 y6 y7 y8 y9 y10 y11 y12 y13 y14 y15))
  | 0 => fun _ _ _ _ _ _ _ _ _ _ _ _ _ _ _ _ r h => by simp [postroadlaw14_WireLong.l0] at h
  | k + 1 => by
    have ih0 := postroadlaw14_WireLong.mono_l k
    · intro y0 y1 y2 y3 y4 y5 y6 y7 y8 y9 y10 y11 y12 y13 y14 y15
      unfold postroadlaw14_WireLong.l0
      repeat' first
      | (with_reducible exact ih0 _ _ _ _ _ _ _ _ _ _ _ _ _ _ _ _)
      | (with_reducible exact LeO.refl _)
      | (with_reducible exact LeO.none _)
      | (with_reducible refine LeO.ite ?_ ?_)
      | (with_reducible refine LeO.bind ?_ (fun _ => ?_))
      | exact ih0 _ _ _ _ _ _ _ _ _ _ _ _ _ _ _ _
      | exact LeO.none _
      | refine LeO.ite ?_ ?_
      | refine LeO.bind ?_ (fun _ => ?_)
theorem postroadlaw14_WireLong.mono : ∀ a0 a1 k, LeO (postroadlaw14_WireLong.f k a0 a1) (postroadlaw14_WireLong.f (k + 1) a0 a1) := by
  intro a0 a1 k
  have ih0 := postroadlaw14_WireLong.mono_l k
  unfold postroadlaw14_WireLong.f
  repeat' first
      | (with_reducible exact ih0 _ _ _ _ _ _ _ _ _ _ _ _ _ _ _ _)
      | (with_reducible exact LeO.refl _)
      | (with_reducible exact LeO.none _)
      | (with_reducible refine LeO.ite ?_ ?_)
      | (with_reducible refine LeO.bind ?_ (fun _ => ?_))
      | exact ih0 _ _ _ _ _ _ _ _ _ _ _ _ _ _ _ _
      | exact LeO.none _
      | refine LeO.ite ?_ ?_
      | refine LeO.bind ?_ (fun _ => ?_)
set_option maxHeartbeats 8000000 in
set_option maxRecDepth 100000 in
theorem postroadlaw14_WireLong.calls (k : Nat) (a0 : Int) (a1 : Int) (r : Bool) (w : World) (h : postroadlaw14_WireLong.f k a0 a1 = some r) :
    Calls Try.prog 6 #[.int .i64 a0, .int .i64 a1] w fun e w' => e = .returned (.bool r) ∧ Below w.heap.size w w' := by
  have hu28 := Try.underlying28
  have HB := Aside0.mk (Below.refl w.heap.size w)
  have H : (if 0 ≤ (Go.bits .and .i64 a1 262143) then (if (Go.bits .and .i64 a1 262143 : Int).toNat ≤ 281474976710656 then (postroadlaw14_WireLong.l0 k (Go.bits .and .i64 a0 15) (Go.bits .and .i64 a1 262143) (strOfNums (List.replicate (Go.bits .and .i64 a1 262143 : Int).toNat 0)) 0 8 0 0 0 0 0 0 0 0 0 0 ([] : List ByteArray)) else (none)) else (none)) = some r := h
  clear h
  by_cases c3 : 0 ≤ (Go.bits .and .i64 a1 262143)
  · rw [if_pos c3] at H
    have c3b0 := eq_true c3
    have c3b1 : decide (0 ≤ (Go.bits .and .i64 a1 262143)) = true := decide_eq_true c3
    clear c3
    by_cases c4 : (Go.bits .and .i64 a1 262143 : Int).toNat ≤ 281474976710656
    · rw [if_pos c4] at H
      have c4b0 := eq_true c4
      have c4b1 : decide ((Go.bits .and .i64 a1 262143 : Int).toNat ≤ 281474976710656) = true := decide_eq_true c4
      clear c4
      obtain ⟨y375, hy375⟩ : ∃ y_ : List Int, y_ = (List.replicate (Go.bits .and .i64 a1 262143 : Int).toNat 0) := ⟨_, rfl⟩
      replace H : (postroadlaw14_WireLong.l0 k (Go.bits .and .i64 a0 15) (Go.bits .and .i64 a1 262143) (strOfNums y375) 0 8 0 0 0 0 0 0 0 0 0 0 ([] : List ByteArray)) = some r := by first | (rw [hy375]; with_reducible exact H) | (have H2_ := (Option.bind_some _ _).symm.trans H; rw [hy375]; with_reducible exact H2_) | (have H2_ := (Option.bind_some _ _).symm.trans H; with_reducible exact H2_) | with_reducible exact H | (rw [hy375]; exact H) | exact H
      have Ny375 := Aside0.mk hy375
      clear hy375
      have H' := Aside0.mk H
      clear H
      go_enter Try.func6, Try.ntmps6
      go_wp2_with (first | ((with_reducible refine gate_dst (N := 7) rfl ?_); (try (refine gate_guard (by rfl) ?_; dsimp only)); refine box_event ?hg (N := 7) ?hd (cs := #[.int .i64 0, .int .i64 0, .int .i64 0, .int .i64 0, .int .i64 0, .int .i64 0, .int .i64 0, .int .i64 0, .int .i64 0, .int .i64 0, .int .i64 0, .slice none 0 0, .slice none 0 0]) (t := 28) ?hr ?_; (case hd => rfl); (case hg => rfl); (case hr => first | (go_simp; done) | (go_simp; rfl)); intro gb374 hg w5 hbox hb; have n0_ := Aside0.mk (below_step (by repeat (first | (with_reducible first | exact HB.out | apply below_alloc | apply pw_below_drewN | apply below_drew1) | exact HB.out)) hb); have n1_ := Aside0.mk (hbox); have n2_ := Aside0.mk ((by rw [hg]; exact (below_size (by repeat (first | (with_reducible first | exact HB.out | apply below_alloc | apply pw_below_drewN | apply below_drew1) | exact HB.out))) : w.heap.size ≤ gb374)); have n3_ := Aside0.mk ((by rw [hg]; exact (below_size (by repeat (first | (with_reducible first | exact HB.out | apply below_alloc | apply pw_below_drewN | apply below_drew1) | exact HB.out))) : w.heap.size ≤ gb374)); clear HB; have HB := n0_; have BK374 := n1_; have GW374 := n2_; have GE374 := n3_; clear n0_ n1_ n2_ n3_; clear hb hbox hg; have hcz6_0 : w5.cell? ⟨gb374, 0, none⟩ = some (.int .i64 0) := (blk_cell BK374.out 0).trans rfl; have hcz6_1 : w5.cell? ⟨gb374, 1, none⟩ = some (.int .i64 0) := (blk_cell BK374.out 1).trans rfl; have hcz6_2 : w5.cell? ⟨gb374, 2, none⟩ = some (.int .i64 0) := (blk_cell BK374.out 2).trans rfl; have hcz6_3 : w5.cell? ⟨gb374, 3, none⟩ = some (.int .i64 0) := (blk_cell BK374.out 3).trans rfl; have hcz6_4 : w5.cell? ⟨gb374, 4, none⟩ = some (.int .i64 0) := (blk_cell BK374.out 4).trans rfl; have hcz6_5 : w5.cell? ⟨gb374, 5, none⟩ = some (.int .i64 0) := (blk_cell BK374.out 5).trans rfl; have hcz6_6 : w5.cell? ⟨gb374, 6, none⟩ = some (.int .i64 0) := (blk_cell BK374.out 6).trans rfl; have hcz6_7 : w5.cell? ⟨gb374, 7, none⟩ = some (.int .i64 0) := (blk_cell BK374.out 7).trans rfl; have hcz6_8 : w5.cell? ⟨gb374, 8, none⟩ = some (.int .i64 0) := (blk_cell BK374.out 8).trans rfl; have hcz6_9 : w5.cell? ⟨gb374, 9, none⟩ = some (.int .i64 0) := (blk_cell BK374.out 9).trans rfl; have hcz6_10 : w5.cell? ⟨gb374, 10, none⟩ = some (.int .i64 0) := (blk_cell BK374.out 10).trans rfl; have hcz6_11 : w5.cell? ⟨gb374, 11, none⟩ = some (.slice none 0 0) := (blk_cell BK374.out 11).trans rfl; have hcz6_12 : w5.cell? ⟨gb374, 12, none⟩ = some (.slice none 0 0) := (blk_cell BK374.out 12).trans rfl; have hfz6_0 := blk_frozen BK374.out 0; have hfz6_1 := blk_frozen BK374.out 1; have hfz6_2 := blk_frozen BK374.out 2; have hfz6_3 := blk_frozen BK374.out 3; have hfz6_4 := blk_frozen BK374.out 4; have hfz6_5 := blk_frozen BK374.out 5; have hfz6_6 := blk_frozen BK374.out 6; have hfz6_7 := blk_frozen BK374.out 7; have hfz6_8 := blk_frozen BK374.out 8; have hfz6_9 := blk_frozen BK374.out 9; have hfz6_10 := blk_frozen BK374.out 10; have hfz6_11 := blk_frozen BK374.out 11; have hfz6_12 := blk_frozen BK374.out 12) | ((with_reducible refine gate_dst (N := 18) rfl ?_); (try (refine gate_guard (by rfl) ?_; dsimp only)); refine Kd.R_make (Kd.int .u8) _ 5 rfl (N := 18) rfl 38 _ _ rfl (Go.bits .and .i64 a1 262143) rfl rfl Try.underlying38 (.int .u8 0) 1 info5 rfl (by decide) (by omega) 0 (ok := fun _ => True) (okp := fun _ => True) rfl (fun _ hk => hk) trivial (of_decide_eq_true (by first | (with_reducible assumption) | assumption)) (Nat.le_trans (Nat.mul_le_mul_right _ (of_decide_eq_true (by first | (with_reducible assumption) | assumption) : (Go.bits .and .i64 a1 262143).toNat ≤ 281474976710656)) (by omega)) (Below.refl _ _) (Nat.le_refl _) ?_; intro v376 w7 ho8 hb hg_ hnew_; clear hg_ hnew_; (first | rw [← Ny375.out] at ho8 | (simp only [Int.reduceToNat] at ho8; rw [← Ny375.out] at ho8)); have n0_ := Aside0.mk (Kd.R_lower ho8 (below_size (by repeat (first | (with_reducible first | exact HB.out | apply below_alloc | apply pw_below_drewN | apply below_drew1 | refine below_set ?_ GE374.out) | exact HB.out)))); have n1_ := Aside0.mk (blk_below (g := gb374) (o := .cells #[.int .i64 8, .int .i64 0, .int .i64 0, .int .i64 0, .int .i64 0, .int .i64 0, .int .i64 0, .int .i64 0, .int .i64 0, .int .i64 0, .int .i64 0, .slice none 0 0, .slice none 0 0] 28 (0, 0)) (by (with_reducible repeat (first | refine blk_drewN ?_ _ | refine blk_drew ?_ | refine blk_alloc ?_ _)); refine blk_put (cs := #[.int .i64 8, .int .i64 0, .int .i64 0, .int .i64 0, .int .i64 0, .int .i64 0, .int .i64 0, .int .i64 0, .int .i64 0, .int .i64 0, .int .i64 0, .slice none 0 0, .slice none 0 0]) ?_ 12 _ rfl; (with_reducible repeat (first | refine blk_drewN ?_ _ | refine blk_drew ?_ | refine blk_alloc ?_ _)); refine blk_put (cs := #[.int .i64 8, .int .i64 0, .int .i64 0, .int .i64 0, .int .i64 0, .int .i64 0, .int .i64 0, .int .i64 0, .int .i64 0, .int .i64 0, .int .i64 0, .slice none 0 0, .slice none 0 0]) ?_ 11 _ rfl; (with_reducible repeat (first | refine blk_drewN ?_ _ | refine blk_drew ?_ | refine blk_alloc ?_ _)); refine blk_put (cs := #[.int .i64 8, .int .i64 0, .int .i64 0, .int .i64 0, .int .i64 0, .int .i64 0, .int .i64 0, .int .i64 0, .int .i64 0, .int .i64 0, .int .i64 0, .slice none 0 0, .slice none 0 0]) ?_ 10 _ rfl; (with_reducible repeat (first | refine blk_drewN ?_ _ | refine blk_drew ?_ | refine blk_alloc ?_ _)); refine blk_put (cs := #[.int .i64 8, .int .i64 0, .int .i64 0, .int .i64 0, .int .i64 0, .int .i64 0, .int .i64 0, .int .i64 0, .int .i64 0, .int .i64 0, .int .i64 0, .slice none 0 0, .slice none 0 0]) ?_ 9 _ rfl; (with_reducible repeat (first | refine blk_drewN ?_ _ | refine blk_drew ?_ | refine blk_alloc ?_ _)); refine blk_put (cs := #[.int .i64 8, .int .i64 0, .int .i64 0, .int .i64 0, .int .i64 0, .int .i64 0, .int .i64 0, .int .i64 0, .int .i64 0, .int .i64 0, .int .i64 0, .slice none 0 0, .slice none 0 0]) ?_ 8 _ rfl; (with_reducible repeat (first | refine blk_drewN ?_ _ | refine blk_drew ?_ | refine blk_alloc ?_ _)); refine blk_put (cs := #[.int .i64 8, .int .i64 0, .int .i64 0, .int .i64 0, .int .i64 0, .int .i64 0, .int .i64 0, .int .i64 0, .int .i64 0, .int .i64 0, .int .i64 0, .slice none 0 0, .slice none 0 0]) ?_ 7 _ rfl; (with_reducible repeat (first | refine blk_drewN ?_ _ | refine blk_drew ?_ | refine blk_alloc ?_ _)); refine blk_put (cs := #[.int .i64 8, .int .i64 0, .int .i64 0, .int .i64 0, .int .i64 0, .int .i64 0, .int .i64 0, .int .i64 0, .int .i64 0, .int .i64 0, .int .i64 0, .slice none 0 0, .slice none 0 0]) ?_ 6 _ rfl; (with_reducible repeat (first | refine blk_drewN ?_ _ | refine blk_drew ?_ | refine blk_alloc ?_ _)); refine blk_put (cs := #[.int .i64 8, .int .i64 0, .int .i64 0, .int .i64 0, .int .i64 0, .int .i64 0, .int .i64 0, .int .i64 0, .int .i64 0, .int .i64 0, .int .i64 0, .slice none 0 0, .slice none 0 0]) ?_ 5 _ rfl; (with_reducible repeat (first | refine blk_drewN ?_ _ | refine blk_drew ?_ | refine blk_alloc ?_ _)); refine blk_put (cs := #[.int .i64 8, .int .i64 0, .int .i64 0, .int .i64 0, .int .i64 0, .int .i64 0, .int .i64 0, .int .i64 0, .int .i64 0, .int .i64 0, .int .i64 0, .slice none 0 0, .slice none 0 0]) ?_ 4 _ rfl; (with_reducible repeat (first | refine blk_drewN ?_ _ | refine blk_drew ?_ | refine blk_alloc ?_ _)); refine blk_put (cs := #[.int .i64 8, .int .i64 0, .int .i64 0, .int .i64 0, .int .i64 0, .int .i64 0, .int .i64 0, .int .i64 0, .int .i64 0, .int .i64 0, .int .i64 0, .slice none 0 0, .slice none 0 0]) ?_ 3 _ rfl; (with_reducible repeat (first | refine blk_drewN ?_ _ | refine blk_drew ?_ | refine blk_alloc ?_ _)); refine blk_put (cs := #[.int .i64 8, .int .i64 0, .int .i64 0, .int .i64 0, .int .i64 0, .int .i64 0, .int .i64 0, .int .i64 0, .int .i64 0, .int .i64 0, .int .i64 0, .slice none 0 0, .slice none 0 0]) ?_ 2 _ rfl; (with_reducible repeat (first | refine blk_drewN ?_ _ | refine blk_drew ?_ | refine blk_alloc ?_ _)); refine blk_put (cs := #[.int .i64 8, .int .i64 0, .int .i64 0, .int .i64 0, .int .i64 0, .int .i64 0, .int .i64 0, .int .i64 0, .int .i64 0, .int .i64 0, .int .i64 0, .slice none 0 0, .slice none 0 0]) ?_ 1 _ rfl; (with_reducible repeat (first | refine blk_drewN ?_ _ | refine blk_drew ?_ | refine blk_alloc ?_ _)); refine blk_put (cs := #[.int .i64 0, .int .i64 0, .int .i64 0, .int .i64 0, .int .i64 0, .int .i64 0, .int .i64 0, .int .i64 0, .int .i64 0, .int .i64 0, .int .i64 0, .slice none 0 0, .slice none 0 0]) ?_ 0 _ rfl; (with_reducible repeat (first | refine blk_drewN ?_ _ | refine blk_drew ?_ | refine blk_alloc ?_ _)); exact BK374.out) hb); have n2_ := Aside0.mk (below_step (by repeat (first | (with_reducible first | exact HB.out | apply below_alloc | apply pw_below_drewN | apply below_drew1 | refine below_set ?_ GE374.out) | exact HB.out)) hb); clear BK374; clear HB; have HO377 := n0_; have BK374 := n1_; have HB := n2_; clear n0_ n1_ n2_; clear hb ho8; have hcv9 := own_string (P := Try.prog) Try.underlying38 Try.underlying5 Try.underlying9 (Kd.own_of_R HO377.out)))
      go_loopg [9] k (fun kq v9 w' => ∃ (x9_1 : Int) (x375011_1 : List ByteArray) (u375011 : Value), v9 = .int .i64 x9_1 ∧ Aside0 (postroadlaw14_WireLong.l0 kq (Go.bits .and .i64 a0 15) (Go.bits .and .i64 a1 262143) (strOfNums y375) x9_1 8 0 0 0 0 0 0 0 0 0 0 x375011_1 = some r) ∧ Aside0 (kq ≤ k) ∧ Aside0 (Kd.R Kd.string 9 w' w.heap.size (fun _ => True) u375011 x375011_1) ∧ Aside0 (w'.heap[gb374]? = some (.cells #[.int .i64 8, .int .i64 0, .int .i64 0, .int .i64 0, .int .i64 0, .int .i64 0, .int .i64 0, .int .i64 0, .int .i64 0, .int .i64 0, .int .i64 0, u375011, (.slice none 0 0)] 28 (0, 0))) ∧ Aside0 (Below w.heap.size w w'))
      case atStart => exact ⟨(0), (([] : List ByteArray)), (.slice none 0 0), (by first | rfl | (simp; done) | (simp [*]; done)), H', ⟨Nat.le_refl _⟩, ⟨by first | exact Kd.R_nil _ _ _ _ _ | exact Kd.N_nil _ _ _ _ _ | exact Kd.V_nil _ _ _ _ _ | exact Kd.Q_nil _ _ _ _ _ | exact Kd.S_nil _ _ _ _ _⟩, ⟨by (with_reducible repeat (first | refine blk_drewN ?_ _ | refine blk_drew ?_ | refine blk_alloc ?_ _)); exact BK374.out⟩, ⟨by repeat (first | (with_reducible first | exact HB.out | apply below_alloc | apply pw_below_drewN | apply below_drew1 | refine below_set ?_ GE374.out) | exact HB.out)⟩⟩
      case round =>
        clear H'
        try clear p2
        try clear c3
        try clear c3b0
        try clear c3b1
        try clear c4
        try clear c4b0
        try clear c4b1
        try clear c6
        try clear hcv9
        try clear hcz6_0
        try clear hcz6_1
        try clear hcz6_10
        try clear hcz6_11
        try clear hcz6_12
        try clear hcz6_2
        try clear hcz6_3
        try clear hcz6_4
        try clear hcz6_5
        try clear hcz6_6
        try clear hcz6_7
        try clear hcz6_8
        try clear hcz6_9
        try clear hfz6_0
        try clear hfz6_1
        try clear hfz6_10
        try clear hfz6_11
        try clear hfz6_12
        try clear hfz6_2
        try clear hfz6_3
        try clear hfz6_4
        try clear hfz6_5
        try clear hfz6_6
        try clear hfz6_7
        try clear hfz6_8
        try clear hfz6_9
        obtain ⟨x9_1, x375011_1, u375011, rfl, HA, HK1, HO_375011, BK374, HB⟩ := hrel
        cases gk with
        | zero => exact absurd HA.out (by simp [postroadlaw14_WireLong.l0])
        | succ k1 =>
          have H := HA.out
          clear HA
          simp only [postroadlaw14_WireLong.l0] at H
          by_cases c10 : x9_1 < (Go.bits .and .i64 a0 15)
          · rw [if_pos c10] at H
            have c10b0 : decide (x9_1 < (Go.bits .and .i64 a0 15)) = true := decide_eq_true c10
            clear c10
            by_cases c11 : x375011_1.length < 8796093022208
            · rw [if_pos c11] at H
              have LMc11 := Aside0.mk c11
              clear c11
              obtain ⟨y378, hy378⟩ : ∃ y_ : List ByteArray, y_ = (x375011_1 ++ [(strOfNums y375)]) := ⟨_, rfl⟩
              replace H : (postroadlaw14_WireLong.l0 k1 (Go.bits .and .i64 a0 15) (Go.bits .and .i64 a1 262143) (strOfNums y375) (wrap64 (x9_1 + 1)) 8 0 0 0 0 0 0 0 0 0 0 y378) = some r := by first | (rw [hy378]; with_reducible exact H) | (have H2_ := (Option.bind_some _ _).symm.trans H; rw [hy378]; with_reducible exact H2_) | (have H2_ := (Option.bind_some _ _).symm.trans H; with_reducible exact H2_) | with_reducible exact H | (rw [hy378]; exact H) | exact H
              have Ny378 := Aside0.mk hy378
              clear hy378
              have H' := Aside0.mk H
              clear H
              have hcz12_0 : wr.cell? ⟨gb374, 0, none⟩ = some (.int .i64 8) := (blk_cell BK374.out 0).trans rfl
              have hcz12_1 : wr.cell? ⟨gb374, 1, none⟩ = some (.int .i64 0) := (blk_cell BK374.out 1).trans rfl
              have hcz12_2 : wr.cell? ⟨gb374, 2, none⟩ = some (.int .i64 0) := (blk_cell BK374.out 2).trans rfl
              have hcz12_3 : wr.cell? ⟨gb374, 3, none⟩ = some (.int .i64 0) := (blk_cell BK374.out 3).trans rfl
              have hcz12_4 : wr.cell? ⟨gb374, 4, none⟩ = some (.int .i64 0) := (blk_cell BK374.out 4).trans rfl
              have hcz12_5 : wr.cell? ⟨gb374, 5, none⟩ = some (.int .i64 0) := (blk_cell BK374.out 5).trans rfl
              have hcz12_6 : wr.cell? ⟨gb374, 6, none⟩ = some (.int .i64 0) := (blk_cell BK374.out 6).trans rfl
              have hcz12_7 : wr.cell? ⟨gb374, 7, none⟩ = some (.int .i64 0) := (blk_cell BK374.out 7).trans rfl
              have hcz12_8 : wr.cell? ⟨gb374, 8, none⟩ = some (.int .i64 0) := (blk_cell BK374.out 8).trans rfl
              have hcz12_9 : wr.cell? ⟨gb374, 9, none⟩ = some (.int .i64 0) := (blk_cell BK374.out 9).trans rfl
              have hcz12_10 : wr.cell? ⟨gb374, 10, none⟩ = some (.int .i64 0) := (blk_cell BK374.out 10).trans rfl
              have hcz12_11 : wr.cell? ⟨gb374, 11, none⟩ = some (u375011) := (blk_cell BK374.out 11).trans rfl
              have hcz12_12 : wr.cell? ⟨gb374, 12, none⟩ = some (.slice none 0 0) := (blk_cell BK374.out 12).trans rfl
              have hfz12_0 := blk_frozen BK374.out 0
              have hfz12_1 := blk_frozen BK374.out 1
              have hfz12_2 := blk_frozen BK374.out 2
              have hfz12_3 := blk_frozen BK374.out 3
              have hfz12_4 := blk_frozen BK374.out 4
              have hfz12_5 := blk_frozen BK374.out 5
              have hfz12_6 := blk_frozen BK374.out 6
              have hfz12_7 := blk_frozen BK374.out 7
              have hfz12_8 := blk_frozen BK374.out 8
              have hfz12_9 := blk_frozen BK374.out 9
              have hfz12_10 := blk_frozen BK374.out 10
              have hfz12_11 := blk_frozen BK374.out 11
              have hfz12_12 := blk_frozen BK374.out 12
              go_wp2_with (first | ((with_reducible refine gate_builtin (b := .append) (xs := #[.tmp 26, .tmp 28]) rfl ?_); (try (refine gate_guard (by rfl) ?_; dsimp only)); at_builtin; refine Kd.R_append Kd.string (w0 := w) w.heap.size rfl (.tmp 26) (.tmp 28) 25 9 (.string ⟨#[]⟩) 16 rfl Try.underlying25 info9 rfl (by decide) (by omega) u375011 x375011_1 (strOfNums y375) [.string (strOfNums y375)] (fun _ => True) (fun _ => False) rfl rfl ?aP (fun _ hk => hk.elim) ?aF ?aO ?aB ?aS ?aL ?_; (case aP => exact rfl); (case aB => exact (by repeat (first | (with_reducible first | exact HB.out | apply below_alloc | apply pw_below_drewN | apply below_drew1 | refine below_set ?_ GE374.out) | exact HB.out))); (case aF => exact (fun _ _ => trivial)); (case aO => exact (by (with_reducible repeat (first | apply Kd.R_alloc | apply Kd.R_drewN | apply Kd.R_drew)); exact HO_375011.out)); (case aS => exact (below_size (by repeat (first | (with_reducible first | exact HB.out | apply below_alloc | apply pw_below_drewN | apply below_drew1 | refine below_set ?_ GE374.out) | exact HB.out)))); (case aL => have := LMc11.out; omega); intro v379 w13 ho hb hg hat; rw [← Ny378.out] at ho; have n0_ := Aside0.mk (blk_grown (g := gb374) (o := .cells #[.int .i64 8, .int .i64 0, .int .i64 0, .int .i64 0, .int .i64 0, .int .i64 0, .int .i64 0, .int .i64 0, .int .i64 0, .int .i64 0, .int .i64 0, u375011, .slice none 0 0] 28 (0, 0)) (by (with_reducible repeat (first | refine blk_drewN ?_ _ | refine blk_drew ?_ | refine blk_alloc ?_ _)); exact BK374.out) hg (Kd.R_ne HO_375011.out BK374.out (by decide))); have n1_ := Aside0.mk (hb); have n2_ := Aside0.mk (ho); clear BK374; clear HB; clear HO_375011; have BK374 := n0_; have HB := n1_; have HO380 := n2_; clear n0_ n1_ n2_; clear ho hb hg hat; obtain ⟨Ao14, co14, eo14⟩ := Kd.R_slice HO380.out; subst eo14; have hcz15_0 : w13.cell? ⟨gb374, 0, none⟩ = some (.int .i64 8) := (blk_cell BK374.out 0).trans rfl; have hcz15_1 : w13.cell? ⟨gb374, 1, none⟩ = some (.int .i64 0) := (blk_cell BK374.out 1).trans rfl; have hcz15_2 : w13.cell? ⟨gb374, 2, none⟩ = some (.int .i64 0) := (blk_cell BK374.out 2).trans rfl; have hcz15_3 : w13.cell? ⟨gb374, 3, none⟩ = some (.int .i64 0) := (blk_cell BK374.out 3).trans rfl; have hcz15_4 : w13.cell? ⟨gb374, 4, none⟩ = some (.int .i64 0) := (blk_cell BK374.out 4).trans rfl; have hcz15_5 : w13.cell? ⟨gb374, 5, none⟩ = some (.int .i64 0) := (blk_cell BK374.out 5).trans rfl; have hcz15_6 : w13.cell? ⟨gb374, 6, none⟩ = some (.int .i64 0) := (blk_cell BK374.out 6).trans rfl; have hcz15_7 : w13.cell? ⟨gb374, 7, none⟩ = some (.int .i64 0) := (blk_cell BK374.out 7).trans rfl; have hcz15_8 : w13.cell? ⟨gb374, 8, none⟩ = some (.int .i64 0) := (blk_cell BK374.out 8).trans rfl; have hcz15_9 : w13.cell? ⟨gb374, 9, none⟩ = some (.int .i64 0) := (blk_cell BK374.out 9).trans rfl; have hcz15_10 : w13.cell? ⟨gb374, 10, none⟩ = some (.int .i64 0) := (blk_cell BK374.out 10).trans rfl; have hcz15_11 : w13.cell? ⟨gb374, 11, none⟩ = some (u375011) := (blk_cell BK374.out 11).trans rfl; have hcz15_12 : w13.cell? ⟨gb374, 12, none⟩ = some (.slice none 0 0) := (blk_cell BK374.out 12).trans rfl; have hfz15_0 := blk_frozen BK374.out 0; have hfz15_1 := blk_frozen BK374.out 1; have hfz15_2 := blk_frozen BK374.out 2; have hfz15_3 := blk_frozen BK374.out 3; have hfz15_4 := blk_frozen BK374.out 4; have hfz15_5 := blk_frozen BK374.out 5; have hfz15_6 := blk_frozen BK374.out 6; have hfz15_7 := blk_frozen BK374.out 7; have hfz15_8 := blk_frozen BK374.out 8; have hfz15_9 := blk_frozen BK374.out 9; have hfz15_10 := blk_frozen BK374.out 10; have hfz15_11 := blk_frozen BK374.out 11; have hfz15_12 := blk_frozen BK374.out 12))
              go_roundg k1
              case measure => have := HK1.out; omega
              case rel => exact ⟨(wrap64 (x9_1 + 1)), (y378), (.slice Ao14 y378.length co14), (by first | rfl | (simp; done) | (simp [*]; done)), H', ⟨by have := HK1.out; omega⟩, ⟨by (with_reducible repeat (first | apply Kd.R_alloc | apply Kd.R_drewN | apply Kd.R_drew)); exact Kd.R_mono (Kd.R_far (p := ⟨gb374, 11, none⟩) (Kd.R_types HO380.out BK374.out (by decide)) (fun _ hk => hk.2) (.slice Ao14 y378.length co14)) (fun _ hk => trivial)⟩, ⟨by (with_reducible repeat (first | refine blk_drewN ?_ _ | refine blk_drew ?_ | refine blk_alloc ?_ _)); refine blk_put (cs := #[.int .i64 8, .int .i64 0, .int .i64 0, .int .i64 0, .int .i64 0, .int .i64 0, .int .i64 0, .int .i64 0, .int .i64 0, .int .i64 0, .int .i64 0, u375011, .slice none 0 0]) ?_ 11 _ rfl; (with_reducible repeat (first | refine blk_drewN ?_ _ | refine blk_drew ?_ | refine blk_alloc ?_ _)); exact BK374.out⟩, ⟨by repeat (first | (with_reducible first | exact HB.out | apply below_alloc | apply pw_below_drewN | apply below_drew1 | refine below_set ?_ GE374.out) | exact HB.out)⟩⟩
            · rw [if_neg c11] at H
              exact absurd H (by simp)
          · rw [if_neg c10] at H
            have c10b0 : decide (x9_1 < (Go.bits .and .i64 a0 15)) = false := decide_eq_false c10
            clear c10
            replace H := Option.bind_eq_some_iff.mp H
            obtain ⟨⟨t381, t382⟩, A160, H⟩ := H
            replace H : (if (wrap64 ((Go.bits .and .i64 a0 15) * (wrap64 ((Go.bits .and .i64 a1 262143) + 3)))) > 1048576 then (if t382 = 4 then (if t381.toList = ([] : List UInt8) then ((postroadlaw14_awake.f).bind fun t383 => (some t383)) else (if t382 = 0 then (if (t381.size : Int) ≤ 1048576 then ((postroadlaw14_awake.f).bind fun t384 => (some t384)) else (some false)) else (some false))) else (if t382 = 0 then (if (t381.size : Int) ≤ 1048576 then ((postroadlaw14_awake.f).bind fun t385 => (some t385)) else (some false)) else (some false))) else (if t382 = 0 then (if (t381.size : Int) ≥ (wrap64 ((Go.bits .and .i64 a0 15) * (Go.bits .and .i64 a1 262143))) then ((postroadlaw14_awake.f).bind fun t386 => (some t386)) else (if (wrap64 ((wrap64 ((Go.bits .and .i64 a0 15) * (wrap64 ((Go.bits .and .i64 a1 262143) + 3)))) + 40)) > 1048576 then ((postroadlaw14_awake.f).bind fun t387 => (some t387)) else (some false))) else (if (wrap64 ((wrap64 ((Go.bits .and .i64 a0 15) * (wrap64 ((Go.bits .and .i64 a1 262143) + 3)))) + 40)) > 1048576 then ((postroadlaw14_awake.f).bind fun t388 => (some t388)) else (some false)))) = some r := H
            have A16 := Aside0.mk A160
            clear A160
            by_cases c17 : (wrap64 ((Go.bits .and .i64 a0 15) * (wrap64 ((Go.bits .and .i64 a1 262143) + 3)))) > 1048576
            · rw [if_pos c17] at H
              have c17b0 : decide (1048576 < (wrap64 ((Go.bits .and .i64 a0 15) * (wrap64 ((Go.bits .and .i64 a1 262143) + 3))))) = true := decide_eq_true c17
              clear c17
              by_cases c18 : t382 = 4
              · rw [if_pos c18] at H
                have c18b0 : (t382 == 4) = true := beq_iff_eq.mpr c18
                have c18b1 : (t382 != 4) = false := bne_eq_false_iff_eq.mpr c18
                clear c18
                by_cases c19 : t381.toList = ([] : List UInt8)
                · rw [if_pos c19] at H
                  have c19b0 : (t381.toList == ([] : List UInt8)) = true := beq_iff_eq.mpr c19
                  have c19b1 : (t381.toList != ([] : List UInt8)) = false := bne_eq_false_iff_eq.mpr c19
                  clear c19
                  replace H := Option.bind_eq_some_iff.mp H
                  obtain ⟨t383, A200, H⟩ := H
                  replace H : (some t383) = some r := H
                  have A20 := Aside0.mk A200
                  clear A200
                  obtain rfl := Option.some.inj H
                  have hcz21_0 : wr.cell? ⟨gb374, 0, none⟩ = some (.int .i64 8) := (blk_cell BK374.out 0).trans rfl
                  have hcz21_1 : wr.cell? ⟨gb374, 1, none⟩ = some (.int .i64 0) := (blk_cell BK374.out 1).trans rfl
                  have hcz21_2 : wr.cell? ⟨gb374, 2, none⟩ = some (.int .i64 0) := (blk_cell BK374.out 2).trans rfl
                  have hcz21_3 : wr.cell? ⟨gb374, 3, none⟩ = some (.int .i64 0) := (blk_cell BK374.out 3).trans rfl
                  have hcz21_4 : wr.cell? ⟨gb374, 4, none⟩ = some (.int .i64 0) := (blk_cell BK374.out 4).trans rfl
                  have hcz21_5 : wr.cell? ⟨gb374, 5, none⟩ = some (.int .i64 0) := (blk_cell BK374.out 5).trans rfl
                  have hcz21_6 : wr.cell? ⟨gb374, 6, none⟩ = some (.int .i64 0) := (blk_cell BK374.out 6).trans rfl
                  have hcz21_7 : wr.cell? ⟨gb374, 7, none⟩ = some (.int .i64 0) := (blk_cell BK374.out 7).trans rfl
                  have hcz21_8 : wr.cell? ⟨gb374, 8, none⟩ = some (.int .i64 0) := (blk_cell BK374.out 8).trans rfl
                  have hcz21_9 : wr.cell? ⟨gb374, 9, none⟩ = some (.int .i64 0) := (blk_cell BK374.out 9).trans rfl
                  have hcz21_10 : wr.cell? ⟨gb374, 10, none⟩ = some (.int .i64 0) := (blk_cell BK374.out 10).trans rfl
                  have hcz21_11 : wr.cell? ⟨gb374, 11, none⟩ = some (u375011) := (blk_cell BK374.out 11).trans rfl
                  have hcz21_12 : wr.cell? ⟨gb374, 12, none⟩ = some (.slice none 0 0) := (blk_cell BK374.out 12).trans rfl
                  have hfz21_0 := blk_frozen BK374.out 0
                  have hfz21_1 := blk_frozen BK374.out 1
                  have hfz21_2 := blk_frozen BK374.out 2
                  have hfz21_3 := blk_frozen BK374.out 3
                  have hfz21_4 := blk_frozen BK374.out 4
                  have hfz21_5 := blk_frozen BK374.out 5
                  have hfz21_6 := blk_frozen BK374.out 6
                  have hfz21_7 := blk_frozen BK374.out 7
                  have hfz21_8 := blk_frozen BK374.out 8
                  have hfz21_9 := blk_frozen BK374.out 9
                  have hfz21_10 := blk_frozen BK374.out 10
                  have hfz21_11 := blk_frozen BK374.out 11
                  have hfz21_12 := blk_frozen BK374.out 12
                  obtain ⟨Ao22, co22, eo22⟩ := Kd.R_slice HO_375011.out
                  subst eo22
                  go_wp2_with (first | ((with_reducible refine gate_callee (f := 9) rfl ?_); refine goesL_ (some 33) rfl rfl Try.func9 (by kernel_rfl) rfl #[.agg #[.int .i64 8, .int .i64 0, .int .i64 0, .int .i64 0, .int .i64 0, .int .i64 0, .int .i64 0, .int .i64 0, .int .i64 0, .int .i64 0, .int .i64 0, .slice Ao22 x375011_1.length co22, .slice none 0 0]] rfl (by (try simp only [List.map_toArray, List.map_cons, List.map_nil]); first | done | rfl | (simp only [List.length_drop, List.length_take]; rfl)) ?_; (refine (wire_Bytes.calls 8 0 0 0 0 0 0 0 0 0 0 _ _ x375011_1 _ _ ([] : List (S63)) t381 t382 _ ?side1 ?side2 ?side3 ?side4 A16.out).mono ?_); (case side1 => repeat (first | exact (Kd.R_reads' HO_375011.out).2.2 | (with_reducible refine Kd.C_alloc ?_ _) | (with_reducible refine Kd.C_drewN ?_ _) | (with_reducible refine Kd.C_drew ?_))); (case side2 => exact (Kd.R_reads' HO_375011.out).2.1); (case side3 => exact Kd.C_nil _ _); (case side4 => exact Nat.le_refl _); rintro e w23 ⟨rfl, hb⟩; refine ⟨_, rfl, ?_⟩; have n0_ := Aside0.mk (Kd.R_below (by (with_reducible repeat (first | apply Kd.R_alloc | apply Kd.R_drewN | apply Kd.R_drew)); exact HO_375011.out) hb); have n1_ := Aside0.mk (blk_below (g := gb374) (o := .cells #[.int .i64 8, .int .i64 0, .int .i64 0, .int .i64 0, .int .i64 0, .int .i64 0, .int .i64 0, .int .i64 0, .int .i64 0, .int .i64 0, .int .i64 0, .slice Ao22 x375011_1.length co22, .slice none 0 0] 28 (0, 0)) (by (with_reducible repeat (first | refine blk_drewN ?_ _ | refine blk_drew ?_ | refine blk_alloc ?_ _)); exact BK374.out) hb); have n2_ := Aside0.mk (below_step (by repeat (first | (with_reducible first | exact HB.out | apply below_alloc | apply pw_below_drewN | apply below_drew1 | refine below_set ?_ GE374.out) | exact HB.out)) hb); clear HO_375011; clear BK374; clear HB; have HO_375011 := n0_; have BK374 := n1_; have HB := n2_; clear n0_ n1_ n2_; (try clear hb); (try clear hb2); (try clear hk); (try clear hi)) | (go_at_call 13; (with_reducible refine (postroadlaw14_awake.calls  t383 _ A20.out).mono ?_); rintro e w24 ⟨rfl, hb⟩; have n0_ := Aside0.mk (Kd.R_below (by (with_reducible repeat (first | apply Kd.R_alloc | apply Kd.R_drewN | apply Kd.R_drew)); exact HO_375011.out) hb); have n1_ := Aside0.mk (blk_below (g := gb374) (o := .cells #[.int .i64 8, .int .i64 0, .int .i64 0, .int .i64 0, .int .i64 0, .int .i64 0, .int .i64 0, .int .i64 0, .int .i64 0, .int .i64 0, .int .i64 0, .slice Ao22 x375011_1.length co22, .slice none 0 0] 28 (0, 0)) (by (with_reducible repeat (first | refine blk_drewN ?_ _ | refine blk_drew ?_ | refine blk_alloc ?_ _)); exact BK374.out) hb); have n2_ := Aside0.mk (below_step (by repeat (first | (with_reducible first | exact HB.out | apply below_alloc | apply pw_below_drewN | apply below_drew1 | refine below_set ?_ GE374.out) | exact HB.out)) hb); clear HO_375011; clear BK374; clear HB; have HO_375011 := n0_; have BK374 := n1_; have HB := n2_; clear n0_ n1_ n2_; (try clear hb); (try clear hb2); (try clear hk); (try clear hi)))
                  go_ret
                  exact ⟨by first | rfl | (simp [errW_none, errW_some] <;> rfl) | (simp [*, errW_none, errW_some] <;> rfl), by repeat (first | (with_reducible first | exact HB.out | apply below_alloc | apply pw_below_drewN | apply below_drew1 | refine below_set ?_ GE374.out) | exact HB.out)⟩
                · rw [if_neg c19] at H
                  have c19b0 : (t381.toList == ([] : List UInt8)) = false := beq_eq_false_iff_ne.mpr c19
                  have c19b1 : (t381.toList != ([] : List UInt8)) = true := bne_iff_ne.mpr c19
                  by_cases c25 : t382 = 0
                  · rw [if_pos c25] at H
                    have c25b0 : (t382 == 0) = true := beq_iff_eq.mpr c25
                    have c25b1 : (t382 != 0) = false := bne_eq_false_iff_eq.mpr c25
                    clear c25
                    by_cases c26 : (t381.size : Int) ≤ 1048576
                    · rw [if_pos c26] at H
                      have c26b0 : decide ((t381.size : Int) ≤ 1048576) = true := decide_eq_true c26
                      have c26b1 : decide (t381.size ≤ 1048576) = true := decide_eq_true (by omega)
                      clear c26
                      replace H := Option.bind_eq_some_iff.mp H
                      obtain ⟨t384, A270, H⟩ := H
                      replace H : (some t384) = some r := H
                      have A27 := Aside0.mk A270
                      clear A270
                      obtain rfl := Option.some.inj H
                      have hcz28_0 : wr.cell? ⟨gb374, 0, none⟩ = some (.int .i64 8) := (blk_cell BK374.out 0).trans rfl
                      have hcz28_1 : wr.cell? ⟨gb374, 1, none⟩ = some (.int .i64 0) := (blk_cell BK374.out 1).trans rfl
                      have hcz28_2 : wr.cell? ⟨gb374, 2, none⟩ = some (.int .i64 0) := (blk_cell BK374.out 2).trans rfl
                      have hcz28_3 : wr.cell? ⟨gb374, 3, none⟩ = some (.int .i64 0) := (blk_cell BK374.out 3).trans rfl
                      have hcz28_4 : wr.cell? ⟨gb374, 4, none⟩ = some (.int .i64 0) := (blk_cell BK374.out 4).trans rfl
                      have hcz28_5 : wr.cell? ⟨gb374, 5, none⟩ = some (.int .i64 0) := (blk_cell BK374.out 5).trans rfl
                      have hcz28_6 : wr.cell? ⟨gb374, 6, none⟩ = some (.int .i64 0) := (blk_cell BK374.out 6).trans rfl
                      have hcz28_7 : wr.cell? ⟨gb374, 7, none⟩ = some (.int .i64 0) := (blk_cell BK374.out 7).trans rfl
                      have hcz28_8 : wr.cell? ⟨gb374, 8, none⟩ = some (.int .i64 0) := (blk_cell BK374.out 8).trans rfl
                      have hcz28_9 : wr.cell? ⟨gb374, 9, none⟩ = some (.int .i64 0) := (blk_cell BK374.out 9).trans rfl
                      have hcz28_10 : wr.cell? ⟨gb374, 10, none⟩ = some (.int .i64 0) := (blk_cell BK374.out 10).trans rfl
                      have hcz28_11 : wr.cell? ⟨gb374, 11, none⟩ = some (u375011) := (blk_cell BK374.out 11).trans rfl
                      have hcz28_12 : wr.cell? ⟨gb374, 12, none⟩ = some (.slice none 0 0) := (blk_cell BK374.out 12).trans rfl
                      have hfz28_0 := blk_frozen BK374.out 0
                      have hfz28_1 := blk_frozen BK374.out 1
                      have hfz28_2 := blk_frozen BK374.out 2
                      have hfz28_3 := blk_frozen BK374.out 3
                      have hfz28_4 := blk_frozen BK374.out 4
                      have hfz28_5 := blk_frozen BK374.out 5
                      have hfz28_6 := blk_frozen BK374.out 6
                      have hfz28_7 := blk_frozen BK374.out 7
                      have hfz28_8 := blk_frozen BK374.out 8
                      have hfz28_9 := blk_frozen BK374.out 9
                      have hfz28_10 := blk_frozen BK374.out 10
                      have hfz28_11 := blk_frozen BK374.out 11
                      have hfz28_12 := blk_frozen BK374.out 12
                      obtain ⟨Ao29, co29, eo29⟩ := Kd.R_slice HO_375011.out
                      subst eo29
                      go_wp2_with (first | ((with_reducible refine gate_callee (f := 9) rfl ?_); refine goesL_ (some 33) rfl rfl Try.func9 (by kernel_rfl) rfl #[.agg #[.int .i64 8, .int .i64 0, .int .i64 0, .int .i64 0, .int .i64 0, .int .i64 0, .int .i64 0, .int .i64 0, .int .i64 0, .int .i64 0, .int .i64 0, .slice Ao29 x375011_1.length co29, .slice none 0 0]] rfl (by (try simp only [List.map_toArray, List.map_cons, List.map_nil]); first | done | rfl | (simp only [List.length_drop, List.length_take]; rfl)) ?_; (refine (wire_Bytes.calls 8 0 0 0 0 0 0 0 0 0 0 _ _ x375011_1 _ _ ([] : List (S63)) t381 t382 _ ?side1 ?side2 ?side3 ?side4 A16.out).mono ?_); (case side1 => repeat (first | exact (Kd.R_reads' HO_375011.out).2.2 | (with_reducible refine Kd.C_alloc ?_ _) | (with_reducible refine Kd.C_drewN ?_ _) | (with_reducible refine Kd.C_drew ?_))); (case side2 => exact (Kd.R_reads' HO_375011.out).2.1); (case side3 => exact Kd.C_nil _ _); (case side4 => exact Nat.le_refl _); rintro e w30 ⟨rfl, hb⟩; refine ⟨_, rfl, ?_⟩; have n0_ := Aside0.mk (Kd.R_below (by (with_reducible repeat (first | apply Kd.R_alloc | apply Kd.R_drewN | apply Kd.R_drew)); exact HO_375011.out) hb); have n1_ := Aside0.mk (blk_below (g := gb374) (o := .cells #[.int .i64 8, .int .i64 0, .int .i64 0, .int .i64 0, .int .i64 0, .int .i64 0, .int .i64 0, .int .i64 0, .int .i64 0, .int .i64 0, .int .i64 0, .slice Ao29 x375011_1.length co29, .slice none 0 0] 28 (0, 0)) (by (with_reducible repeat (first | refine blk_drewN ?_ _ | refine blk_drew ?_ | refine blk_alloc ?_ _)); exact BK374.out) hb); have n2_ := Aside0.mk (below_step (by repeat (first | (with_reducible first | exact HB.out | apply below_alloc | apply pw_below_drewN | apply below_drew1 | refine below_set ?_ GE374.out) | exact HB.out)) hb); clear HO_375011; clear BK374; clear HB; have HO_375011 := n0_; have BK374 := n1_; have HB := n2_; clear n0_ n1_ n2_; (try clear hb); (try clear hb2); (try clear hk); (try clear hi)) | (go_at_call 13; (with_reducible refine (postroadlaw14_awake.calls  t384 _ A27.out).mono ?_); rintro e w31 ⟨rfl, hb⟩; have n0_ := Aside0.mk (Kd.R_below (by (with_reducible repeat (first | apply Kd.R_alloc | apply Kd.R_drewN | apply Kd.R_drew)); exact HO_375011.out) hb); have n1_ := Aside0.mk (blk_below (g := gb374) (o := .cells #[.int .i64 8, .int .i64 0, .int .i64 0, .int .i64 0, .int .i64 0, .int .i64 0, .int .i64 0, .int .i64 0, .int .i64 0, .int .i64 0, .int .i64 0, .slice Ao29 x375011_1.length co29, .slice none 0 0] 28 (0, 0)) (by (with_reducible repeat (first | refine blk_drewN ?_ _ | refine blk_drew ?_ | refine blk_alloc ?_ _)); exact BK374.out) hb); have n2_ := Aside0.mk (below_step (by repeat (first | (with_reducible first | exact HB.out | apply below_alloc | apply pw_below_drewN | apply below_drew1 | refine below_set ?_ GE374.out) | exact HB.out)) hb); clear HO_375011; clear BK374; clear HB; have HO_375011 := n0_; have BK374 := n1_; have HB := n2_; clear n0_ n1_ n2_; (try clear hb); (try clear hb2); (try clear hk); (try clear hi)))
                      go_ret
                      exact ⟨by first | rfl | (simp [errW_none, errW_some] <;> rfl) | (simp [*, errW_none, errW_some] <;> rfl), by repeat (first | (with_reducible first | exact HB.out | apply below_alloc | apply pw_below_drewN | apply below_drew1 | refine below_set ?_ GE374.out) | exact HB.out)⟩
                    · rw [if_neg c26] at H
                      have c26b0 : decide ((t381.size : Int) ≤ 1048576) = false := decide_eq_false c26
                      have c26b1 : decide (t381.size ≤ 1048576) = false := decide_eq_false (by omega)
                      clear c26
                      obtain rfl := Option.some.inj H
                      have hcz32_0 : wr.cell? ⟨gb374, 0, none⟩ = some (.int .i64 8) := (blk_cell BK374.out 0).trans rfl
                      have hcz32_1 : wr.cell? ⟨gb374, 1, none⟩ = some (.int .i64 0) := (blk_cell BK374.out 1).trans rfl
                      have hcz32_2 : wr.cell? ⟨gb374, 2, none⟩ = some (.int .i64 0) := (blk_cell BK374.out 2).trans rfl
                      have hcz32_3 : wr.cell? ⟨gb374, 3, none⟩ = some (.int .i64 0) := (blk_cell BK374.out 3).trans rfl
                      have hcz32_4 : wr.cell? ⟨gb374, 4, none⟩ = some (.int .i64 0) := (blk_cell BK374.out 4).trans rfl
                      have hcz32_5 : wr.cell? ⟨gb374, 5, none⟩ = some (.int .i64 0) := (blk_cell BK374.out 5).trans rfl
                      have hcz32_6 : wr.cell? ⟨gb374, 6, none⟩ = some (.int .i64 0) := (blk_cell BK374.out 6).trans rfl
                      have hcz32_7 : wr.cell? ⟨gb374, 7, none⟩ = some (.int .i64 0) := (blk_cell BK374.out 7).trans rfl
                      have hcz32_8 : wr.cell? ⟨gb374, 8, none⟩ = some (.int .i64 0) := (blk_cell BK374.out 8).trans rfl
                      have hcz32_9 : wr.cell? ⟨gb374, 9, none⟩ = some (.int .i64 0) := (blk_cell BK374.out 9).trans rfl
                      have hcz32_10 : wr.cell? ⟨gb374, 10, none⟩ = some (.int .i64 0) := (blk_cell BK374.out 10).trans rfl
                      have hcz32_11 : wr.cell? ⟨gb374, 11, none⟩ = some (u375011) := (blk_cell BK374.out 11).trans rfl
                      have hcz32_12 : wr.cell? ⟨gb374, 12, none⟩ = some (.slice none 0 0) := (blk_cell BK374.out 12).trans rfl
                      have hfz32_0 := blk_frozen BK374.out 0
                      have hfz32_1 := blk_frozen BK374.out 1
                      have hfz32_2 := blk_frozen BK374.out 2
                      have hfz32_3 := blk_frozen BK374.out 3
                      have hfz32_4 := blk_frozen BK374.out 4
                      have hfz32_5 := blk_frozen BK374.out 5
                      have hfz32_6 := blk_frozen BK374.out 6
                      have hfz32_7 := blk_frozen BK374.out 7
                      have hfz32_8 := blk_frozen BK374.out 8
                      have hfz32_9 := blk_frozen BK374.out 9
                      have hfz32_10 := blk_frozen BK374.out 10
                      have hfz32_11 := blk_frozen BK374.out 11
                      have hfz32_12 := blk_frozen BK374.out 12
                      obtain ⟨Ao33, co33, eo33⟩ := Kd.R_slice HO_375011.out
                      subst eo33
                      go_wp2_with (first | ((with_reducible refine gate_callee (f := 9) rfl ?_); refine goesL_ (some 33) rfl rfl Try.func9 (by kernel_rfl) rfl #[.agg #[.int .i64 8, .int .i64 0, .int .i64 0, .int .i64 0, .int .i64 0, .int .i64 0, .int .i64 0, .int .i64 0, .int .i64 0, .int .i64 0, .int .i64 0, .slice Ao33 x375011_1.length co33, .slice none 0 0]] rfl (by (try simp only [List.map_toArray, List.map_cons, List.map_nil]); first | done | rfl | (simp only [List.length_drop, List.length_take]; rfl)) ?_; (refine (wire_Bytes.calls 8 0 0 0 0 0 0 0 0 0 0 _ _ x375011_1 _ _ ([] : List (S63)) t381 t382 _ ?side1 ?side2 ?side3 ?side4 A16.out).mono ?_); (case side1 => repeat (first | exact (Kd.R_reads' HO_375011.out).2.2 | (with_reducible refine Kd.C_alloc ?_ _) | (with_reducible refine Kd.C_drewN ?_ _) | (with_reducible refine Kd.C_drew ?_))); (case side2 => exact (Kd.R_reads' HO_375011.out).2.1); (case side3 => exact Kd.C_nil _ _); (case side4 => exact Nat.le_refl _); rintro e w34 ⟨rfl, hb⟩; refine ⟨_, rfl, ?_⟩; have n0_ := Aside0.mk (Kd.R_below (by (with_reducible repeat (first | apply Kd.R_alloc | apply Kd.R_drewN | apply Kd.R_drew)); exact HO_375011.out) hb); have n1_ := Aside0.mk (blk_below (g := gb374) (o := .cells #[.int .i64 8, .int .i64 0, .int .i64 0, .int .i64 0, .int .i64 0, .int .i64 0, .int .i64 0, .int .i64 0, .int .i64 0, .int .i64 0, .int .i64 0, .slice Ao33 x375011_1.length co33, .slice none 0 0] 28 (0, 0)) (by (with_reducible repeat (first | refine blk_drewN ?_ _ | refine blk_drew ?_ | refine blk_alloc ?_ _)); exact BK374.out) hb); have n2_ := Aside0.mk (below_step (by repeat (first | (with_reducible first | exact HB.out | apply below_alloc | apply pw_below_drewN | apply below_drew1 | refine below_set ?_ GE374.out) | exact HB.out)) hb); clear HO_375011; clear BK374; clear HB; have HO_375011 := n0_; have BK374 := n1_; have HB := n2_; clear n0_ n1_ n2_; (try clear hb); (try clear hb2); (try clear hk); (try clear hi)))
                      go_ret
                      exact ⟨by first | rfl | (simp [errW_none, errW_some] <;> rfl) | (simp [*, errW_none, errW_some] <;> rfl), by repeat (first | (with_reducible first | exact HB.out | apply below_alloc | apply pw_below_drewN | apply below_drew1 | refine below_set ?_ GE374.out) | exact HB.out)⟩
                  · rw [if_neg c25] at H
                    have c25b0 : (t382 == 0) = false := beq_eq_false_iff_ne.mpr c25
                    have c25b1 : (t382 != 0) = true := bne_iff_ne.mpr c25
                    obtain rfl := Option.some.inj H
                    have hcz35_0 : wr.cell? ⟨gb374, 0, none⟩ = some (.int .i64 8) := (blk_cell BK374.out 0).trans rfl
                    have hcz35_1 : wr.cell? ⟨gb374, 1, none⟩ = some (.int .i64 0) := (blk_cell BK374.out 1).trans rfl
                    have hcz35_2 : wr.cell? ⟨gb374, 2, none⟩ = some (.int .i64 0) := (blk_cell BK374.out 2).trans rfl
                    have hcz35_3 : wr.cell? ⟨gb374, 3, none⟩ = some (.int .i64 0) := (blk_cell BK374.out 3).trans rfl
                    have hcz35_4 : wr.cell? ⟨gb374, 4, none⟩ = some (.int .i64 0) := (blk_cell BK374.out 4).trans rfl
                    have hcz35_5 : wr.cell? ⟨gb374, 5, none⟩ = some (.int .i64 0) := (blk_cell BK374.out 5).trans rfl
                    have hcz35_6 : wr.cell? ⟨gb374, 6, none⟩ = some (.int .i64 0) := (blk_cell BK374.out 6).trans rfl
                    have hcz35_7 : wr.cell? ⟨gb374, 7, none⟩ = some (.int .i64 0) := (blk_cell BK374.out 7).trans rfl
                    have hcz35_8 : wr.cell? ⟨gb374, 8, none⟩ = some (.int .i64 0) := (blk_cell BK374.out 8).trans rfl
                    have hcz35_9 : wr.cell? ⟨gb374, 9, none⟩ = some (.int .i64 0) := (blk_cell BK374.out 9).trans rfl
                    have hcz35_10 : wr.cell? ⟨gb374, 10, none⟩ = some (.int .i64 0) := (blk_cell BK374.out 10).trans rfl
                    have hcz35_11 : wr.cell? ⟨gb374, 11, none⟩ = some (u375011) := (blk_cell BK374.out 11).trans rfl
                    have hcz35_12 : wr.cell? ⟨gb374, 12, none⟩ = some (.slice none 0 0) := (blk_cell BK374.out 12).trans rfl
                    have hfz35_0 := blk_frozen BK374.out 0
                    have hfz35_1 := blk_frozen BK374.out 1
                    have hfz35_2 := blk_frozen BK374.out 2
                    have hfz35_3 := blk_frozen BK374.out 3
                    have hfz35_4 := blk_frozen BK374.out 4
                    have hfz35_5 := blk_frozen BK374.out 5
                    have hfz35_6 := blk_frozen BK374.out 6
                    have hfz35_7 := blk_frozen BK374.out 7
                    have hfz35_8 := blk_frozen BK374.out 8
                    have hfz35_9 := blk_frozen BK374.out 9
                    have hfz35_10 := blk_frozen BK374.out 10
                    have hfz35_11 := blk_frozen BK374.out 11
                    have hfz35_12 := blk_frozen BK374.out 12
                    obtain ⟨Ao36, co36, eo36⟩ := Kd.R_slice HO_375011.out
                    subst eo36
                    go_wp2_with (first | ((with_reducible refine gate_callee (f := 9) rfl ?_); refine goesL_ (some 33) rfl rfl Try.func9 (by kernel_rfl) rfl #[.agg #[.int .i64 8, .int .i64 0, .int .i64 0, .int .i64 0, .int .i64 0, .int .i64 0, .int .i64 0, .int .i64 0, .int .i64 0, .int .i64 0, .int .i64 0, .slice Ao36 x375011_1.length co36, .slice none 0 0]] rfl (by (try simp only [List.map_toArray, List.map_cons, List.map_nil]); first | done | rfl | (simp only [List.length_drop, List.length_take]; rfl)) ?_; (refine (wire_Bytes.calls 8 0 0 0 0 0 0 0 0 0 0 _ _ x375011_1 _ _ ([] : List (S63)) t381 t382 _ ?side1 ?side2 ?side3 ?side4 A16.out).mono ?_); (case side1 => repeat (first | exact (Kd.R_reads' HO_375011.out).2.2 | (with_reducible refine Kd.C_alloc ?_ _) | (with_reducible refine Kd.C_drewN ?_ _) | (with_reducible refine Kd.C_drew ?_))); (case side2 => exact (Kd.R_reads' HO_375011.out).2.1); (case side3 => exact Kd.C_nil _ _); (case side4 => exact Nat.le_refl _); rintro e w37 ⟨rfl, hb⟩; refine ⟨_, rfl, ?_⟩; have n0_ := Aside0.mk (Kd.R_below (by (with_reducible repeat (first | apply Kd.R_alloc | apply Kd.R_drewN | apply Kd.R_drew)); exact HO_375011.out) hb); have n1_ := Aside0.mk (blk_below (g := gb374) (o := .cells #[.int .i64 8, .int .i64 0, .int .i64 0, .int .i64 0, .int .i64 0, .int .i64 0, .int .i64 0, .int .i64 0, .int .i64 0, .int .i64 0, .int .i64 0, .slice Ao36 x375011_1.length co36, .slice none 0 0] 28 (0, 0)) (by (with_reducible repeat (first | refine blk_drewN ?_ _ | refine blk_drew ?_ | refine blk_alloc ?_ _)); exact BK374.out) hb); have n2_ := Aside0.mk (below_step (by repeat (first | (with_reducible first | exact HB.out | apply below_alloc | apply pw_below_drewN | apply below_drew1 | refine below_set ?_ GE374.out) | exact HB.out)) hb); clear HO_375011; clear BK374; clear HB; have HO_375011 := n0_; have BK374 := n1_; have HB := n2_; clear n0_ n1_ n2_; (try clear hb); (try clear hb2); (try clear hk); (try clear hi)))
                    go_ret
                    exact ⟨by first | rfl | (simp [errW_none, errW_some] <;> rfl) | (simp [*, errW_none, errW_some] <;> rfl), by repeat (first | (with_reducible first | exact HB.out | apply below_alloc | apply pw_below_drewN | apply below_drew1 | refine below_set ?_ GE374.out) | exact HB.out)⟩
              · rw [if_neg c18] at H
                have c18b0 : (t382 == 4) = false := beq_eq_false_iff_ne.mpr c18
                have c18b1 : (t382 != 4) = true := bne_iff_ne.mpr c18
                by_cases c38 : t382 = 0
                · rw [if_pos c38] at H
                  have c38b0 : (t382 == 0) = true := beq_iff_eq.mpr c38
                  have c38b1 : (t382 != 0) = false := bne_eq_false_iff_eq.mpr c38
                  clear c38
                  by_cases c39 : (t381.size : Int) ≤ 1048576
                  · rw [if_pos c39] at H
                    have c39b0 : decide ((t381.size : Int) ≤ 1048576) = true := decide_eq_true c39
                    have c39b1 : decide (t381.size ≤ 1048576) = true := decide_eq_true (by omega)
                    clear c39
                    replace H := Option.bind_eq_some_iff.mp H
                    obtain ⟨t385, A400, H⟩ := H
                    replace H : (some t385) = some r := H
                    have A40 := Aside0.mk A400
                    clear A400
                    obtain rfl := Option.some.inj H
                    have hcz41_0 : wr.cell? ⟨gb374, 0, none⟩ = some (.int .i64 8) := (blk_cell BK374.out 0).trans rfl
                    have hcz41_1 : wr.cell? ⟨gb374, 1, none⟩ = some (.int .i64 0) := (blk_cell BK374.out 1).trans rfl
                    have hcz41_2 : wr.cell? ⟨gb374, 2, none⟩ = some (.int .i64 0) := (blk_cell BK374.out 2).trans rfl
                    have hcz41_3 : wr.cell? ⟨gb374, 3, none⟩ = some (.int .i64 0) := (blk_cell BK374.out 3).trans rfl
                    have hcz41_4 : wr.cell? ⟨gb374, 4, none⟩ = some (.int .i64 0) := (blk_cell BK374.out 4).trans rfl
                    have hcz41_5 : wr.cell? ⟨gb374, 5, none⟩ = some (.int .i64 0) := (blk_cell BK374.out 5).trans rfl
                    have hcz41_6 : wr.cell? ⟨gb374, 6, none⟩ = some (.int .i64 0) := (blk_cell BK374.out 6).trans rfl
                    have hcz41_7 : wr.cell? ⟨gb374, 7, none⟩ = some (.int .i64 0) := (blk_cell BK374.out 7).trans rfl
                    have hcz41_8 : wr.cell? ⟨gb374, 8, none⟩ = some (.int .i64 0) := (blk_cell BK374.out 8).trans rfl
                    have hcz41_9 : wr.cell? ⟨gb374, 9, none⟩ = some (.int .i64 0) := (blk_cell BK374.out 9).trans rfl
                    have hcz41_10 : wr.cell? ⟨gb374, 10, none⟩ = some (.int .i64 0) := (blk_cell BK374.out 10).trans rfl
                    have hcz41_11 : wr.cell? ⟨gb374, 11, none⟩ = some (u375011) := (blk_cell BK374.out 11).trans rfl
                    have hcz41_12 : wr.cell? ⟨gb374, 12, none⟩ = some (.slice none 0 0) := (blk_cell BK374.out 12).trans rfl
                    have hfz41_0 := blk_frozen BK374.out 0
                    have hfz41_1 := blk_frozen BK374.out 1
                    have hfz41_2 := blk_frozen BK374.out 2
                    have hfz41_3 := blk_frozen BK374.out 3
                    have hfz41_4 := blk_frozen BK374.out 4
                    have hfz41_5 := blk_frozen BK374.out 5
                    have hfz41_6 := blk_frozen BK374.out 6
                    have hfz41_7 := blk_frozen BK374.out 7
                    have hfz41_8 := blk_frozen BK374.out 8
                    have hfz41_9 := blk_frozen BK374.out 9
                    have hfz41_10 := blk_frozen BK374.out 10
                    have hfz41_11 := blk_frozen BK374.out 11
                    have hfz41_12 := blk_frozen BK374.out 12
                    obtain ⟨Ao42, co42, eo42⟩ := Kd.R_slice HO_375011.out
                    subst eo42
                    go_wp2_with (first | ((with_reducible refine gate_callee (f := 9) rfl ?_); refine goesL_ (some 33) rfl rfl Try.func9 (by kernel_rfl) rfl #[.agg #[.int .i64 8, .int .i64 0, .int .i64 0, .int .i64 0, .int .i64 0, .int .i64 0, .int .i64 0, .int .i64 0, .int .i64 0, .int .i64 0, .int .i64 0, .slice Ao42 x375011_1.length co42, .slice none 0 0]] rfl (by (try simp only [List.map_toArray, List.map_cons, List.map_nil]); first | done | rfl | (simp only [List.length_drop, List.length_take]; rfl)) ?_; (refine (wire_Bytes.calls 8 0 0 0 0 0 0 0 0 0 0 _ _ x375011_1 _ _ ([] : List (S63)) t381 t382 _ ?side1 ?side2 ?side3 ?side4 A16.out).mono ?_); (case side1 => repeat (first | exact (Kd.R_reads' HO_375011.out).2.2 | (with_reducible refine Kd.C_alloc ?_ _) | (with_reducible refine Kd.C_drewN ?_ _) | (with_reducible refine Kd.C_drew ?_))); (case side2 => exact (Kd.R_reads' HO_375011.out).2.1); (case side3 => exact Kd.C_nil _ _); (case side4 => exact Nat.le_refl _); rintro e w43 ⟨rfl, hb⟩; refine ⟨_, rfl, ?_⟩; have n0_ := Aside0.mk (Kd.R_below (by (with_reducible repeat (first | apply Kd.R_alloc | apply Kd.R_drewN | apply Kd.R_drew)); exact HO_375011.out) hb); have n1_ := Aside0.mk (blk_below (g := gb374) (o := .cells #[.int .i64 8, .int .i64 0, .int .i64 0, .int .i64 0, .int .i64 0, .int .i64 0, .int .i64 0, .int .i64 0, .int .i64 0, .int .i64 0, .int .i64 0, .slice Ao42 x375011_1.length co42, .slice none 0 0] 28 (0, 0)) (by (with_reducible repeat (first | refine blk_drewN ?_ _ | refine blk_drew ?_ | refine blk_alloc ?_ _)); exact BK374.out) hb); have n2_ := Aside0.mk (below_step (by repeat (first | (with_reducible first | exact HB.out | apply below_alloc | apply pw_below_drewN | apply below_drew1 | refine below_set ?_ GE374.out) | exact HB.out)) hb); clear HO_375011; clear BK374; clear HB; have HO_375011 := n0_; have BK374 := n1_; have HB := n2_; clear n0_ n1_ n2_; (try clear hb); (try clear hb2); (try clear hk); (try clear hi)) | (go_at_call 13; (with_reducible refine (postroadlaw14_awake.calls  t385 _ A40.out).mono ?_); rintro e w44 ⟨rfl, hb⟩; have n0_ := Aside0.mk (Kd.R_below (by (with_reducible repeat (first | apply Kd.R_alloc | apply Kd.R_drewN | apply Kd.R_drew)); exact HO_375011.out) hb); have n1_ := Aside0.mk (blk_below (g := gb374) (o := .cells #[.int .i64 8, .int .i64 0, .int .i64 0, .int .i64 0, .int .i64 0, .int .i64 0, .int .i64 0, .int .i64 0, .int .i64 0, .int .i64 0, .int .i64 0, .slice Ao42 x375011_1.length co42, .slice none 0 0] 28 (0, 0)) (by (with_reducible repeat (first | refine blk_drewN ?_ _ | refine blk_drew ?_ | refine blk_alloc ?_ _)); exact BK374.out) hb); have n2_ := Aside0.mk (below_step (by repeat (first | (with_reducible first | exact HB.out | apply below_alloc | apply pw_below_drewN | apply below_drew1 | refine below_set ?_ GE374.out) | exact HB.out)) hb); clear HO_375011; clear BK374; clear HB; have HO_375011 := n0_; have BK374 := n1_; have HB := n2_; clear n0_ n1_ n2_; (try clear hb); (try clear hb2); (try clear hk); (try clear hi)))
                    go_ret
                    exact ⟨by first | rfl | (simp [errW_none, errW_some] <;> rfl) | (simp [*, errW_none, errW_some] <;> rfl), by repeat (first | (with_reducible first | exact HB.out | apply below_alloc | apply pw_below_drewN | apply below_drew1 | refine below_set ?_ GE374.out) | exact HB.out)⟩
                  · rw [if_neg c39] at H
                    have c39b0 : decide ((t381.size : Int) ≤ 1048576) = false := decide_eq_false c39
                    have c39b1 : decide (t381.size ≤ 1048576) = false := decide_eq_false (by omega)
                    clear c39
                    obtain rfl := Option.some.inj H
                    have hcz45_0 : wr.cell? ⟨gb374, 0, none⟩ = some (.int .i64 8) := (blk_cell BK374.out 0).trans rfl
                    have hcz45_1 : wr.cell? ⟨gb374, 1, none⟩ = some (.int .i64 0) := (blk_cell BK374.out 1).trans rfl
                    have hcz45_2 : wr.cell? ⟨gb374, 2, none⟩ = some (.int .i64 0) := (blk_cell BK374.out 2).trans rfl
                    have hcz45_3 : wr.cell? ⟨gb374, 3, none⟩ = some (.int .i64 0) := (blk_cell BK374.out 3).trans rfl
                    have hcz45_4 : wr.cell? ⟨gb374, 4, none⟩ = some (.int .i64 0) := (blk_cell BK374.out 4).trans rfl
                    have hcz45_5 : wr.cell? ⟨gb374, 5, none⟩ = some (.int .i64 0) := (blk_cell BK374.out 5).trans rfl
                    have hcz45_6 : wr.cell? ⟨gb374, 6, none⟩ = some (.int .i64 0) := (blk_cell BK374.out 6).trans rfl
                    have hcz45_7 : wr.cell? ⟨gb374, 7, none⟩ = some (.int .i64 0) := (blk_cell BK374.out 7).trans rfl
                    have hcz45_8 : wr.cell? ⟨gb374, 8, none⟩ = some (.int .i64 0) := (blk_cell BK374.out 8).trans rfl
                    have hcz45_9 : wr.cell? ⟨gb374, 9, none⟩ = some (.int .i64 0) := (blk_cell BK374.out 9).trans rfl
                    have hcz45_10 : wr.cell? ⟨gb374, 10, none⟩ = some (.int .i64 0) := (blk_cell BK374.out 10).trans rfl
                    have hcz45_11 : wr.cell? ⟨gb374, 11, none⟩ = some (u375011) := (blk_cell BK374.out 11).trans rfl
                    have hcz45_12 : wr.cell? ⟨gb374, 12, none⟩ = some (.slice none 0 0) := (blk_cell BK374.out 12).trans rfl
                    have hfz45_0 := blk_frozen BK374.out 0
                    have hfz45_1 := blk_frozen BK374.out 1
                    have hfz45_2 := blk_frozen BK374.out 2
                    have hfz45_3 := blk_frozen BK374.out 3
                    have hfz45_4 := blk_frozen BK374.out 4
                    have hfz45_5 := blk_frozen BK374.out 5
                    have hfz45_6 := blk_frozen BK374.out 6
                    have hfz45_7 := blk_frozen BK374.out 7
                    have hfz45_8 := blk_frozen BK374.out 8
                    have hfz45_9 := blk_frozen BK374.out 9
                    have hfz45_10 := blk_frozen BK374.out 10
                    have hfz45_11 := blk_frozen BK374.out 11
                    have hfz45_12 := blk_frozen BK374.out 12
                    obtain ⟨Ao46, co46, eo46⟩ := Kd.R_slice HO_375011.out
                    subst eo46
                    go_wp2_with (first | ((with_reducible refine gate_callee (f := 9) rfl ?_); refine goesL_ (some 33) rfl rfl Try.func9 (by kernel_rfl) rfl #[.agg #[.int .i64 8, .int .i64 0, .int .i64 0, .int .i64 0, .int .i64 0, .int .i64 0, .int .i64 0, .int .i64 0, .int .i64 0, .int .i64 0, .int .i64 0, .slice Ao46 x375011_1.length co46, .slice none 0 0]] rfl (by (try simp only [List.map_toArray, List.map_cons, List.map_nil]); first | done | rfl | (simp only [List.length_drop, List.length_take]; rfl)) ?_; (refine (wire_Bytes.calls 8 0 0 0 0 0 0 0 0 0 0 _ _ x375011_1 _ _ ([] : List (S63)) t381 t382 _ ?side1 ?side2 ?side3 ?side4 A16.out).mono ?_); (case side1 => repeat (first | exact (Kd.R_reads' HO_375011.out).2.2 | (with_reducible refine Kd.C_alloc ?_ _) | (with_reducible refine Kd.C_drewN ?_ _) | (with_reducible refine Kd.C_drew ?_))); (case side2 => exact (Kd.R_reads' HO_375011.out).2.1); (case side3 => exact Kd.C_nil _ _); (case side4 => exact Nat.le_refl _); rintro e w47 ⟨rfl, hb⟩; refine ⟨_, rfl, ?_⟩; have n0_ := Aside0.mk (Kd.R_below (by (with_reducible repeat (first | apply Kd.R_alloc | apply Kd.R_drewN | apply Kd.R_drew)); exact HO_375011.out) hb); have n1_ := Aside0.mk (blk_below (g := gb374) (o := .cells #[.int .i64 8, .int .i64 0, .int .i64 0, .int .i64 0, .int .i64 0, .int .i64 0, .int .i64 0, .int .i64 0, .int .i64 0, .int .i64 0, .int .i64 0, .slice Ao46 x375011_1.length co46, .slice none 0 0] 28 (0, 0)) (by (with_reducible repeat (first | refine blk_drewN ?_ _ | refine blk_drew ?_ | refine blk_alloc ?_ _)); exact BK374.out) hb); have n2_ := Aside0.mk (below_step (by repeat (first | (with_reducible first | exact HB.out | apply below_alloc | apply pw_below_drewN | apply below_drew1 | refine below_set ?_ GE374.out) | exact HB.out)) hb); clear HO_375011; clear BK374; clear HB; have HO_375011 := n0_; have BK374 := n1_; have HB := n2_; clear n0_ n1_ n2_; (try clear hb); (try clear hb2); (try clear hk); (try clear hi)))
                    go_ret
                    exact ⟨by first | rfl | (simp [errW_none, errW_some] <;> rfl) | (simp [*, errW_none, errW_some] <;> rfl), by repeat (first | (with_reducible first | exact HB.out | apply below_alloc | apply pw_below_drewN | apply below_drew1 | refine below_set ?_ GE374.out) | exact HB.out)⟩
                · rw [if_neg c38] at H
                  have c38b0 : (t382 == 0) = false := beq_eq_false_iff_ne.mpr c38
                  have c38b1 : (t382 != 0) = true := bne_iff_ne.mpr c38
                  obtain rfl := Option.some.inj H
                  have hcz48_0 : wr.cell? ⟨gb374, 0, none⟩ = some (.int .i64 8) := (blk_cell BK374.out 0).trans rfl
                  have hcz48_1 : wr.cell? ⟨gb374, 1, none⟩ = some (.int .i64 0) := (blk_cell BK374.out 1).trans rfl
                  have hcz48_2 : wr.cell? ⟨gb374, 2, none⟩ = some (.int .i64 0) := (blk_cell BK374.out 2).trans rfl
                  have hcz48_3 : wr.cell? ⟨gb374, 3, none⟩ = some (.int .i64 0) := (blk_cell BK374.out 3).trans rfl
                  have hcz48_4 : wr.cell? ⟨gb374, 4, none⟩ = some (.int .i64 0) := (blk_cell BK374.out 4).trans rfl
                  have hcz48_5 : wr.cell? ⟨gb374, 5, none⟩ = some (.int .i64 0) := (blk_cell BK374.out 5).trans rfl
                  have hcz48_6 : wr.cell? ⟨gb374, 6, none⟩ = some (.int .i64 0) := (blk_cell BK374.out 6).trans rfl
                  have hcz48_7 : wr.cell? ⟨gb374, 7, none⟩ = some (.int .i64 0) := (blk_cell BK374.out 7).trans rfl
                  have hcz48_8 : wr.cell? ⟨gb374, 8, none⟩ = some (.int .i64 0) := (blk_cell BK374.out 8).trans rfl
                  have hcz48_9 : wr.cell? ⟨gb374, 9, none⟩ = some (.int .i64 0) := (blk_cell BK374.out 9).trans rfl
                  have hcz48_10 : wr.cell? ⟨gb374, 10, none⟩ = some (.int .i64 0) := (blk_cell BK374.out 10).trans rfl
                  have hcz48_11 : wr.cell? ⟨gb374, 11, none⟩ = some (u375011) := (blk_cell BK374.out 11).trans rfl
                  have hcz48_12 : wr.cell? ⟨gb374, 12, none⟩ = some (.slice none 0 0) := (blk_cell BK374.out 12).trans rfl
                  have hfz48_0 := blk_frozen BK374.out 0
                  have hfz48_1 := blk_frozen BK374.out 1
                  have hfz48_2 := blk_frozen BK374.out 2
                  have hfz48_3 := blk_frozen BK374.out 3
                  have hfz48_4 := blk_frozen BK374.out 4
                  have hfz48_5 := blk_frozen BK374.out 5
                  have hfz48_6 := blk_frozen BK374.out 6
                  have hfz48_7 := blk_frozen BK374.out 7
                  have hfz48_8 := blk_frozen BK374.out 8
                  have hfz48_9 := blk_frozen BK374.out 9
                  have hfz48_10 := blk_frozen BK374.out 10
                  have hfz48_11 := blk_frozen BK374.out 11
                  have hfz48_12 := blk_frozen BK374.out 12
                  obtain ⟨Ao49, co49, eo49⟩ := Kd.R_slice HO_375011.out
                  subst eo49
                  go_wp2_with (first | ((with_reducible refine gate_callee (f := 9) rfl ?_); refine goesL_ (some 33) rfl rfl Try.func9 (by kernel_rfl) rfl #[.agg #[.int .i64 8, .int .i64 0, .int .i64 0, .int .i64 0, .int .i64 0, .int .i64 0, .int .i64 0, .int .i64 0, .int .i64 0, .int .i64 0, .int .i64 0, .slice Ao49 x375011_1.length co49, .slice none 0 0]] rfl (by (try simp only [List.map_toArray, List.map_cons, List.map_nil]); first | done | rfl | (simp only [List.length_drop, List.length_take]; rfl)) ?_; (refine (wire_Bytes.calls 8 0 0 0 0 0 0 0 0 0 0 _ _ x375011_1 _ _ ([] : List (S63)) t381 t382 _ ?side1 ?side2 ?side3 ?side4 A16.out).mono ?_); (case side1 => repeat (first | exact (Kd.R_reads' HO_375011.out).2.2 | (with_reducible refine Kd.C_alloc ?_ _) | (with_reducible refine Kd.C_drewN ?_ _) | (with_reducible refine Kd.C_drew ?_))); (case side2 => exact (Kd.R_reads' HO_375011.out).2.1); (case side3 => exact Kd.C_nil _ _); (case side4 => exact Nat.le_refl _); rintro e w50 ⟨rfl, hb⟩; refine ⟨_, rfl, ?_⟩; have n0_ := Aside0.mk (Kd.R_below (by (with_reducible repeat (first | apply Kd.R_alloc | apply Kd.R_drewN | apply Kd.R_drew)); exact HO_375011.out) hb); have n1_ := Aside0.mk (blk_below (g := gb374) (o := .cells #[.int .i64 8, .int .i64 0, .int .i64 0, .int .i64 0, .int .i64 0, .int .i64 0, .int .i64 0, .int .i64 0, .int .i64 0, .int .i64 0, .int .i64 0, .slice Ao49 x375011_1.length co49, .slice none 0 0] 28 (0, 0)) (by (with_reducible repeat (first | refine blk_drewN ?_ _ | refine blk_drew ?_ | refine blk_alloc ?_ _)); exact BK374.out) hb); have n2_ := Aside0.mk (below_step (by repeat (first | (with_reducible first | exact HB.out | apply below_alloc | apply pw_below_drewN | apply below_drew1 | refine below_set ?_ GE374.out) | exact HB.out)) hb); clear HO_375011; clear BK374; clear HB; have HO_375011 := n0_; have BK374 := n1_; have HB := n2_; clear n0_ n1_ n2_; (try clear hb); (try clear hb2); (try clear hk); (try clear hi)))
                  go_ret
                  exact ⟨by first | rfl | (simp [errW_none, errW_some] <;> rfl) | (simp [*, errW_none, errW_some] <;> rfl), by repeat (first | (with_reducible first | exact HB.out | apply below_alloc | apply pw_below_drewN | apply below_drew1 | refine below_set ?_ GE374.out) | exact HB.out)⟩
            · rw [if_neg c17] at H
              have c17b0 : decide (1048576 < (wrap64 ((Go.bits .and .i64 a0 15) * (wrap64 ((Go.bits .and .i64 a1 262143) + 3))))) = false := decide_eq_false c17
              clear c17
              by_cases c51 : t382 = 0
              · rw [if_pos c51] at H
                have c51b0 : (t382 == 0) = true := beq_iff_eq.mpr c51
                have c51b1 : (t382 != 0) = false := bne_eq_false_iff_eq.mpr c51
                clear c51
                by_cases c52 : (t381.size : Int) ≥ (wrap64 ((Go.bits .and .i64 a0 15) * (Go.bits .and .i64 a1 262143)))
                · rw [if_pos c52] at H
                  have c52b0 : decide ((wrap64 ((Go.bits .and .i64 a0 15) * (Go.bits .and .i64 a1 262143))) ≤ (t381.size : Int)) = true := decide_eq_true c52
                  clear c52
                  replace H := Option.bind_eq_some_iff.mp H
                  obtain ⟨t386, A530, H⟩ := H
                  replace H : (some t386) = some r := H
                  have A53 := Aside0.mk A530
                  clear A530
                  obtain rfl := Option.some.inj H
                  have hcz54_0 : wr.cell? ⟨gb374, 0, none⟩ = some (.int .i64 8) := (blk_cell BK374.out 0).trans rfl
                  have hcz54_1 : wr.cell? ⟨gb374, 1, none⟩ = some (.int .i64 0) := (blk_cell BK374.out 1).trans rfl
                  have hcz54_2 : wr.cell? ⟨gb374, 2, none⟩ = some (.int .i64 0) := (blk_cell BK374.out 2).trans rfl
                  have hcz54_3 : wr.cell? ⟨gb374, 3, none⟩ = some (.int .i64 0) := (blk_cell BK374.out 3).trans rfl
                  have hcz54_4 : wr.cell? ⟨gb374, 4, none⟩ = some (.int .i64 0) := (blk_cell BK374.out 4).trans rfl
                  have hcz54_5 : wr.cell? ⟨gb374, 5, none⟩ = some (.int .i64 0) := (blk_cell BK374.out 5).trans rfl
                  have hcz54_6 : wr.cell? ⟨gb374, 6, none⟩ = some (.int .i64 0) := (blk_cell BK374.out 6).trans rfl
                  have hcz54_7 : wr.cell? ⟨gb374, 7, none⟩ = some (.int .i64 0) := (blk_cell BK374.out 7).trans rfl
                  have hcz54_8 : wr.cell? ⟨gb374, 8, none⟩ = some (.int .i64 0) := (blk_cell BK374.out 8).trans rfl
                  have hcz54_9 : wr.cell? ⟨gb374, 9, none⟩ = some (.int .i64 0) := (blk_cell BK374.out 9).trans rfl
                  have hcz54_10 : wr.cell? ⟨gb374, 10, none⟩ = some (.int .i64 0) := (blk_cell BK374.out 10).trans rfl
                  have hcz54_11 : wr.cell? ⟨gb374, 11, none⟩ = some (u375011) := (blk_cell BK374.out 11).trans rfl
                  have hcz54_12 : wr.cell? ⟨gb374, 12, none⟩ = some (.slice none 0 0) := (blk_cell BK374.out 12).trans rfl
                  have hfz54_0 := blk_frozen BK374.out 0
                  have hfz54_1 := blk_frozen BK374.out 1
                  have hfz54_2 := blk_frozen BK374.out 2
                  have hfz54_3 := blk_frozen BK374.out 3
                  have hfz54_4 := blk_frozen BK374.out 4
                  have hfz54_5 := blk_frozen BK374.out 5
                  have hfz54_6 := blk_frozen BK374.out 6
                  have hfz54_7 := blk_frozen BK374.out 7
                  have hfz54_8 := blk_frozen BK374.out 8
                  have hfz54_9 := blk_frozen BK374.out 9
                  have hfz54_10 := blk_frozen BK374.out 10
                  have hfz54_11 := blk_frozen BK374.out 11
                  have hfz54_12 := blk_frozen BK374.out 12
                  obtain ⟨Ao55, co55, eo55⟩ := Kd.R_slice HO_375011.out
                  subst eo55
                  go_wp2_with (first | ((with_reducible refine gate_callee (f := 9) rfl ?_); refine goesL_ (some 33) rfl rfl Try.func9 (by kernel_rfl) rfl #[.agg #[.int .i64 8, .int .i64 0, .int .i64 0, .int .i64 0, .int .i64 0, .int .i64 0, .int .i64 0, .int .i64 0, .int .i64 0, .int .i64 0, .int .i64 0, .slice Ao55 x375011_1.length co55, .slice none 0 0]] rfl (by (try simp only [List.map_toArray, List.map_cons, List.map_nil]); first | done | rfl | (simp only [List.length_drop, List.length_take]; rfl)) ?_; (refine (wire_Bytes.calls 8 0 0 0 0 0 0 0 0 0 0 _ _ x375011_1 _ _ ([] : List (S63)) t381 t382 _ ?side1 ?side2 ?side3 ?side4 A16.out).mono ?_); (case side1 => repeat (first | exact (Kd.R_reads' HO_375011.out).2.2 | (with_reducible refine Kd.C_alloc ?_ _) | (with_reducible refine Kd.C_drewN ?_ _) | (with_reducible refine Kd.C_drew ?_))); (case side2 => exact (Kd.R_reads' HO_375011.out).2.1); (case side3 => exact Kd.C_nil _ _); (case side4 => exact Nat.le_refl _); rintro e w56 ⟨rfl, hb⟩; refine ⟨_, rfl, ?_⟩; have n0_ := Aside0.mk (Kd.R_below (by (with_reducible repeat (first | apply Kd.R_alloc | apply Kd.R_drewN | apply Kd.R_drew)); exact HO_375011.out) hb); have n1_ := Aside0.mk (blk_below (g := gb374) (o := .cells #[.int .i64 8, .int .i64 0, .int .i64 0, .int .i64 0, .int .i64 0, .int .i64 0, .int .i64 0, .int .i64 0, .int .i64 0, .int .i64 0, .int .i64 0, .slice Ao55 x375011_1.length co55, .slice none 0 0] 28 (0, 0)) (by (with_reducible repeat (first | refine blk_drewN ?_ _ | refine blk_drew ?_ | refine blk_alloc ?_ _)); exact BK374.out) hb); have n2_ := Aside0.mk (below_step (by repeat (first | (with_reducible first | exact HB.out | apply below_alloc | apply pw_below_drewN | apply below_drew1 | refine below_set ?_ GE374.out) | exact HB.out)) hb); clear HO_375011; clear BK374; clear HB; have HO_375011 := n0_; have BK374 := n1_; have HB := n2_; clear n0_ n1_ n2_; (try clear hb); (try clear hb2); (try clear hk); (try clear hi)) | (go_at_call 13; (with_reducible refine (postroadlaw14_awake.calls  t386 _ A53.out).mono ?_); rintro e w57 ⟨rfl, hb⟩; have n0_ := Aside0.mk (Kd.R_below (by (with_reducible repeat (first | apply Kd.R_alloc | apply Kd.R_drewN | apply Kd.R_drew)); exact HO_375011.out) hb); have n1_ := Aside0.mk (blk_below (g := gb374) (o := .cells #[.int .i64 8, .int .i64 0, .int .i64 0, .int .i64 0, .int .i64 0, .int .i64 0, .int .i64 0, .int .i64 0, .int .i64 0, .int .i64 0, .int .i64 0, .slice Ao55 x375011_1.length co55, .slice none 0 0] 28 (0, 0)) (by (with_reducible repeat (first | refine blk_drewN ?_ _ | refine blk_drew ?_ | refine blk_alloc ?_ _)); exact BK374.out) hb); have n2_ := Aside0.mk (below_step (by repeat (first | (with_reducible first | exact HB.out | apply below_alloc | apply pw_below_drewN | apply below_drew1 | refine below_set ?_ GE374.out) | exact HB.out)) hb); clear HO_375011; clear BK374; clear HB; have HO_375011 := n0_; have BK374 := n1_; have HB := n2_; clear n0_ n1_ n2_; (try clear hb); (try clear hb2); (try clear hk); (try clear hi)))
                  go_ret
                  exact ⟨by first | rfl | (simp [errW_none, errW_some] <;> rfl) | (simp [*, errW_none, errW_some] <;> rfl), by repeat (first | (with_reducible first | exact HB.out | apply below_alloc | apply pw_below_drewN | apply below_drew1 | refine below_set ?_ GE374.out) | exact HB.out)⟩
                · rw [if_neg c52] at H
                  have c52b0 : decide ((wrap64 ((Go.bits .and .i64 a0 15) * (Go.bits .and .i64 a1 262143))) ≤ (t381.size : Int)) = false := decide_eq_false c52
                  clear c52
                  by_cases c58 : (wrap64 ((wrap64 ((Go.bits .and .i64 a0 15) * (wrap64 ((Go.bits .and .i64 a1 262143) + 3)))) + 40)) > 1048576
                  · rw [if_pos c58] at H
                    have c58b0 : decide (1048576 < (wrap64 ((wrap64 ((Go.bits .and .i64 a0 15) * (wrap64 ((Go.bits .and .i64 a1 262143) + 3)))) + 40))) = true := decide_eq_true c58
                    clear c58
                    replace H := Option.bind_eq_some_iff.mp H
                    obtain ⟨t387, A590, H⟩ := H
                    replace H : (some t387) = some r := H
                    have A59 := Aside0.mk A590
                    clear A590
                    obtain rfl := Option.some.inj H
                    have hcz60_0 : wr.cell? ⟨gb374, 0, none⟩ = some (.int .i64 8) := (blk_cell BK374.out 0).trans rfl
                    have hcz60_1 : wr.cell? ⟨gb374, 1, none⟩ = some (.int .i64 0) := (blk_cell BK374.out 1).trans rfl
                    have hcz60_2 : wr.cell? ⟨gb374, 2, none⟩ = some (.int .i64 0) := (blk_cell BK374.out 2).trans rfl
                    have hcz60_3 : wr.cell? ⟨gb374, 3, none⟩ = some (.int .i64 0) := (blk_cell BK374.out 3).trans rfl
                    have hcz60_4 : wr.cell? ⟨gb374, 4, none⟩ = some (.int .i64 0) := (blk_cell BK374.out 4).trans rfl
                    have hcz60_5 : wr.cell? ⟨gb374, 5, none⟩ = some (.int .i64 0) := (blk_cell BK374.out 5).trans rfl
                    have hcz60_6 : wr.cell? ⟨gb374, 6, none⟩ = some (.int .i64 0) := (blk_cell BK374.out 6).trans rfl
                    have hcz60_7 : wr.cell? ⟨gb374, 7, none⟩ = some (.int .i64 0) := (blk_cell BK374.out 7).trans rfl
                    have hcz60_8 : wr.cell? ⟨gb374, 8, none⟩ = some (.int .i64 0) := (blk_cell BK374.out 8).trans rfl
                    have hcz60_9 : wr.cell? ⟨gb374, 9, none⟩ = some (.int .i64 0) := (blk_cell BK374.out 9).trans rfl
                    have hcz60_10 : wr.cell? ⟨gb374, 10, none⟩ = some (.int .i64 0) := (blk_cell BK374.out 10).trans rfl
                    have hcz60_11 : wr.cell? ⟨gb374, 11, none⟩ = some (u375011) := (blk_cell BK374.out 11).trans rfl
                    have hcz60_12 : wr.cell? ⟨gb374, 12, none⟩ = some (.slice none 0 0) := (blk_cell BK374.out 12).trans rfl
                    have hfz60_0 := blk_frozen BK374.out 0
                    have hfz60_1 := blk_frozen BK374.out 1
                    have hfz60_2 := blk_frozen BK374.out 2
                    have hfz60_3 := blk_frozen BK374.out 3
                    have hfz60_4 := blk_frozen BK374.out 4
                    have hfz60_5 := blk_frozen BK374.out 5
                    have hfz60_6 := blk_frozen BK374.out 6
                    have hfz60_7 := blk_frozen BK374.out 7
                    have hfz60_8 := blk_frozen BK374.out 8
                    have hfz60_9 := blk_frozen BK374.out 9
                    have hfz60_10 := blk_frozen BK374.out 10
                    have hfz60_11 := blk_frozen BK374.out 11
                    have hfz60_12 := blk_frozen BK374.out 12
                    obtain ⟨Ao61, co61, eo61⟩ := Kd.R_slice HO_375011.out
                    subst eo61
                    go_wp2_with (first | ((with_reducible refine gate_callee (f := 9) rfl ?_); refine goesL_ (some 33) rfl rfl Try.func9 (by kernel_rfl) rfl #[.agg #[.int .i64 8, .int .i64 0, .int .i64 0, .int .i64 0, .int .i64 0, .int .i64 0, .int .i64 0, .int .i64 0, .int .i64 0, .int .i64 0, .int .i64 0, .slice Ao61 x375011_1.length co61, .slice none 0 0]] rfl (by (try simp only [List.map_toArray, List.map_cons, List.map_nil]); first | done | rfl | (simp only [List.length_drop, List.length_take]; rfl)) ?_; (refine (wire_Bytes.calls 8 0 0 0 0 0 0 0 0 0 0 _ _ x375011_1 _ _ ([] : List (S63)) t381 t382 _ ?side1 ?side2 ?side3 ?side4 A16.out).mono ?_); (case side1 => repeat (first | exact (Kd.R_reads' HO_375011.out).2.2 | (with_reducible refine Kd.C_alloc ?_ _) | (with_reducible refine Kd.C_drewN ?_ _) | (with_reducible refine Kd.C_drew ?_))); (case side2 => exact (Kd.R_reads' HO_375011.out).2.1); (case side3 => exact Kd.C_nil _ _); (case side4 => exact Nat.le_refl _); rintro e w62 ⟨rfl, hb⟩; refine ⟨_, rfl, ?_⟩; have n0_ := Aside0.mk (Kd.R_below (by (with_reducible repeat (first | apply Kd.R_alloc | apply Kd.R_drewN | apply Kd.R_drew)); exact HO_375011.out) hb); have n1_ := Aside0.mk (blk_below (g := gb374) (o := .cells #[.int .i64 8, .int .i64 0, .int .i64 0, .int .i64 0, .int .i64 0, .int .i64 0, .int .i64 0, .int .i64 0, .int .i64 0, .int .i64 0, .int .i64 0, .slice Ao61 x375011_1.length co61, .slice none 0 0] 28 (0, 0)) (by (with_reducible repeat (first | refine blk_drewN ?_ _ | refine blk_drew ?_ | refine blk_alloc ?_ _)); exact BK374.out) hb); have n2_ := Aside0.mk (below_step (by repeat (first | (with_reducible first | exact HB.out | apply below_alloc | apply pw_below_drewN | apply below_drew1 | refine below_set ?_ GE374.out) | exact HB.out)) hb); clear HO_375011; clear BK374; clear HB; have HO_375011 := n0_; have BK374 := n1_; have HB := n2_; clear n0_ n1_ n2_; (try clear hb); (try clear hb2); (try clear hk); (try clear hi)) | (go_at_call 13; (with_reducible refine (postroadlaw14_awake.calls  t387 _ A59.out).mono ?_); rintro e w63 ⟨rfl, hb⟩; have n0_ := Aside0.mk (Kd.R_below (by (with_reducible repeat (first | apply Kd.R_alloc | apply Kd.R_drewN | apply Kd.R_drew)); exact HO_375011.out) hb); have n1_ := Aside0.mk (blk_below (g := gb374) (o := .cells #[.int .i64 8, .int .i64 0, .int .i64 0, .int .i64 0, .int .i64 0, .int .i64 0, .int .i64 0, .int .i64 0, .int .i64 0, .int .i64 0, .int .i64 0, .slice Ao61 x375011_1.length co61, .slice none 0 0] 28 (0, 0)) (by (with_reducible repeat (first | refine blk_drewN ?_ _ | refine blk_drew ?_ | refine blk_alloc ?_ _)); exact BK374.out) hb); have n2_ := Aside0.mk (below_step (by repeat (first | (with_reducible first | exact HB.out | apply below_alloc | apply pw_below_drewN | apply below_drew1 | refine below_set ?_ GE374.out) | exact HB.out)) hb); clear HO_375011; clear BK374; clear HB; have HO_375011 := n0_; have BK374 := n1_; have HB := n2_; clear n0_ n1_ n2_; (try clear hb); (try clear hb2); (try clear hk); (try clear hi)))
                    go_ret
                    exact ⟨by first | rfl | (simp [errW_none, errW_some] <;> rfl) | (simp [*, errW_none, errW_some] <;> rfl), by repeat (first | (with_reducible first | exact HB.out | apply below_alloc | apply pw_below_drewN | apply below_drew1 | refine below_set ?_ GE374.out) | exact HB.out)⟩
                  · rw [if_neg c58] at H
                    have c58b0 : decide (1048576 < (wrap64 ((wrap64 ((Go.bits .and .i64 a0 15) * (wrap64 ((Go.bits .and .i64 a1 262143) + 3)))) + 40))) = false := decide_eq_false c58
                    clear c58
                    obtain rfl := Option.some.inj H
                    have hcz64_0 : wr.cell? ⟨gb374, 0, none⟩ = some (.int .i64 8) := (blk_cell BK374.out 0).trans rfl
                    have hcz64_1 : wr.cell? ⟨gb374, 1, none⟩ = some (.int .i64 0) := (blk_cell BK374.out 1).trans rfl
                    have hcz64_2 : wr.cell? ⟨gb374, 2, none⟩ = some (.int .i64 0) := (blk_cell BK374.out 2).trans rfl
                    have hcz64_3 : wr.cell? ⟨gb374, 3, none⟩ = some (.int .i64 0) := (blk_cell BK374.out 3).trans rfl
                    have hcz64_4 : wr.cell? ⟨gb374, 4, none⟩ = some (.int .i64 0) := (blk_cell BK374.out 4).trans rfl
                    have hcz64_5 : wr.cell? ⟨gb374, 5, none⟩ = some (.int .i64 0) := (blk_cell BK374.out 5).trans rfl
                    have hcz64_6 : wr.cell? ⟨gb374, 6, none⟩ = some (.int .i64 0) := (blk_cell BK374.out 6).trans rfl
                    have hcz64_7 : wr.cell? ⟨gb374, 7, none⟩ = some (.int .i64 0) := (blk_cell BK374.out 7).trans rfl
                    have hcz64_8 : wr.cell? ⟨gb374, 8, none⟩ = some (.int .i64 0) := (blk_cell BK374.out 8).trans rfl
                    have hcz64_9 : wr.cell? ⟨gb374, 9, none⟩ = some (.int .i64 0) := (blk_cell BK374.out 9).trans rfl
                    have hcz64_10 : wr.cell? ⟨gb374, 10, none⟩ = some (.int .i64 0) := (blk_cell BK374.out 10).trans rfl
                    have hcz64_11 : wr.cell? ⟨gb374, 11, none⟩ = some (u375011) := (blk_cell BK374.out 11).trans rfl
                    have hcz64_12 : wr.cell? ⟨gb374, 12, none⟩ = some (.slice none 0 0) := (blk_cell BK374.out 12).trans rfl
                    have hfz64_0 := blk_frozen BK374.out 0
                    have hfz64_1 := blk_frozen BK374.out 1
                    have hfz64_2 := blk_frozen BK374.out 2
                    have hfz64_3 := blk_frozen BK374.out 3
                    have hfz64_4 := blk_frozen BK374.out 4
                    have hfz64_5 := blk_frozen BK374.out 5
                    have hfz64_6 := blk_frozen BK374.out 6
                    have hfz64_7 := blk_frozen BK374.out 7
                    have hfz64_8 := blk_frozen BK374.out 8
                    have hfz64_9 := blk_frozen BK374.out 9
                    have hfz64_10 := blk_frozen BK374.out 10
                    have hfz64_11 := blk_frozen BK374.out 11
                    have hfz64_12 := blk_frozen BK374.out 12
                    obtain ⟨Ao65, co65, eo65⟩ := Kd.R_slice HO_375011.out
                    subst eo65
                    go_wp2_with (first | ((with_reducible refine gate_callee (f := 9) rfl ?_); refine goesL_ (some 33) rfl rfl Try.func9 (by kernel_rfl) rfl #[.agg #[.int .i64 8, .int .i64 0, .int .i64 0, .int .i64 0, .int .i64 0, .int .i64 0, .int .i64 0, .int .i64 0, .int .i64 0, .int .i64 0, .int .i64 0, .slice Ao65 x375011_1.length co65, .slice none 0 0]] rfl (by (try simp only [List.map_toArray, List.map_cons, List.map_nil]); first | done | rfl | (simp only [List.length_drop, List.length_take]; rfl)) ?_; (refine (wire_Bytes.calls 8 0 0 0 0 0 0 0 0 0 0 _ _ x375011_1 _ _ ([] : List (S63)) t381 t382 _ ?side1 ?side2 ?side3 ?side4 A16.out).mono ?_); (case side1 => repeat (first | exact (Kd.R_reads' HO_375011.out).2.2 | (with_reducible refine Kd.C_alloc ?_ _) | (with_reducible refine Kd.C_drewN ?_ _) | (with_reducible refine Kd.C_drew ?_))); (case side2 => exact (Kd.R_reads' HO_375011.out).2.1); (case side3 => exact Kd.C_nil _ _); (case side4 => exact Nat.le_refl _); rintro e w66 ⟨rfl, hb⟩; refine ⟨_, rfl, ?_⟩; have n0_ := Aside0.mk (Kd.R_below (by (with_reducible repeat (first | apply Kd.R_alloc | apply Kd.R_drewN | apply Kd.R_drew)); exact HO_375011.out) hb); have n1_ := Aside0.mk (blk_below (g := gb374) (o := .cells #[.int .i64 8, .int .i64 0, .int .i64 0, .int .i64 0, .int .i64 0, .int .i64 0, .int .i64 0, .int .i64 0, .int .i64 0, .int .i64 0, .int .i64 0, .slice Ao65 x375011_1.length co65, .slice none 0 0] 28 (0, 0)) (by (with_reducible repeat (first | refine blk_drewN ?_ _ | refine blk_drew ?_ | refine blk_alloc ?_ _)); exact BK374.out) hb); have n2_ := Aside0.mk (below_step (by repeat (first | (with_reducible first | exact HB.out | apply below_alloc | apply pw_below_drewN | apply below_drew1 | refine below_set ?_ GE374.out) | exact HB.out)) hb); clear HO_375011; clear BK374; clear HB; have HO_375011 := n0_; have BK374 := n1_; have HB := n2_; clear n0_ n1_ n2_; (try clear hb); (try clear hb2); (try clear hk); (try clear hi)))
                    go_ret
                    exact ⟨by first | rfl | (simp [errW_none, errW_some] <;> rfl) | (simp [*, errW_none, errW_some] <;> rfl), by repeat (first | (with_reducible first | exact HB.out | apply below_alloc | apply pw_below_drewN | apply below_drew1 | refine below_set ?_ GE374.out) | exact HB.out)⟩
              · rw [if_neg c51] at H
                have c51b0 : (t382 == 0) = false := beq_eq_false_iff_ne.mpr c51
                have c51b1 : (t382 != 0) = true := bne_iff_ne.mpr c51
                by_cases c67 : (wrap64 ((wrap64 ((Go.bits .and .i64 a0 15) * (wrap64 ((Go.bits .and .i64 a1 262143) + 3)))) + 40)) > 1048576
                · rw [if_pos c67] at H
                  have c67b0 : decide (1048576 < (wrap64 ((wrap64 ((Go.bits .and .i64 a0 15) * (wrap64 ((Go.bits .and .i64 a1 262143) + 3)))) + 40))) = true := decide_eq_true c67
                  clear c67
                  replace H := Option.bind_eq_some_iff.mp H
                  obtain ⟨t388, A680, H⟩ := H
                  replace H : (some t388) = some r := H
                  have A68 := Aside0.mk A680
                  clear A680
                  obtain rfl := Option.some.inj H
                  have hcz69_0 : wr.cell? ⟨gb374, 0, none⟩ = some (.int .i64 8) := (blk_cell BK374.out 0).trans rfl
                  have hcz69_1 : wr.cell? ⟨gb374, 1, none⟩ = some (.int .i64 0) := (blk_cell BK374.out 1).trans rfl
                  have hcz69_2 : wr.cell? ⟨gb374, 2, none⟩ = some (.int .i64 0) := (blk_cell BK374.out 2).trans rfl
                  have hcz69_3 : wr.cell? ⟨gb374, 3, none⟩ = some (.int .i64 0) := (blk_cell BK374.out 3).trans rfl
                  have hcz69_4 : wr.cell? ⟨gb374, 4, none⟩ = some (.int .i64 0) := (blk_cell BK374.out 4).trans rfl
                  have hcz69_5 : wr.cell? ⟨gb374, 5, none⟩ = some (.int .i64 0) := (blk_cell BK374.out 5).trans rfl
                  have hcz69_6 : wr.cell? ⟨gb374, 6, none⟩ = some (.int .i64 0) := (blk_cell BK374.out 6).trans rfl
                  have hcz69_7 : wr.cell? ⟨gb374, 7, none⟩ = some (.int .i64 0) := (blk_cell BK374.out 7).trans rfl
                  have hcz69_8 : wr.cell? ⟨gb374, 8, none⟩ = some (.int .i64 0) := (blk_cell BK374.out 8).trans rfl
                  have hcz69_9 : wr.cell? ⟨gb374, 9, none⟩ = some (.int .i64 0) := (blk_cell BK374.out 9).trans rfl
                  have hcz69_10 : wr.cell? ⟨gb374, 10, none⟩ = some (.int .i64 0) := (blk_cell BK374.out 10).trans rfl
                  have hcz69_11 : wr.cell? ⟨gb374, 11, none⟩ = some (u375011) := (blk_cell BK374.out 11).trans rfl
                  have hcz69_12 : wr.cell? ⟨gb374, 12, none⟩ = some (.slice none 0 0) := (blk_cell BK374.out 12).trans rfl
                  have hfz69_0 := blk_frozen BK374.out 0
                  have hfz69_1 := blk_frozen BK374.out 1
                  have hfz69_2 := blk_frozen BK374.out 2
                  have hfz69_3 := blk_frozen BK374.out 3
                  have hfz69_4 := blk_frozen BK374.out 4
                  have hfz69_5 := blk_frozen BK374.out 5
                  have hfz69_6 := blk_frozen BK374.out 6
                  have hfz69_7 := blk_frozen BK374.out 7
                  have hfz69_8 := blk_frozen BK374.out 8
                  have hfz69_9 := blk_frozen BK374.out 9
                  have hfz69_10 := blk_frozen BK374.out 10
                  have hfz69_11 := blk_frozen BK374.out 11
                  have hfz69_12 := blk_frozen BK374.out 12
                  obtain ⟨Ao70, co70, eo70⟩ := Kd.R_slice HO_375011.out
                  subst eo70
                  go_wp2_with (first | ((with_reducible refine gate_callee (f := 9) rfl ?_); refine goesL_ (some 33) rfl rfl Try.func9 (by kernel_rfl) rfl #[.agg #[.int .i64 8, .int .i64 0, .int .i64 0, .int .i64 0, .int .i64 0, .int .i64 0, .int .i64 0, .int .i64 0, .int .i64 0, .int .i64 0, .int .i64 0, .slice Ao70 x375011_1.length co70, .slice none 0 0]] rfl (by (try simp only [List.map_toArray, List.map_cons, List.map_nil]); first | done | rfl | (simp only [List.length_drop, List.length_take]; rfl)) ?_; (refine (wire_Bytes.calls 8 0 0 0 0 0 0 0 0 0 0 _ _ x375011_1 _ _ ([] : List (S63)) t381 t382 _ ?side1 ?side2 ?side3 ?side4 A16.out).mono ?_); (case side1 => repeat (first | exact (Kd.R_reads' HO_375011.out).2.2 | (with_reducible refine Kd.C_alloc ?_ _) | (with_reducible refine Kd.C_drewN ?_ _) | (with_reducible refine Kd.C_drew ?_))); (case side2 => exact (Kd.R_reads' HO_375011.out).2.1); (case side3 => exact Kd.C_nil _ _); (case side4 => exact Nat.le_refl _); rintro e w71 ⟨rfl, hb⟩; refine ⟨_, rfl, ?_⟩; have n0_ := Aside0.mk (Kd.R_below (by (with_reducible repeat (first | apply Kd.R_alloc | apply Kd.R_drewN | apply Kd.R_drew)); exact HO_375011.out) hb); have n1_ := Aside0.mk (blk_below (g := gb374) (o := .cells #[.int .i64 8, .int .i64 0, .int .i64 0, .int .i64 0, .int .i64 0, .int .i64 0, .int .i64 0, .int .i64 0, .int .i64 0, .int .i64 0, .int .i64 0, .slice Ao70 x375011_1.length co70, .slice none 0 0] 28 (0, 0)) (by (with_reducible repeat (first | refine blk_drewN ?_ _ | refine blk_drew ?_ | refine blk_alloc ?_ _)); exact BK374.out) hb); have n2_ := Aside0.mk (below_step (by repeat (first | (with_reducible first | exact HB.out | apply below_alloc | apply pw_below_drewN | apply below_drew1 | refine below_set ?_ GE374.out) | exact HB.out)) hb); clear HO_375011; clear BK374; clear HB; have HO_375011 := n0_; have BK374 := n1_; have HB := n2_; clear n0_ n1_ n2_; (try clear hb); (try clear hb2); (try clear hk); (try clear hi)) | (go_at_call 13; (with_reducible refine (postroadlaw14_awake.calls  t388 _ A68.out).mono ?_); rintro e w72 ⟨rfl, hb⟩; have n0_ := Aside0.mk (Kd.R_below (by (with_reducible repeat (first | apply Kd.R_alloc | apply Kd.R_drewN | apply Kd.R_drew)); exact HO_375011.out) hb); have n1_ := Aside0.mk (blk_below (g := gb374) (o := .cells #[.int .i64 8, .int .i64 0, .int .i64 0, .int .i64 0, .int .i64 0, .int .i64 0, .int .i64 0, .int .i64 0, .int .i64 0, .int .i64 0, .int .i64 0, .slice Ao70 x375011_1.length co70, .slice none 0 0] 28 (0, 0)) (by (with_reducible repeat (first | refine blk_drewN ?_ _ | refine blk_drew ?_ | refine blk_alloc ?_ _)); exact BK374.out) hb); have n2_ := Aside0.mk (below_step (by repeat (first | (with_reducible first | exact HB.out | apply below_alloc | apply pw_below_drewN | apply below_drew1 | refine below_set ?_ GE374.out) | exact HB.out)) hb); clear HO_375011; clear BK374; clear HB; have HO_375011 := n0_; have BK374 := n1_; have HB := n2_; clear n0_ n1_ n2_; (try clear hb); (try clear hb2); (try clear hk); (try clear hi)))
                  go_ret
                  exact ⟨by first | rfl | (simp [errW_none, errW_some] <;> rfl) | (simp [*, errW_none, errW_some] <;> rfl), by repeat (first | (with_reducible first | exact HB.out | apply below_alloc | apply pw_below_drewN | apply below_drew1 | refine below_set ?_ GE374.out) | exact HB.out)⟩
                · rw [if_neg c67] at H
                  have c67b0 : decide (1048576 < (wrap64 ((wrap64 ((Go.bits .and .i64 a0 15) * (wrap64 ((Go.bits .and .i64 a1 262143) + 3)))) + 40))) = false := decide_eq_false c67
                  clear c67
                  obtain rfl := Option.some.inj H
                  have hcz73_0 : wr.cell? ⟨gb374, 0, none⟩ = some (.int .i64 8) := (blk_cell BK374.out 0).trans rfl
                  have hcz73_1 : wr.cell? ⟨gb374, 1, none⟩ = some (.int .i64 0) := (blk_cell BK374.out 1).trans rfl
                  have hcz73_2 : wr.cell? ⟨gb374, 2, none⟩ = some (.int .i64 0) := (blk_cell BK374.out 2).trans rfl
                  have hcz73_3 : wr.cell? ⟨gb374, 3, none⟩ = some (.int .i64 0) := (blk_cell BK374.out 3).trans rfl
                  have hcz73_4 : wr.cell? ⟨gb374, 4, none⟩ = some (.int .i64 0) := (blk_cell BK374.out 4).trans rfl
                  have hcz73_5 : wr.cell? ⟨gb374, 5, none⟩ = some (.int .i64 0) := (blk_cell BK374.out 5).trans rfl
                  have hcz73_6 : wr.cell? ⟨gb374, 6, none⟩ = some (.int .i64 0) := (blk_cell BK374.out 6).trans rfl
                  have hcz73_7 : wr.cell? ⟨gb374, 7, none⟩ = some (.int .i64 0) := (blk_cell BK374.out 7).trans rfl
                  have hcz73_8 : wr.cell? ⟨gb374, 8, none⟩ = some (.int .i64 0) := (blk_cell BK374.out 8).trans rfl
                  have hcz73_9 : wr.cell? ⟨gb374, 9, none⟩ = some (.int .i64 0) := (blk_cell BK374.out 9).trans rfl
                  have hcz73_10 : wr.cell? ⟨gb374, 10, none⟩ = some (.int .i64 0) := (blk_cell BK374.out 10).trans rfl
                  have hcz73_11 : wr.cell? ⟨gb374, 11, none⟩ = some (u375011) := (blk_cell BK374.out 11).trans rfl
                  have hcz73_12 : wr.cell? ⟨gb374, 12, none⟩ = some (.slice none 0 0) := (blk_cell BK374.out 12).trans rfl
                  have hfz73_0 := blk_frozen BK374.out 0
                  have hfz73_1 := blk_frozen BK374.out 1
                  have hfz73_2 := blk_frozen BK374.out 2
                  have hfz73_3 := blk_frozen BK374.out 3
                  have hfz73_4 := blk_frozen BK374.out 4
                  have hfz73_5 := blk_frozen BK374.out 5
                  have hfz73_6 := blk_frozen BK374.out 6
                  have hfz73_7 := blk_frozen BK374.out 7
                  have hfz73_8 := blk_frozen BK374.out 8
                  have hfz73_9 := blk_frozen BK374.out 9
                  have hfz73_10 := blk_frozen BK374.out 10
                  have hfz73_11 := blk_frozen BK374.out 11
                  have hfz73_12 := blk_frozen BK374.out 12
                  obtain ⟨Ao74, co74, eo74⟩ := Kd.R_slice HO_375011.out
                  subst eo74
                  go_wp2_with (first | ((with_reducible refine gate_callee (f := 9) rfl ?_); refine goesL_ (some 33) rfl rfl Try.func9 (by kernel_rfl) rfl #[.agg #[.int .i64 8, .int .i64 0, .int .i64 0, .int .i64 0, .int .i64 0, .int .i64 0, .int .i64 0, .int .i64 0, .int .i64 0, .int .i64 0, .int .i64 0, .slice Ao74 x375011_1.length co74, .slice none 0 0]] rfl (by (try simp only [List.map_toArray, List.map_cons, List.map_nil]); first | done | rfl | (simp only [List.length_drop, List.length_take]; rfl)) ?_; (refine (wire_Bytes.calls 8 0 0 0 0 0 0 0 0 0 0 _ _ x375011_1 _ _ ([] : List (S63)) t381 t382 _ ?side1 ?side2 ?side3 ?side4 A16.out).mono ?_); (case side1 => repeat (first | exact (Kd.R_reads' HO_375011.out).2.2 | (with_reducible refine Kd.C_alloc ?_ _) | (with_reducible refine Kd.C_drewN ?_ _) | (with_reducible refine Kd.C_drew ?_))); (case side2 => exact (Kd.R_reads' HO_375011.out).2.1); (case side3 => exact Kd.C_nil _ _); (case side4 => exact Nat.le_refl _); rintro e w75 ⟨rfl, hb⟩; refine ⟨_, rfl, ?_⟩; have n0_ := Aside0.mk (Kd.R_below (by (with_reducible repeat (first | apply Kd.R_alloc | apply Kd.R_drewN | apply Kd.R_drew)); exact HO_375011.out) hb); have n1_ := Aside0.mk (blk_below (g := gb374) (o := .cells #[.int .i64 8, .int .i64 0, .int .i64 0, .int .i64 0, .int .i64 0, .int .i64 0, .int .i64 0, .int .i64 0, .int .i64 0, .int .i64 0, .int .i64 0, .slice Ao74 x375011_1.length co74, .slice none 0 0] 28 (0, 0)) (by (with_reducible repeat (first | refine blk_drewN ?_ _ | refine blk_drew ?_ | refine blk_alloc ?_ _)); exact BK374.out) hb); have n2_ := Aside0.mk (below_step (by repeat (first | (with_reducible first | exact HB.out | apply below_alloc | apply pw_below_drewN | apply below_drew1 | refine below_set ?_ GE374.out) | exact HB.out)) hb); clear HO_375011; clear BK374; clear HB; have HO_375011 := n0_; have BK374 := n1_; have HB := n2_; clear n0_ n1_ n2_; (try clear hb); (try clear hb2); (try clear hk); (try clear hi)))
                  go_ret
                  exact ⟨by first | rfl | (simp [errW_none, errW_some] <;> rfl) | (simp [*, errW_none, errW_some] <;> rfl), by repeat (first | (with_reducible first | exact HB.out | apply below_alloc | apply pw_below_drewN | apply below_drew1 | refine below_set ?_ GE374.out) | exact HB.out)⟩
    · rw [if_neg c4] at H
      exact absurd H (by simp)
  · rw [if_neg c3] at H
    exact absurd H (by simp)

/-- THE ONE PURE STATEMENT of postroadlaw14_WireLong: yours. -/
def postroadlaw14_WireLong.Pure : Prop := ∀ (a0 : Int) (a1 : Int), (Lit.int .i64 a0).wf = true → (Lit.int .i64 a1).wf = true → ∃ k, postroadlaw14_WireLong.f k a0 a1 = some true
theorem postroadlaw14_WireLong.walk (P : postroadlaw14_WireLong.Pure) (a0 : Int) (a1 : Int) (w : World) (w0 : (Lit.int .i64 a0).wf = true) (w1 : (Lit.int .i64 a1).wf = true) :
    Calls Try.prog 6 #[.int .i64 a0, .int .i64 a1] w fun e w' => e = .returned (.bool true) ∧ Below w.heap.size w w' := by
  obtain ⟨k, h⟩ := P a0 a1 w0 w1
  refine (postroadlaw14_WireLong.calls k a0 a1 true w h).mono ?_
  rintro e w' ⟨rfl, hd⟩
  exact ⟨rfl, hd⟩

end Go.Proofs.Ytojnhklgfdfkcaa.Fn
