/- awake: walked. -/
import Derived.Test.YtllgaikgpfionaaHPut
import Derived.Test.YtllgaikgpfionaaHDone
namespace Go.Proofs.Ytllgaikgpfionaa.SM
open Go.RowKit Go.Proofs.YtllgaikgpfionaaW.PrintWords Go.Proofs.YtllgaikgpfionaaW.PrintLast Go.Proofs.YtllgaikgpfionaaW.PrintMore Go.Proofs.Ytllgaikgpfionaa.HW Go.Proofs.Ytllgaikgpfionaa.MB
attribute [local go_sem] max2_int min2_int max_two min_two max_three min_three max_four min_four   -- for this text's walks alone
def aT0 : Tb := ⟨1, [], 0, []⟩
def aT1 : Tb := ⟨1, [((1, 1), ⟨0, 2, 0, 1, 1⟩)], 2, []⟩
def aT2 : Tb := ⟨1, [((1, 1), ⟨0, 2, 0, 1, 1⟩)], 2, [⟨1, 1, 100⟩]⟩
theorem aT_ok : ∀ p ∈ [(((1, 1) : Int × Int), (⟨0, 2, 0, 1, 1⟩ : Bat))], headOk p.2 := by
  intro p hp
  rw [List.mem_singleton.1 hp]
  unfold headOk
  decide
theorem aD1 : (aT2.ws.filter (dn aT2 1)).map (ackOf aT2) = [] := by rfl
theorem aR1 : aT2.ws.filter (fun x => !dn aT2 1 x) = aT2.ws := by rfl
theorem aD2 : (aT2.ws.filter (dn aT2 2)).map (ackOf aT2) = [⟨100, 1, 1, 0, 0, 2⟩] := by rfl
theorem aR2 : aT2.ws.filter (fun x => !dn aT2 2 x) = [] := by rfl
set_option maxHeartbeats 4000000 in
theorem awake_ok (W : World) : Calls Try.prog 15 #[] W fun e w' => e = .returned (.bool true) ∧ Below W.heap.size W w' := by
  have hu3 := Try.underlying30
  have hu6 := Try.underlying41
  go_enter Try.func15, Try.ntmps15
  go_wp2_with fail
  refine (new_ok 1 W (by decide) (by decide)).mono ?_
  rintro e w1 ⟨t, m, rfl, h1, hb⟩
  obtain ⟨B, hB⟩ : ∃ B, W.heap.size = B := ⟨_, rfl⟩
  have HBG := Aside0.mk hB
  rw [hB] at h1 hb
  have H1 := Aside0.mk h1
  have HB := Aside0.mk hb
  clear h1 hb hB
  go_upto_region 3 with (fail)
  have hb := below_alloc (Below.refl w1.heap.size w1) (.cells #[.int .i64 1, .int .i64 1] 30)
  have k0 := heap_alloc_new w1 (.cells #[.int .i64 1, .int .i64 1] 30)
  have H2 := Aside0.mk (H1.out.below hb)
  have HB2 := Aside0.mk (HB.out.trans (hb.mono (by have := HB.out.size; have := HBG.out; omega)))
  obtain ⟨g, hg⟩ : ∃ g, w1.heap.size = g := ⟨_, rfl⟩
  rw [hg] at k0
  rw [hg]
  have K0 := Aside0.mk k0
  clear hb k0 hg
  generalize w1.alloc (.cells #[.int .i64 1, .int .i64 1] 30) = w2 at H2 HB2 K0 ⊢
  clear H1 HB w1
  go_wp2_with fail
  refine (put_ok (T := aT0) (T' := aT1) H2.out (by decide) ⟨0, 2, 0, 1, 1⟩ (by unfold headOk; decide) 0 rfl).mono ?_
  rintro e w3 ⟨rfl, h3, hf⟩
  have HB3 := Aside0.mk (HB2.out.trans (H2.out.fr_below hf))
  have K3 := Aside0.mk (hf.blk K0.out (H2.out.other K0.out (by decide) (by decide)))
  have H3 := Aside0.mk h3
  clear h3 hf H2 HB2 K0
  have i0 : w3.cell? ⟨g, 0, none⟩ = some (.int .i64 1) := (blk_cell K3.out 0).trans rfl
  have i1 : w3.cell? ⟨g, 1, none⟩ = some (.int .i64 1) := (blk_cell K3.out 1).trans rfl
  go_wp2_with fail
  refine (wait_ok (T' := aT2) H3.out (by decide) (by decide) 1 1 100 0 rfl).mono ?_
  rintro e w4 ⟨v4, rfl, h4, hf⟩
  have HB4 := Aside0.mk (HB3.out.trans (H3.out.fr_below hf))
  have K4 := Aside0.mk (hf.blk K3.out (H3.out.other K3.out (by decide) (by decide)))
  have H4 := Aside0.mk h4
  clear h4 hf H3 HB3 K3 i0 i1
  have i0 : w4.cell? ⟨g, 0, none⟩ = some (.int .i64 1) := (blk_cell K4.out 0).trans rfl
  have i1 : w4.cell? ⟨g, 1, none⟩ = some (.int .i64 1) := (blk_cell K4.out 1).trans rfl
  go_wp2_with fail
  refine (wait_ok (T' := aT2) H4.out (by decide) (by decide) 1 1 101 150 rfl).mono ?_
  rintro e w5 ⟨v5, rfl, h5, hf⟩
  have HB5 := Aside0.mk (HB4.out.trans (H4.out.fr_below hf))
  have K5 := Aside0.mk (hf.blk K4.out (H4.out.other K4.out (by decide) (by decide)))
  have H5 := Aside0.mk h5
  clear h5 hf H4 HB4 K4 i0 i1
  go_wp2_with fail
  refine (done_ok H5.out (by decide) (by decide) aT_ok 1).mono ?_
  rintro e w6 ⟨vo6, v6, rfl, ho, h6, hf⟩
  rw [aD1] at ho
  rw [aR1] at h6
  obtain ⟨A6, c6, e6⟩ := Kd.R_slice ho
  subst e6
  have HB6 := Aside0.mk (HB5.out.trans (H5.out.fr_below hf))
  have K6 := Aside0.mk (hf.blk K5.out (H5.out.other K5.out (by decide) (by decide)))
  have H6 := Aside0.mk h6
  clear h6 ho hf H5 HB5 K5
  go_wp2_with fail
  refine (done_ok (T := aT2) H6.out (by decide) (by decide) aT_ok 2).mono ?_
  rintro e w7 ⟨vo7, v7, rfl, ho, h7, hf⟩
  rw [aD2] at ho
  rw [aR2] at h7
  obtain ⟨A7, c7, e7⟩ := Kd.R_slice ho
  subst e7
  have HB7 := Aside0.mk (HB6.out.trans (H6.out.fr_below hf))
  have K7 := Aside0.mk (hf.blk K6.out (H6.out.other K6.out (by decide) (by decide)))
  have H7 := Aside0.mk h7
  have HO := Aside0.mk ho
  clear h7 ho hf H6 HB6 K6
  obtain ⟨ad, hA, b0, b1, b2, b3, b4, b5⟩ := atAck (Kd.R_reads' HO.out).2.2 (0 : Int) (by decide) (by decide)
  subst hA
  have ea : ad.add (Int.toNat 0 * 6) = ad := by cases ad; rfl
  rw [ea] at b0 b1 b2 b3 b4 b5
  have i0 : w7.cell? ⟨g, 0, none⟩ = some (.int .i64 1) := (blk_cell K7.out 0).trans rfl
  have i1 : w7.cell? ⟨g, 1, none⟩ = some (.int .i64 1) := (blk_cell K7.out 1).trans rfl
  replace b0 : w7.cell? ad = some (.int .i64 100) := b0
  replace b1 : w7.cell? ⟨ad.block, ad.off + 1, none⟩ = some (.int .i64 1) := b1
  replace b2 : w7.cell? ⟨ad.block, ad.off + 2, none⟩ = some (.int .i64 1) := b2
  replace b3 : w7.cell? ⟨ad.block, ad.off + 3, none⟩ = some (.int .i64 0) := b3
  replace b4 : w7.cell? ⟨ad.block, ad.off + 4, none⟩ = some (.int .i64 0) := b4
  replace b5 : w7.cell? ⟨ad.block, ad.off + 5, none⟩ = some (.int .i64 2) := b5
  have HW := Aside0.mk (waiting_ok H7.out.drew (by decide))
  clear ea
  go_upto_region 6 with (fail)
  go_region_held3 (fun w' => w'.cell? ad = some (.int .i64 100) ∧ w'.cell? ⟨ad.block, ad.off + 1, none⟩ = some (.int .i64 1) ∧ w'.cell? ⟨ad.block, ad.off + 2, none⟩ = some (.int .i64 1) ∧ w'.cell? ⟨ad.block, ad.off + 3, none⟩ = some (.int .i64 0) ∧ w'.cell? ⟨ad.block, ad.off + 4, none⟩ = some (.int .i64 0) ∧ w'.cell? ⟨ad.block, ad.off + 5, none⟩ = some (.int .i64 2) ∧ w'.cell? ⟨g, 0, none⟩ = some (.int .i64 1) ∧ w'.cell? ⟨g, 1, none⟩ = some (.int .i64 1)) (go_keep) ((go_at_call 14; refine HW.out.mono ?_; rintro e w8 ⟨rfl, rfl⟩))
  have HB8 := Aside0.mk (below_drew HB7.out)
  rename_i hHeld
  clear hHeld b0 b1 b2 b3 b4 b5 i0 i1
  go_wp2_with fail
  go_ret
  exact ⟨rfl, by rw [HBG.out]; exact HB8.out⟩
end Go.Proofs.Ytllgaikgpfionaa.SM
