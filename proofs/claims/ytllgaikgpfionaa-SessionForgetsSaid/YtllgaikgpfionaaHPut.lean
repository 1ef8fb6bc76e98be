/- session.Put: walked. -/
import Derived.Test.YtllgaikgpfionaaHSes
import Derived.Test.YtllgaikgpfionaaHBCk
namespace Go.Proofs.Ytllgaikgpfionaa.SM
open Go.RowKit Go.Proofs.YtllgaikgpfionaaW.PrintWords Go.Proofs.YtllgaikgpfionaaW.PrintLast Go.Proofs.YtllgaikgpfionaaW.PrintMore Go.Proofs.Ytllgaikgpfionaa.HW Go.Proofs.Ytllgaikgpfionaa.MB
attribute [local go_sem] max2_int min2_int max_two min_two max_three min_three max_four min_four   -- for this text's walks alone
/-- What Put does. -/
def putR (T : Tb) (b : Bat) : Tb × Int := if (look T.l (b.prod, b.seq)).isSome = true ∨ b.base < T.e then (T, 110) else ({ T with l := T.l ++ [((b.prod, b.seq), b)], e := b.base + b.count }, 0)
set_option maxHeartbeats 4000000 in
theorem put_ok {W : World} {B t m : Nat} {v : Value} {T T' : Tb} (h : IsT W B t m v T) (hq : 0 < T.q) (b : Bat) (hb : headOk b) (r : Int) (hr : putR T b = (T', r)) :
    Calls Try.prog 10 #[.pointer (some ⟨t, 0, none⟩), b.val] W fun e w' => e = .returned (.int .i64 r) ∧ IsT w' B t m v T' ∧ Fr (TS t m v) W w' := by
  have hu := Try.underlying57
  have hu3 := Try.underlying30
  have hu4 := Try.underlying33
  have hC := bcheck_ok hb
  obtain ⟨y0, y1, y2, y3, y4⟩ := b
  unfold Bat.val at hC ⊢
  simp only at hC
  have HC := Aside0.mk hC
  have H := Aside0.mk h
  have HQ := Aside0.mk hq
  have HRR := Aside0.mk hr
  have HHB := Aside0.mk hb
  clear h hq hr hC hb
  go_enter Try.func10, Try.ntmps10
  go_upto_region 1 with (fail)
  have e1 : (W.alloc (.cells #[.int .i64 y0, .int .i64 y1, .int .i64 y2, .int .i64 y3, .int .i64 y4, .slice none 0 0] 33)).heap.size = W.heap.size + 1 := Array.size_push _
  have k0 := heap_alloc_new W (.cells #[.int .i64 y0, .int .i64 y1, .int .i64 y2, .int .i64 y3, .int .i64 y4, .slice none 0 0] 33)
  have hB := below_alloc (Below.refl W.heap.size W) (.cells #[.int .i64 y0, .int .i64 y1, .int .i64 y2, .int .i64 y3, .int .i64 y4, .slice none 0 0] 33)
  have K0 := Aside0.mk k0
  have HB := Aside0.mk hB
  have H2 := Aside0.mk (H.out.below hB)
  have HG1 := Aside0.mk e1
  clear k0 hB e1
  generalize W.alloc (.cells #[.int .i64 y0, .int .i64 y1, .int .i64 y2, .int .i64 y3, .int .i64 y4, .slice none 0 0] 33) = w1 at K0 HB H2 HG1 ⊢
  obtain ⟨g, hg⟩ : ∃ g, W.heap.size = g := ⟨_, rfl⟩
  rw [hg] at K0 HG1
  rw [hg]
  have HG := Aside0.mk hg
  clear hg
  go_wp2_with fail
  refine (given_ok H2.out HQ.out).mono ?_
  rintro e w2 ⟨rfl, rfl⟩
  have c0 : w1.cell? ⟨g, 0, none⟩ = some (.int .i64 y0) := (blk_cell K0.out 0).trans rfl
  have c1 : w1.cell? ⟨g, 1, none⟩ = some (.int .i64 y1) := (blk_cell K0.out 1).trans rfl
  have c2 : w1.cell? ⟨g, 2, none⟩ = some (.int .i64 y2) := (blk_cell K0.out 2).trans rfl
  have c3 : w1.cell? ⟨g, 3, none⟩ = some (.int .i64 y3) := (blk_cell K0.out 3).trans rfl
  have c4 : w1.cell? ⟨g, 4, none⟩ = some (.int .i64 y4) := (blk_cell K0.out 4).trans rfl
  have c5 : w1.cell? ⟨g, 5, none⟩ = some (.slice none 0 0) := (blk_cell K0.out 5).trans rfl
  go_wp2_with fail
  refine (HC.out _).mono ?_
  rintro e w2 ⟨rfl, hb⟩
  clear c0 c1 c2 c3 c4 c5
  replace K0 := Aside0.mk ((hb.block _ (blk_lt K0.out)).trans K0.out)
  replace HB := Aside0.mk (HB.out.trans (hb.mono HB.out.size))
  replace H2 := Aside0.mk (H2.out.below hb)
  clear hb HG1
  have c3 : w2.cell? ⟨g, 3, none⟩ = some (.int .i64 y3) := (blk_cell K0.out 3).trans rfl
  have c4 : w2.cell? ⟨g, 4, none⟩ = some (.int .i64 y4) := (blk_cell K0.out 4).trans rfl
  go_upto_region 4 with (fail)
  have k1 := heap_alloc_new w2 (.cells #[.int .i64 y3, .int .i64 y4] 30)
  have hb := below_alloc (Below.refl w2.heap.size w2) (.cells #[.int .i64 y3, .int .i64 y4] 30)
  have hgq : g < w2.heap.size := blk_lt K0.out
  replace K0 := Aside0.mk ((hb.block _ (blk_lt K0.out)).trans K0.out)
  have H3 := Aside0.mk (H2.out.below hb)
  replace HB := Aside0.mk (HB.out.trans (hb.mono HB.out.size))
  clear hb c3 c4 H2
  obtain ⟨q, hq⟩ : ∃ q, w2.heap.size = q := ⟨_, rfl⟩
  rw [hq] at k1 hgq
  rw [hq]
  have KI := Aside0.mk k1
  have HGQ := Aside0.mk hgq
  clear k1 hq hgq
  generalize w2.alloc (.cells #[.int .i64 y3, .int .i64 y4] 30) = w3 at K0 H3 HB KI ⊢
  have c1 : w3.cell? ⟨t, 1, none⟩ = some (.map (some m)) := (blk_cell H3.out.bt 1).trans rfl
  have i0 : w3.cell? ⟨q, 0, none⟩ = some (.int .i64 y3) := (blk_cell KI.out 0).trans rfl
  have i1 : w3.cell? ⟨q, 1, none⟩ = some (.int .i64 y4) := (blk_cell KI.out 1).trans rfl
  have hM := H3.out.bm
  have l0 := run_lookup_pr (hM.move (W' := w3.drew) rfl) y3 y4
  have hbz := fun o => below_alloc (Below.refl w3.heap.size w3) o
  have hM2 := fun o => hM.move (W' := (w3.alloc o).drew) ((hbz o).block _ hM.lt)
  obtain ⟨⟨z0, z1, z2, z3, z4⟩, hz⟩ : ∃ z : Bat, (look T.l (y3, y4)).getD Bat.zero = z := ⟨_, rfl⟩
  obtain ⟨th, hth⟩ : ∃ th : Bool, (look T.l (y3, y4)).isSome = th := ⟨_, rfl⟩
  have l1 := run_lookup_pr (hM2 (.cells #[.int .i64 0, .int .i64 0, .int .i64 0, .int .i64 0, .int .i64 0, .slice none 0 0] 33)) y3 y4
  rw [hz, hth] at l0 l1
  unfold Bat.val at l0 l1
  simp only at l0 l1
  have hbz := hbz (.cells #[.int .i64 0, .int .i64 0, .int .i64 0, .int .i64 0, .int .i64 0, .slice none 0 0] 33)
  have c1a : (w3.alloc (.cells #[.int .i64 0, .int .i64 0, .int .i64 0, .int .i64 0, .int .i64 0, .slice none 0 0] 33)).cell? ⟨t, 1, none⟩ = some (.map (some m)) := (blk_cell ((hbz.block _ (blk_lt H3.out.bt)).trans H3.out.bt) 1).trans rfl
  have i0a : (w3.alloc (.cells #[.int .i64 0, .int .i64 0, .int .i64 0, .int .i64 0, .int .i64 0, .slice none 0 0] 33)).cell? ⟨q, 0, none⟩ = some (.int .i64 y3) := (blk_cell ((hbz.block _ (blk_lt KI.out)).trans KI.out) 0).trans rfl
  have i1a : (w3.alloc (.cells #[.int .i64 0, .int .i64 0, .int .i64 0, .int .i64 0, .int .i64 0, .slice none 0 0] 33)).cell? ⟨q, 1, none⟩ = some (.int .i64 y4) := (blk_cell ((hbz.block _ (blk_lt KI.out)).trans KI.out) 1).trans rfl
  have HTH := Aside0.mk hth
  clear hM hM2 hz hth hbz
  go_region
  all_goals
    have hb := below_alloc (Below.refl w3.heap.size w3) (.cells #[.int .i64 z0, .int .i64 z1, .int .i64 z2, .int .i64 z3, .int .i64 z4, .slice none 0 0] 33)
    have K0' := Aside0.mk (show ((w3.alloc (.cells #[.int .i64 z0, .int .i64 z1, .int .i64 z2, .int .i64 z3, .int .i64 z4, .slice none 0 0] 33)).drew).heap[g]? = _ from (hb.block _ (blk_lt K0.out)).trans K0.out)
    have KI' := Aside0.mk (show ((w3.alloc (.cells #[.int .i64 z0, .int .i64 z1, .int .i64 z2, .int .i64 z3, .int .i64 z4, .slice none 0 0] 33)).drew).heap[q]? = _ from (hb.block _ (blk_lt KI.out)).trans KI.out)
    have H4 := Aside0.mk (H3.out.below (below_drew hb))
    have HB' := Aside0.mk (HB.out.trans (below_drew (hb.mono HB.out.size)))
    clear hb l0 l1 c1 i0 i1 c1a i0a i1a
    obtain ⟨q3, hq3⟩ : ∃ q3, w3.heap.size = q3 := ⟨_, rfl⟩
    rw [hq3]
    generalize (w3.alloc (.cells #[.int .i64 z0, .int .i64 z1, .int .i64 z2, .int .i64 z3, .int .i64 z4, .slice none 0 0] 33)).drew = w4 at K0' KI' H4 HB' ⊢
    clear K0 KI H3 HB hq3 hbz w3
    have c0 : w4.cell? ⟨g, 0, none⟩ = some (.int .i64 y0) := (blk_cell K0'.out 0).trans rfl
    have te : w4.cell? ⟨t, 2, none⟩ = some (.int .i64 T.e) := (blk_cell H4.out.bt 2).trans rfl
    have hrr := HRR.out
    unfold putR at hrr
    simp only at hrr
    have hth := HTH.out
    cases th with
    | true =>
      rw [hth, if_pos (Or.inl rfl)] at hrr
      obtain ⟨rfl, rfl⟩ := Prod.mk.inj hrr
      clear hrr hth
      go_upto_region 5 with (fail)
      go_region
      all_goals
        go_wp2_with fail
        go_ret
        exact ⟨rfl, H4.out.drew, (Fr.of_below_all HB'.out _).drew⟩
    | false =>
      by_cases hlt : y0 < T.e
      · have b1 : decide (y0 < T.e) = true := by simpa using hlt
        rw [if_pos (Or.inr hlt)] at hrr
        obtain ⟨rfl, rfl⟩ := Prod.mk.inj hrr
        clear hrr hth hlt
        go_upto_region 5 with (fail)
        go_region
        all_goals
          go_wp2_with fail
          go_ret
          exact ⟨rfl, H4.out.drew, (Fr.of_below_all HB'.out _).drew⟩
      · have b1 : decide (y0 < T.e) = false := by simpa using hlt
        rw [hth, if_neg (by simp [hlt])] at hrr
        obtain ⟨rfl, rfl⟩ := Prod.mk.inj hrr
        clear hrr
        have hlk : look T.l (y3, y4) = none := by cases hx : look T.l (y3, y4) with | none => rfl | some x => rw [hx] at hth; cases hth
        have hgt : g ≠ t := fun e => by subst e; have h1 := K0'.out; rw [H4.out.bt] at h1; injection h1 with h1; injection h1 with _ h2; cases h2
        clear hth hlt
        go_upto_region 5 with (fail)
        go_region
        all_goals
          have K0'' := Aside0.mk (show w4.drew.heap[g]? = _ from K0'.out)
          have KI'' := Aside0.mk (show w4.drew.heap[q]? = _ from KI'.out)
          have H5 := Aside0.mk H4.out.drew
          have HB'' := Aside0.mk (below_drew HB'.out)
          generalize w4.drew = w5 at K0'' KI'' H5 HB'' ⊢
          clear c0 te K0' KI' H4 HB' w4
          have c5 : w5.cell? ⟨g, 5, none⟩ = some (.slice none 0 0) := (blk_cell K0''.out 5).trans rfl
          have f5 : w5.frozen? ⟨g, 5, none⟩ = false := blk_frozen K0''.out 5
          go_upto_region 8 with (fail)
          have K6 := Aside0.mk (show (w5.setCell ⟨g, 5, none⟩ (.slice none 0 0)).heap[g]? = some (.cells #[.int .i64 y0, .int .i64 y1, .int .i64 y2, .int .i64 y3, .int .i64 y4, .slice none 0 0] 33 (0, 0)) from blk_set K0''.out 5 _)
          have hF := (Fr.refl (fun k => k = g) w5).setCell (p := ⟨g, 5, none⟩) (Or.inl rfl) (.slice none 0 0)
          have hgl : W.heap.size ≤ g := by rw [HG.out]; exact Nat.le_refl _
          have hgv : ∀ k, TS t m v k → ¬ k = g := by
            intro k hk e
            subst e
            rcases hk with rfl | rfl | hk
            · exact hgt rfl
            · have := H.out.bm.lt; omega
            · exact Kd.R_ne H5.out.ro K0''.out (by decide) hk.symm
          have H6 := Aside0.mk (H5.out.keep hF hgv)
          have KI6 := Aside0.mk (hF.blk KI''.out (fun e => by have := HGQ.out; omega))
          have HF6 := Aside0.mk (((Fr.of_below_all HB''.out (TS t m v))).then_ hF (fun k hk => Or.inr (by rw [hk]; exact hgl)))
          clear hF c5 f5 K0'' KI'' H5 HB''
          generalize w5.setCell ⟨g, 5, none⟩ (.slice none 0 0) = w6 at K6 H6 KI6 HF6 ⊢
          obtain ⟨w7, hr7, hM7, hg7⟩ := run_put (H6.out.bm.move (W' := w6.drew) rfl) y3 y4 ⟨y0, y1, y2, y3, y4⟩ hlk
          unfold Bat.val at hr7
          simp only at hr7
          have c1 : w6.cell? ⟨t, 1, none⟩ = some (.map (some m)) := (blk_cell H6.out.bt 1).trans rfl
          have i0 : w6.cell? ⟨q, 0, none⟩ = some (.int .i64 y3) := (blk_cell KI6.out 0).trans rfl
          have i1 : w6.cell? ⟨q, 1, none⟩ = some (.int .i64 y4) := (blk_cell KI6.out 1).trans rfl
          have d0 : w6.cell? ⟨g, 0, none⟩ = some (.int .i64 y0) := (blk_cell K6.out 0).trans rfl
          have d1 : w6.cell? ⟨g, 1, none⟩ = some (.int .i64 y1) := (blk_cell K6.out 1).trans rfl
          have d2 : w6.cell? ⟨g, 2, none⟩ = some (.int .i64 y2) := (blk_cell K6.out 2).trans rfl
          have d3 : w6.cell? ⟨g, 3, none⟩ = some (.int .i64 y3) := (blk_cell K6.out 3).trans rfl
          have d4 : w6.cell? ⟨g, 4, none⟩ = some (.int .i64 y4) := (blk_cell K6.out 4).trans rfl
          have d5 : w6.cell? ⟨g, 5, none⟩ = some (.slice none 0 0) := (blk_cell K6.out 5).trans rfl
          have HM7 := Aside0.mk hM7
          have HG7 := Aside0.mk hg7
          clear hM7 hg7
          go_region
          all_goals
            have htm : ¬ t = m := fun e => by
              have h1 := H6.out.bt
              obtain ⟨es, cl, hb, _⟩ := H6.out.bm
              rw [e, hb] at h1
              cases h1
            have ht7 := (HG7.out.block t (show t < w6.drew.heap.size from H6.out.lt) (fun e => htm (Option.some.inj e))).trans (show w6.drew.heap[t]? = _ from H6.out.bt)
            have hgm : ¬ g = m := fun e => by have := H.out.bm.lt; have := HG.out; omega
            have hg8 := (HG7.out.block g (show g < w6.drew.heap.size from blk_lt K6.out) (fun e => hgm (Option.some.inj e))).trans (show w6.drew.heap[g]? = _ from K6.out)
            have HT7 := Aside0.mk ht7
            have HTM := Aside0.mk htm
            clear c1 i0 i1 d0 d1 d2 d3 d4 d5 hr7
            have d0 : w7.cell? ⟨g, 0, none⟩ = some (.int .i64 y0) := (blk_cell hg8 0).trans rfl
            have d1 : w7.cell? ⟨g, 1, none⟩ = some (.int .i64 y1) := (blk_cell hg8 1).trans rfl
            have te : w7.cell? ⟨t, 2, none⟩ = some (.int .i64 T.e) := (blk_cell ht7 2).trans rfl
            have tf : w7.frozen? ⟨t, 2, none⟩ = false := blk_frozen ht7 2
            have hwr : IntKind.i64.wrap (y0 + y1) = y0 + y1 := IntWalk.i64_in _ (by have := HHB.out; unfold headOk at this; simp only at this; omega)
            clear hg8 ht7 htm hgm
            go_wp2_with fail
            go_ret
            have hro := H6.out.ro
            have hne := H6.out.row_ne
            have hF7 : Fr (fun k => k = t ∨ k = m) w6.drew (w7.setCell ⟨t, 2, none⟩ (.int .i64 (y0 + y1))) := ((Fr.refl (fun k => k = t ∨ k = m) w6.drew).grown HG7.out (fun k hk => Or.inl (Or.inr (Option.some.inj hk).symm))).setCell (Or.inl (Or.inl rfl)) _
            refine ⟨rfl, ⟨blk_set HT7.out 2 _, HM7.out.move (Below.heap_setCell _ _ _ _ (fun e => HTM.out e.symm)), H6.out.ht, H6.out.hm, ?_⟩, HF6.out.drew.then_ hF7 (fun k hk => Or.inl (hk.elim Or.inl (fun h => Or.inr (Or.inl h))))⟩
            exact Kd.R_mono (Kd.R_step (Kd.R_tight rfl (Kd.R_drew hro)) (fun k hk hlt => hF7.block k hlt (fun e => by
              rcases e with rfl | rfl
              · exact hne.1 hk.symm
              · exact hne.2 hk.symm))) (fun _ _ => trivial)
end Go.Proofs.Ytllgaikgpfionaa.SM
