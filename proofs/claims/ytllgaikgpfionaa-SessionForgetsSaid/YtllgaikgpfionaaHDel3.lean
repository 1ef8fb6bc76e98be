/- slices.DeleteFunc over waiters: walked, the loop. -/
import Derived.Test.YtllgaikgpfionaaHDel2
import Derived.Test.YtllgaikgpfionaaHDone
namespace Go.Proofs.Ytllgaikgpfionaa.SM
open Go.RowKit Go.Proofs.YtllgaikgpfionaaW.PrintWords Go.Proofs.YtllgaikgpfionaaW.PrintLast Go.Proofs.YtllgaikgpfionaaW.PrintMore Go.Proofs.Ytllgaikgpfionaa.HW Go.Proofs.Ytllgaikgpfionaa.MB
attribute [local go_sem] max2_int min2_int max_two min_two max_three min_three max_four min_four   -- for this text's walks alone
theorem add_zero0 (g k : Nat) : (⟨g, 0, none⟩ : Addr).add k = ⟨g, k, none⟩ := by unfold Addr.add; split <;> simp_all
theorem rdWt_app (K t : List Wt) (j : Nat) (h : K.length ≤ j) : rdWt (K ++ t.drop K.length) (j : Int) = rdWt t (j : Int) := by
  unfold rdWt
  rw [Int.toNat_natCast, List.getD_eq_getElem?_getD, List.getD_eq_getElem?_getD, List.getElem?_append_right h, List.getElem?_drop]
  congr 2
  omega
theorem set_app (K t : List Wt) (x : Wt) (h : K.length < t.length) : (K ++ t.drop K.length).set K.length x = (K ++ [x]) ++ t.drop (K ++ [x]).length := by
  rw [List.set_append_right _ _ (Nat.le_refl _), Nat.sub_self, List.drop_eq_getElem_cons h, List.set_cons_zero, List.length_append, List.length_singleton, List.append_assoc]
  rfl
theorem seg_all (c seg : List Value) (n : Nat) (h1 : c.length = n) (h2 : seg.length = n) : c.take 0 ++ seg ++ c.drop (0 + seg.length) = seg := by
  rw [List.take_zero, List.nil_append, List.drop_eq_nil_of_le (by omega), List.append_nil]
/-- An element's cells. -/
def cellsWt (x : Wt) : List Value := [.int .i64 x.prod, .int .i64 x.seq, .int .i64 x.who]
theorem row_cells {w : World} {B g n c : Nat} {ok : Nat → Prop} {xs : List Wt} (h : Kd.R kWt 62 w B ok (.slice (some ⟨g, 0, none⟩) n c) xs) (i : Nat) (hi : i < xs.length) : (cellsWt (rdWt xs (i : Int))).length = 3 ∧ ∀ j u, (cellsWt (rdWt xs (i : Int)))[j]? = some u → w.cell? ⟨g, i * 3 + j, none⟩ = some u := by
  obtain ⟨ad, hA, h0, h1, h2⟩ := atWt (Kd.R_reads' h).2.2 (i : Int) (by omega) (by omega)
  injection hA with hA
  subst hA
  simp only [add_zero0, Int.toNat_natCast] at h0 h1 h2
  refine ⟨rfl, fun j u hj => ?_⟩
  unfold cellsWt at hj
  match j, hj with
  | 0, hj => cases hj; exact h0
  | 1, hj => cases hj; exact h1
  | 2, hj => cases hj; exact h2
  | _ + 3, hj => cases hj
/-- The state of DeleteFunc's loop. -/
structure DF (W w : World) (B g c bx t m : Nat) (q e v : Value) (l : Ents) (ws K : List Wt) : Prop where
  fr : Fr (fun k => k = g) W w
  ro : Kd.R kWt 62 w B (fun _ => True) (.slice (some ⟨g, 0, none⟩) ws.length c) (K ++ ws.drop K.length)
  cl : CL w bx t m q e v l
theorem DF.below {W w w' : World} {B g c bx t m : Nat} {q e v : Value} {l : Ents} {ws K : List Wt} (h : DF W w B g c bx t m q e v l ws K) (hb : Below w.heap.size w w') : DF W w' B g c bx t m q e v l ws K :=
  ⟨h.fr.add hb, Kd.R_below h.ro hb, h.cl.below hb⟩
set_option maxHeartbeats 4000000 in
theorem delf_ok {W : World} {B bx t m : Nat} {q e v vr : Value} {l : Ents} (hc : CL W bx t m q e v l) (ws : List Wt) (hr : Kd.R kWt 62 W B (fun _ => True) vr ws) (hn : ws.length ≤ 1000000) :
    Calls Try.prog 27 #[vr, .func (.func 28) #[] #[.pointer (some ⟨bx, 0, none⟩)]] W fun x w' => ∃ v', x = .returned v' ∧ Kd.R kWt 62 w' B (fun _ => True) v' (ws.filter (fun x => !gone l x)) ∧ Fr (fun k => vr.ownBlock = some k) W w' := by
  have hu := Try.underlying55
  have hu2 := Try.underlying62
  have HC := Aside0.mk hc
  have HR := Aside0.mk hr
  obtain ⟨A, c, rfl⟩ := Kd.R_slice hr
  have HI := Aside0.mk (gindex_ok hc (c := c) ws (Kd.R_reads' hr).2.2 hn)
  have HN := Aside0.mk hn
  clear hc hr hn
  go_enter Try.func27, Try.ntmps27
  go_wp2_with fail
  refine HI.out.mono ?_
  rintro x w1 ⟨rfl, hb⟩
  have HB := Aside0.mk hb
  clear hb
  by_cases hg : gindex l ws 0 = -1
  · rw [hg]
    have HF := Aside0.mk (gindex_none ws 0 hg)
    clear hg
    go_wp2_with fail
    go_ret
    exact ⟨_, rfl, by rw [HF.out]; exact Kd.R_below HR.out HB.out, Fr.of_below_all HB.out _⟩
  · obtain ⟨i, hi, hlt, hf⟩ := gindex_some ws 0 hg
    rw [Nat.zero_add] at hi
    rw [hi]
    obtain ⟨g, c', hA⟩ := R_first HR.out (by omega)
    injection hA with hA _ hc
    subst hA; subst hc
    have hne : ((i : Int) == -1) = false := by simp
    have hkl : (ws.take i).length = i := by rw [List.length_take]; omega
    have hS : DF W w1 B g c bx t m q e v l ws (ws.take i) := ⟨Fr.of_below_all HB.out _, by rw [hkl, List.take_append_drop]; exact Kd.R_below HR.out HB.out, HC.out.below HB.out⟩
    have hT : Aside0 (bx ≠ g ∧ t ≠ g ∧ m ≠ g) := Aside0.mk ⟨fun e1 => Kd.R_ne HR.out HC.out.bx (by decide) (by rw [e1]; rfl), fun e1 => Kd.R_ne HR.out HC.out.bt (by decide) (by rw [e1]; rfl), fun e1 => by
      obtain ⟨cells, hcl⟩ := R_typed HR.out m (by rw [e1]; rfl)
      obtain ⟨es, ck, hm, _⟩ := HC.out.bm
      rw [hm] at hcl
      cases hcl⟩
    have HS := Aside0.mk hS
    have HF := Aside0.mk hf
    have HK := Aside0.mk hkl
    have hi64 : i ≤ 1000000 := by have := HN.out; omega
    have hlt' := hlt
    clear hg hi hf hkl hS HI HC HR hlt
    go_wp2_with fail
    go_loopw [5, 6] (fun v5 v6 wr => ∃ (j : Nat) (K : List Wt), v5 = .int .i64 K.length ∧ v6 = .int .i64 j ∧ K.length < j ∧ j ≤ ws.length ∧ Aside0 (K = (ws.take j).filter (fun x => !gone l x)) ∧ Aside0 (DF W wr B g c bx t m q e v l ws K)) (fun v5 v6 _ => ws.length - (intOf v6).toNat)
    case atStart => exact ⟨i + 1, ws.take i, by rw [HK.out], by simp, by rw [HK.out]; exact Nat.lt_succ_self _, hlt', ⟨HF.out.symm⟩, HS⟩
    case round =>
      clear HS HK HF
      obtain ⟨j, K, rfl, rfl, hKj, hj, HK, HS⟩ := hrel
      by_cases hlt : j < ws.length
      · have hb1 : decide ((j : Int) < (ws.length : Int)) = true := by simp; omega
        have hll : (K ++ ws.drop K.length).length = ws.length := by rw [List.length_append, List.length_drop]; omega
        obtain ⟨ad, hA, h0, h1, h2⟩ := atWt (Kd.R_reads' HS.out.ro).2.2 (j : Int) (by omega) (by rw [hll]; omega)
        injection hA with hA
        subst hA
        rw [rdWt_app K ws j (by omega)] at h0 h1 h2
        simp only [Int.toNat_natCast] at h0 h1 h2
        obtain ⟨⟨x0, x1, x2⟩, hx⟩ : ∃ z : Wt, rdWt ws (j : Int) = z := ⟨_, rfl⟩
        rw [hx] at h0 h1 h2
        have htk : ws.take (j + 1) = ws.take j ++ [⟨x0, x1, x2⟩] := by
          rw [List.take_add_one, List.getElem?_eq_getElem hlt]
          have : rdWt ws (j : Int) = ws[j] := by unfold rdWt; rw [Int.toNat_natCast, List.getD_eq_getElem?_getD, List.getElem?_eq_getElem hlt]; rfl
          rw [← hx, this]; rfl
        simp only [add_zero0] at h0 h1 h2
        have q1 : (0 : Int) ≤ (j : Int) := by omega
        have q2 : (j : Int) < (ws.length : Int) := by omega
        have q3 : j ≤ 1000000 := by have := HN.out; omega
        have HTK := Aside0.mk htk
        have HLL := Aside0.mk hll
        have HJ := Aside0.mk hlt
        clear hx htk hll hlt
        go_upto_region 8 with (fail)
        have hb := below_alloc (Below.refl wr.heap.size wr) (.cells #[.int .i64 x0, .int .i64 x1, .int .i64 x2] 62)
        have k1 := heap_alloc_new wr (.cells #[.int .i64 x0, .int .i64 x1, .int .i64 x2] 62)
        have HS3 := Aside0.mk (HS.out.below hb)
        obtain ⟨p, hp⟩ : ∃ p, wr.heap.size = p := ⟨_, rfl⟩
        rw [hp] at k1
        rw [hp]
        have KP := Aside0.mk k1
        clear hp k1 hb h0 h1 h2
        generalize wr.alloc (.cells #[.int .i64 x0, .int .i64 x1, .int .i64 x2] 62) = w3 at HS3 KP ⊢
        clear HS wr
        have p0 : w3.cell? ⟨p, 0, none⟩ = some (.int .i64 x0) := (blk_cell KP.out 0).trans rfl
        have p1 : w3.cell? ⟨p, 1, none⟩ = some (.int .i64 x1) := (blk_cell KP.out 1).trans rfl
        have p2 : w3.cell? ⟨p, 2, none⟩ = some (.int .i64 x2) := (blk_cell KP.out 2).trans rfl
        go_wp2_with fail
        refine (cclos_ok HS3.out.cl ⟨x0, x1, x2⟩).mono ?_
        rintro x w4 ⟨rfl, hb⟩
        have HS4 := Aside0.mk (HS3.out.below hb)
        have KP4 := Aside0.mk ((hb.block _ (blk_lt KP.out)).trans KP.out)
        clear hb p0 p1 p2 HS3 KP
        have p0 : w4.cell? ⟨p, 0, none⟩ = some (.int .i64 x0) := (blk_cell KP4.out 0).trans rfl
        have p1 : w4.cell? ⟨p, 1, none⟩ = some (.int .i64 x1) := (blk_cell KP4.out 1).trans rfl
        have p2 : w4.cell? ⟨p, 2, none⟩ = some (.int .i64 x2) := (blk_cell KP4.out 2).trans rfl
        cases hgo : gone l ⟨x0, x1, x2⟩ with
        | true =>
          have HK2 := Aside0.mk (show K = (ws.take (j + 1)).filter (fun x => !gone l x) from by rw [HTK.out, List.filter_append, List.filter_cons_of_neg (by simp [hgo]), ← HK.out]; simp)
          clear hgo
          go_wp2_with fail
          go_roundw
          case rel => exact ⟨j + 1, K, rfl, by simp, Nat.lt_succ_of_lt hKj, HJ.out, HK2, HS4⟩
          case measure => simp [intOf]; have := HJ.out; omega
        | false =>
          have HK2 := Aside0.mk (show K ++ [⟨x0, x1, x2⟩] = (ws.take (j + 1)).filter (fun x => !gone l x) from by rw [HTK.out, List.filter_append, List.filter_cons_of_pos (by simp [hgo]), ← HK.out]; simp)
          have r1 : (0 : Int) ≤ (K.length : Int) := by omega
          have r2 : (K.length : Int) < (ws.length : Int) := by omega
          clear hgo
          have hll := HLL.out
          have HCC := Aside0.mk (row_cells HS4.out.ro K.length (by omega))
          have HKL := Aside0.mk (show K.length < ws.length from by omega)
          have HSZ := Aside0.mk (show K.length < (K ++ ws.drop K.length).length from by omega)
          clear hll
          go_wp2_with ((with_reducible refine gate_store (t := 62) (p := 33) (v := .tmp 32) rfl ?_); go_must (refine Kd.R_store kWt (w0 := w4) B rfl rfl 62 (.tmp 33) (.tmp 32) rfl 62 (g := g) (n := ws.length) (cap := c) (K.length : Int) 0 (K ++ ws.drop K.length) ⟨x0, x1, x2⟩ (.agg #[.int .i64 x0, .int .i64 x1, .int .i64 x2]) [.int .i64 x0, .int .i64 x1, .int .i64 x2] _ (fun _ => True) (fun _ => False) rfl (by simp; rfl) rfl (by rfl) (by kernel_rfl) (by simp [Value.oneCell']) HS4.out.ro (by omega) (by have := HKL.out; omega) HCC.out.1 (by simp only [Int.toNat_natCast]; exact HCC.out.2) (show 3 ≤ 3 from Nat.le_refl 3) (by rw [seg_all _ _ 3 HCC.out.1 rfl]; exact kWt_mkM _ _ _ _) (fun _ hk => hk.elim) (Below.refl _ _) ?_); intro w5 hr5 _ hg5; rw [Int.toNat_natCast, set_app K ws _ HKL.out] at hr5; have HF5 := Aside0.mk (Fr.grown hg5 (Fr.refl (fun k => k = g) w4) (fun k hk => Or.inl (by injection hk with hk; exact hk.symm))); have HR5 := Aside0.mk hr5; clear hr5 hg5)
          have HS5 : Aside0 (DF W w5 B g c bx t m q e v l ws (K ++ [⟨x0, x1, x2⟩])) := ⟨⟨HS4.out.fr.then_ HF5.out (fun k hk => Or.inl hk), HR5.out, HS4.out.cl.keep HF5.out hT.out.1 hT.out.2.1 hT.out.2.2⟩⟩
          clear HF5 HR5 HS4 p0 p1 p2 KP4
          go_roundw
          case rel => exact ⟨j + 1, K ++ [⟨x0, x1, x2⟩], by simp, by simp, by rw [List.length_append, List.length_singleton]; omega, HJ.out, HK2, HS5⟩
          case measure => simp [intOf]; have := HJ.out; omega
      · have hje : j = ws.length := by omega
        subst hje
        have hb1 : decide ((ws.length : Int) < (ws.length : Int)) = false := by simp
        have r1 : (0 : Int) ≤ (K.length : Int) := by omega
        have r2 : (K.length : Int) ≤ (ws.length : Int) := by omega
        have HKL := Aside0.mk (show K.length < ws.length from by omega)
        clear hlt
        have hcl := fun ty cc => run_clear_wts HS.out.ro HKL.out ty cc
        have hcK : ¬ c = K.length := by have := (Kd.R_reads' HS.out.ro).2.1; have := HKL.out; omega
        have r3 : (K.length : Int) ≤ (c : Int) := by have := (Kd.R_reads' HS.out.ro).2.1; have := HKL.out; omega
        go_wp2_with fail
        go_ret
        have hR := R_tail (m := K.length) (o := K.length * 3) HS.out.ro (by rw [List.length_append]; omega) (clrSeg (ws.length - K.length)) (Nat.le_refl _)
        rw [List.take_left] at hR
        have hK := HK.out
        rw [List.take_length] at hK
        refine ⟨_, rfl, by rw [← hK]; exact hR, ?_⟩
        exact (HS.out.fr.then_ (setCells_fr _ _ _) (fun k hk => Or.inl hk)).mono (fun k _ hk => by rw [hk]; rfl)
end Go.Proofs.Ytllgaikgpfionaa.SM
