/- WireBack, walked. -/
import Derived.Test.YtojnhklgfdfkcaaPBytes14
import Derived.Test.YtojnhklgfdfkcaaPWire2
import Derived.Test.YtojnhklgfdfkcaaGE
import Derived.Test.YtojnhklgfdfkcaaGD
namespace Go.Proofs.Ytojnhklgfdfkcaa.WK
open Go.RowKit Go.Proofs.YtojnhklgfdfkcaaW.PrintWords Go.Proofs.YtojnhklgfdfkcaaW.PrintLast Go.Proofs.YtojnhklgfdfkcaaW.PrintMore Go.Proofs.Ytojnhklgfdfkcaa.MB Go.Proofs.Ytojnhklgfdfkcaa.HW Go.Proofs.Ytojnhklgfdfkcaa.Fn Go.Proofs.Ytojnhklgfdfkcaa.PV Go.Proofs.Ytojnhklgfdfkcaa.RB Go.Proofs.Ytojnhklgfdfkcaa.RO Go.Proofs.Ytojnhklgfdfkcaa.PZ
attribute [local go_sem] max2_int min2_int max_two min_two max_three min_three max_four min_four   -- for this text's walks alone
theorem wireB_err {ns : List Int} {log : List ByteArray} {body : List S63} {s : ByteArray} {e : Int} (h : wireB ns log body = (s, e)) (he : e ≠ 0) : s = ⟨#[]⟩ := by
  unfold wireB at h
  by_cases hok : okMsg ns log body = true
  · rw [if_pos hok] at h
    cases hl : logB log (numsB ns 11 ++ vs log.length) with
    | none =>
      rw [hl] at h
      simp only [Prod.mk.injEq] at h
      exact h.1.symm
    | some a =>
      rw [hl] at h
      simp only at h
      by_cases hc : 1048576 < (a ++ vs body.length ++ (rgo 0 body 0 ⟨#[]⟩).1).size
      · rw [if_pos hc] at h
        simp only [Prod.mk.injEq] at h
        exact h.1.symm
      · rw [if_neg hc] at h
        simp only [Prod.mk.injEq] at h
        exact absurd h.2.symm he
  · rw [if_neg hok] at h
    simp only [Prod.mk.injEq] at h
    exact h.1.symm
set_option maxHeartbeats 16000000 in
set_option maxRecDepth 100000 in
theorem back_any (a0 a1 a2 a3 a4 a5 a6 a7 a8 a9 a10 : Int) (A11 : Option Addr) (c11 : Nat) (log : List ByteArray) (A12 : Option Addr) (c12 : Nat) (body : List S63) (w : World) (hr1 : Kd.C Kd.string w A11 log.length log) (hc11 : log.length ≤ c11) (hr2 : Kd.C k63 w A12 body.length body) (hc12 : body.length ≤ c12) :
    Calls Try.prog 5 #[.agg #[.int .i64 a0, .int .i64 a1, .int .i64 a2, .int .i64 a3, .int .i64 a4, .int .i64 a5, .int .i64 a6, .int .i64 a7, .int .i64 a8, .int .i64 a9, .int .i64 a10, .slice A11 log.length c11, .slice A12 body.length c12]] w fun x w' => x = .returned (.bool true) ∧ Below w.heap.size w w' := by
  have hu := Try.underlying28
  have hu3 := Try.underlying24
  have HR1 := Aside0.mk hr1
  have HR2 := Aside0.mk hr2
  have HC := Aside0.mk (And.intro hc11 hc12)
  obtain ⟨⟨s, e⟩, hw⟩ : ∃ v, wireB [a0, a1, a2, a3, a4, a5, a6, a7, a8, a9, a10] log body = v := ⟨_, rfl⟩
  have HW := Aside0.mk hw
  clear hr1 hr2 hc11 hc12
  go_enter Try.func5, Try.ntmps5
  go_upto_region 1 with (fail)
  have hQ := heap_alloc_new w (.cells #[.int .i64 a0, .int .i64 a1, .int .i64 a2, .int .i64 a3, .int .i64 a4, .int .i64 a5, .int .i64 a6, .int .i64 a7, .int .i64 a8, .int .i64 a9, .int .i64 a10, .slice A11 log.length c11, .slice A12 body.length c12] 28)
  have hB := below_alloc (Below.refl w.heap.size w) (.cells #[.int .i64 a0, .int .i64 a1, .int .i64 a2, .int .i64 a3, .int .i64 a4, .int .i64 a5, .int .i64 a6, .int .i64 a7, .int .i64 a8, .int .i64 a9, .int .i64 a10, .slice A11 log.length c11, .slice A12 body.length c12] 28)
  obtain ⟨g, hg⟩ : ∃ g, w.heap.size = g := ⟨_, rfl⟩
  rw [hg] at hQ
  rw [hg]
  have HQ := Aside0.mk hQ
  have HB := Aside0.mk hB
  replace HR1 := Aside0.mk (Kd.C_below HR1.out hB)
  replace HR2 := Aside0.mk (Kd.C_below HR2.out hB)
  clear hg hQ hB
  generalize w.alloc (.cells #[.int .i64 a0, .int .i64 a1, .int .i64 a2, .int .i64 a3, .int .i64 a4, .int .i64 a5, .int .i64 a6, .int .i64 a7, .int .i64 a8, .int .i64 a9, .int .i64 a10, .slice A11 log.length c11, .slice A12 body.length c12] 28) = w1 at HQ HB HR1 HR2 ⊢
  have e0 : w1.cell? ⟨g, 0, none⟩ = some (.int .i64 a0) := (blk_cell HQ.out 0).trans rfl
  have e1 : w1.cell? ⟨g, 1, none⟩ = some (.int .i64 a1) := (blk_cell HQ.out 1).trans rfl
  have e2 : w1.cell? ⟨g, 2, none⟩ = some (.int .i64 a2) := (blk_cell HQ.out 2).trans rfl
  have e3 : w1.cell? ⟨g, 3, none⟩ = some (.int .i64 a3) := (blk_cell HQ.out 3).trans rfl
  have e4 : w1.cell? ⟨g, 4, none⟩ = some (.int .i64 a4) := (blk_cell HQ.out 4).trans rfl
  have e5 : w1.cell? ⟨g, 5, none⟩ = some (.int .i64 a5) := (blk_cell HQ.out 5).trans rfl
  have e6 : w1.cell? ⟨g, 6, none⟩ = some (.int .i64 a6) := (blk_cell HQ.out 6).trans rfl
  have e7 : w1.cell? ⟨g, 7, none⟩ = some (.int .i64 a7) := (blk_cell HQ.out 7).trans rfl
  have e8 : w1.cell? ⟨g, 8, none⟩ = some (.int .i64 a8) := (blk_cell HQ.out 8).trans rfl
  have e9 : w1.cell? ⟨g, 9, none⟩ = some (.int .i64 a9) := (blk_cell HQ.out 9).trans rfl
  have e10 : w1.cell? ⟨g, 10, none⟩ = some (.int .i64 a10) := (blk_cell HQ.out 10).trans rfl
  have e11 : w1.cell? ⟨g, 11, none⟩ = some (.slice A11 log.length c11) := (blk_cell HQ.out 11).trans rfl
  have e12 : w1.cell? ⟨g, 12, none⟩ = some (.slice A12 body.length c12) := (blk_cell HQ.out 12).trans rfl
  clear hw
  go_wp2_with fail
  refine (wbytes_any a0 a1 a2 a3 a4 a5 a6 a7 a8 a9 a10 A11 c11 log A12 c12 body _ HR1.out HR2.out HR1.out.2.1 HR2.out.2.1 HC.out.2 s e HW.out).mono ?_
  rintro y w2 ⟨rfl, hb⟩
  replace HQ := Aside0.mk ((hb.block _ (blk_lt HQ.out)).trans HQ.out)
  replace HR1 := Aside0.mk (Kd.C_below HR1.out hb)
  replace HR2 := Aside0.mk (Kd.C_below HR2.out hb)
  replace HB := Aside0.mk (HB.out.trans (hb.mono HB.out.size))
  clear e0 e1 e2 e3 e4 e5 e6 e7 e8 e9 e10 e11 e12
  clear hb
  by_cases he : e = 0
  · subst he
    have HPOS := Aside0.mk (wireB_pos rfl HW.out)
    have HOK := Aside0.mk (okMsg_parts (wireB_ok rfl HW.out).1)
    have HSZ := Aside0.mk (wireB_ok rfl HW.out).2.2
    have p1 : 0 < s.size := HPOS.out
    have p2 : s.size ≤ 1048576 := HSZ.out
    have b0 : ((s.size : Int) == 0) = false := beq_eq_false_iff_ne.2 (by omega)
    have W1 := Aside0.mk (wire_at rfl HW.out)
    obtain ⟨S2, hS2⟩ : ∃ y, s ++ (⟨#[120]⟩ : ByteArray) = y := ⟨_, rfl⟩
    have hz2 : S2.size = s.size + 1 := by rw [← hS2, ByteArray.size_append]; rfl
    obtain ⟨g2, hg2⟩ : ∃ y : Int, (if s.size = 1048576 then 4 else 140) = y := ⟨_, rfl⟩
    have W2 := Aside0.mk (show wireOf S2 = (List.replicate 11 0, [], [], g2) from by
      rw [← hg2]
      by_cases hx : s.size = 1048576
      · rw [if_pos hx]
        unfold wireOf
        rw [if_pos (by omega)]
      · rw [if_neg hx, ← hS2]
        exact wire_more rfl HW.out (show ((⟨#[120]⟩ : ByteArray).size ≠ 0) from by decide) (show s.size + 1 ≤ 1048576 by omega))
    obtain ⟨S3, hS3⟩ : ∃ y, s.extract 0 (s.size - 1) = y := ⟨_, rfl⟩
    have W3 := Aside0.mk (show wireOf S3 = (List.replicate 11 0, [], [], 140) from by rw [← hS3]; exact wire_cut rfl HW.out (s.size - 1) (by omega))
    have HG2 := Aside0.mk hg2
    clear hg2 hz2
    go_wp2_with fail
    refine (wof_any s _ _ _ _ _ W1.out).mono ?_
    rintro y w3 ⟨v11, v12, rfl, hr1, hr2, hb⟩
    obtain ⟨T1, d1, e1⟩ := Kd.R_slice hr1
    obtain ⟨T2, d2, e2⟩ := Kd.R_slice hr2
    subst e1
    subst e2
    replace HQ := Aside0.mk ((hb.block _ (blk_lt HQ.out)).trans HQ.out)
    replace HR1 := Aside0.mk (Kd.C_below HR1.out hb)
    replace HR2 := Aside0.mk (Kd.C_below HR2.out hb)
    replace HB := Aside0.mk (HB.out.trans (hb.mono HB.out.size))
    have P1 := Aside0.mk (RC hr1).1
    have P2 := Aside0.mk (RC hr2).1
    have PC := Aside0.mk (RC hr2).2
    clear hr1 hr2 hb
    have K3 := Aside0.mk (heap_alloc_new w3 (.cells zcells 28))
    have HA := Aside0.mk (below_alloc (Below.refl w3.heap.size w3) (.cells zcells 28))
    go_upto_region 8 with ((with_reducible refine gate_store (t := 28) (p := 7) (v := .tmp 41) rfl ?_); refine store_all rfl rfl rfl w3.heap.size zcells (mf [a0, a1, a2, a3, a4, a5, a6, a7, a8, a9, a10] (.slice T1 log.length d1) (.slice T2 body.length d2)) 28 (by rfl) (by rfl) K3.out rfl (by kernel_rfl) (mf_one _ _ _ _ _ _ _) ?_; intro w4 hs1 hf6; have HN := Aside0.mk hs1; have HF := Aside0.mk hf6; clear hs1 hf6)
    have HBx := Aside0.mk (HA.out.trans (HF.out.below HA.out.size (fun k hk => by omega)))
    replace HQ := Aside0.mk ((HBx.out.block _ (blk_lt HQ.out)).trans HQ.out)
    replace HR1 := Aside0.mk (Kd.C_below HR1.out HBx.out)
    replace HR2 := Aside0.mk (Kd.C_below HR2.out HBx.out)
    replace P1 := Aside0.mk (Kd.C_below P1.out HBx.out)
    replace P2 := Aside0.mk (Kd.C_below P2.out HBx.out)
    replace HB := Aside0.mk (HB.out.trans (HBx.out.mono HB.out.size))
    obtain ⟨h, hh⟩ : ∃ h, w3.heap.size = h := ⟨_, rfl⟩
    rw [hh] at HN
    rw [hh]
    have HNN := Aside0.mk HN.out
    clear HBx HF hh K3 HA HN
    go_wp2_with fail
    refine (wof_any S2 _ _ _ _ _ W2.out).mono ?_
    rintro y w5 ⟨v11, v12, rfl, hr1, hr2, hb⟩
    obtain ⟨V1, z1, e1⟩ := Kd.R_slice hr1
    obtain ⟨V2, z2, e2⟩ := Kd.R_slice hr2
    subst e1
    subst e2
    replace HQ := Aside0.mk ((hb.block _ (blk_lt HQ.out)).trans HQ.out)
    replace HNN := Aside0.mk ((hb.block _ (blk_lt HNN.out)).trans HNN.out)
    replace HR1 := Aside0.mk (Kd.C_below HR1.out hb)
    replace HR2 := Aside0.mk (Kd.C_below HR2.out hb)
    replace P1 := Aside0.mk (Kd.C_below P1.out hb)
    replace P2 := Aside0.mk (Kd.C_below P2.out hb)
    replace HB := Aside0.mk (HB.out.trans (hb.mono HB.out.size))
    clear hr1 hr2 hb
    have K3 := Aside0.mk (heap_alloc_new w5 (.cells zcells 28))
    have HA := Aside0.mk (below_alloc (Below.refl w5.heap.size w5) (.cells zcells 28))
    go_upto_region 9 with ((with_reducible refine gate_store (t := 28) (p := 9) (v := .tmp 47) rfl ?_); refine store_all rfl rfl rfl w5.heap.size zcells (mf (List.replicate 11 0) (.slice V1 0 z1) (.slice V2 0 z2)) 28 (by rfl) (by rfl) K3.out rfl (by kernel_rfl) (mf_one _ _ _ _ _ _ _) ?_; intro w6 hs1 hf6; have HN := Aside0.mk hs1; have HF := Aside0.mk hf6; clear hs1 hf6)
    have HBx := Aside0.mk (HA.out.trans (HF.out.below HA.out.size (fun k hk => by omega)))
    replace HQ := Aside0.mk ((HBx.out.block _ (blk_lt HQ.out)).trans HQ.out)
    replace HNN := Aside0.mk ((HBx.out.block _ (blk_lt HNN.out)).trans HNN.out)
    replace HR1 := Aside0.mk (Kd.C_below HR1.out HBx.out)
    replace HR2 := Aside0.mk (Kd.C_below HR2.out HBx.out)
    replace P1 := Aside0.mk (Kd.C_below P1.out HBx.out)
    replace P2 := Aside0.mk (Kd.C_below P2.out HBx.out)
    replace HB := Aside0.mk (HB.out.trans (HBx.out.mono HB.out.size))
    clear HBx HF K3 HA HN
    have q1 : (0 : Int) ≤ (s.size : Int) - 1 := by omega
    have q2 : (s.size : Int) - 1 ≤ (s.size : Int) := by omega
    have q1b := decide_eq_true q1
    have q2b := decide_eq_true q2
    have n1 : ((s.size : Int) - 1).toNat = s.size - 1 := by omega
    go_wp2_with fail
    refine (wof_any S3 _ _ _ _ _ W3.out).mono ?_
    rintro y w7 ⟨v11, v12, rfl, hr1, hr2, hb⟩
    obtain ⟨V1, z1, e1⟩ := Kd.R_slice hr1
    obtain ⟨V2, z2, e2⟩ := Kd.R_slice hr2
    subst e1
    subst e2
    replace HQ := Aside0.mk ((hb.block _ (blk_lt HQ.out)).trans HQ.out)
    replace HNN := Aside0.mk ((hb.block _ (blk_lt HNN.out)).trans HNN.out)
    replace HR1 := Aside0.mk (Kd.C_below HR1.out hb)
    replace HR2 := Aside0.mk (Kd.C_below HR2.out hb)
    replace P1 := Aside0.mk (Kd.C_below P1.out hb)
    replace P2 := Aside0.mk (Kd.C_below P2.out hb)
    replace HB := Aside0.mk (HB.out.trans (hb.mono HB.out.size))
    clear hr1 hr2 hb
    have K3 := Aside0.mk (heap_alloc_new w7 (.cells zcells 28))
    have HA := Aside0.mk (below_alloc (Below.refl w7.heap.size w7) (.cells zcells 28))
    go_upto_region 10 with ((with_reducible refine gate_store (t := 28) (p := 11) (v := .tmp 56) rfl ?_); refine store_all rfl rfl rfl w7.heap.size zcells (mf (List.replicate 11 0) (.slice V1 0 z1) (.slice V2 0 z2)) 28 (by rfl) (by rfl) K3.out rfl (by kernel_rfl) (mf_one _ _ _ _ _ _ _) ?_; intro w8 hs1 hf6; have HN := Aside0.mk hs1; have HF := Aside0.mk hf6; clear hs1 hf6)
    have HBx := Aside0.mk (HA.out.trans (HF.out.below HA.out.size (fun k hk => by omega)))
    replace HQ := Aside0.mk ((HBx.out.block _ (blk_lt HQ.out)).trans HQ.out)
    replace HNN := Aside0.mk ((HBx.out.block _ (blk_lt HNN.out)).trans HNN.out)
    replace HR1 := Aside0.mk (Kd.C_below HR1.out HBx.out)
    replace HR2 := Aside0.mk (Kd.C_below HR2.out HBx.out)
    replace P1 := Aside0.mk (Kd.C_below P1.out HBx.out)
    replace P2 := Aside0.mk (Kd.C_below P2.out HBx.out)
    replace HB := Aside0.mk (HB.out.trans (HBx.out.mono HB.out.size))
    clear HBx HF K3 HA HN
    clear q1 q2 q1b q2b n1 hS2 hS3
    have HLB := Aside0.mk (show log.length ≤ 1000000000 ∧ body.length ≤ 1000000000 by have := HOK.out; omega)
    by_cases hx : s.size = 1048576
    · have b5 : ((s.size : Int) == 1048576) = true := by simp; omega
      clear hx
      have e0 : w8.cell? ⟨g, 0, none⟩ = some (.int .i64 a0) := (blk_cell HQ.out 0).trans rfl
      have e1 : w8.cell? ⟨g, 1, none⟩ = some (.int .i64 a1) := (blk_cell HQ.out 1).trans rfl
      have e2 : w8.cell? ⟨g, 2, none⟩ = some (.int .i64 a2) := (blk_cell HQ.out 2).trans rfl
      have e3 : w8.cell? ⟨g, 3, none⟩ = some (.int .i64 a3) := (blk_cell HQ.out 3).trans rfl
      have e4 : w8.cell? ⟨g, 4, none⟩ = some (.int .i64 a4) := (blk_cell HQ.out 4).trans rfl
      have e5 : w8.cell? ⟨g, 5, none⟩ = some (.int .i64 a5) := (blk_cell HQ.out 5).trans rfl
      have e6 : w8.cell? ⟨g, 6, none⟩ = some (.int .i64 a6) := (blk_cell HQ.out 6).trans rfl
      have e7 : w8.cell? ⟨g, 7, none⟩ = some (.int .i64 a7) := (blk_cell HQ.out 7).trans rfl
      have e8 : w8.cell? ⟨g, 8, none⟩ = some (.int .i64 a8) := (blk_cell HQ.out 8).trans rfl
      have e9 : w8.cell? ⟨g, 9, none⟩ = some (.int .i64 a9) := (blk_cell HQ.out 9).trans rfl
      have e10 : w8.cell? ⟨g, 10, none⟩ = some (.int .i64 a10) := (blk_cell HQ.out 10).trans rfl
      have e11 : w8.cell? ⟨g, 11, none⟩ = some (.slice A11 log.length c11) := (blk_cell HQ.out 11).trans rfl
      have e12 : w8.cell? ⟨g, 12, none⟩ = some (.slice A12 body.length c12) := (blk_cell HQ.out 12).trans rfl
      have h0 : w8.cell? ⟨h, 0, none⟩ = some (.int .i64 a0) := (blk_cell HNN.out 0).trans rfl
      have h1 : w8.cell? ⟨h, 1, none⟩ = some (.int .i64 a1) := (blk_cell HNN.out 1).trans rfl
      have h2 : w8.cell? ⟨h, 2, none⟩ = some (.int .i64 a2) := (blk_cell HNN.out 2).trans rfl
      have h3 : w8.cell? ⟨h, 3, none⟩ = some (.int .i64 a3) := (blk_cell HNN.out 3).trans rfl
      have h4 : w8.cell? ⟨h, 4, none⟩ = some (.int .i64 a4) := (blk_cell HNN.out 4).trans rfl
      have h5 : w8.cell? ⟨h, 5, none⟩ = some (.int .i64 a5) := (blk_cell HNN.out 5).trans rfl
      have h6 : w8.cell? ⟨h, 6, none⟩ = some (.int .i64 a6) := (blk_cell HNN.out 6).trans rfl
      have h7 : w8.cell? ⟨h, 7, none⟩ = some (.int .i64 a7) := (blk_cell HNN.out 7).trans rfl
      have h8 : w8.cell? ⟨h, 8, none⟩ = some (.int .i64 a8) := (blk_cell HNN.out 8).trans rfl
      have h9 : w8.cell? ⟨h, 9, none⟩ = some (.int .i64 a9) := (blk_cell HNN.out 9).trans rfl
      have h10 : w8.cell? ⟨h, 10, none⟩ = some (.int .i64 a10) := (blk_cell HNN.out 10).trans rfl
      have h11 : w8.cell? ⟨h, 11, none⟩ = some (.slice T1 log.length d1) := (blk_cell HNN.out 11).trans rfl
      have h12 : w8.cell? ⟨h, 12, none⟩ = some (.slice T2 body.length d2) := (blk_cell HNN.out 12).trans rfl
      go_wp2_with fail
      refine (same_any a0 a1 a2 a3 a4 a5 a6 a7 a8 a9 a10 A11 c11 log A12 c12 body a0 a1 a2 a3 a4 a5 a6 a7 a8 a9 a10 T1 d1 log T2 d2 body _ HR1.out HR2.out P1.out P2.out HC.out.2 PC.out HLB.out.1 HLB.out.2).mono ?_
      rintro y w9 ⟨rfl, hb⟩
      replace HB := Aside0.mk (HB.out.trans (hb.mono HB.out.size))
      clear hb
      rw [(sameMsg_iff _ _ _ _ _ _).2 ⟨rfl, rfl, rfl⟩]
      clear e0 e1 e2 e3 e4 e5 e6 e7 e8 e9 e10 e11 e12 h0 h1 h2 h3 h4 h5 h6 h7 h8 h9 h10 h11 h12
      go_wp2_with fail
      refine (awake_any _).mono ?_
      rintro y w10 ⟨rfl, hb⟩
      replace HB := Aside0.mk (HB.out.trans (hb.mono HB.out.size))
      clear hb
      go_wp2_with fail
      go_ret
      exact ⟨rfl, HB.out⟩
    · have b5 : ((s.size : Int) == 1048576) = false := by simp; omega
      have hg2 := HG2.out
      rw [if_neg hx] at hg2
      subst hg2
      clear hx
      have e0 : w8.cell? ⟨g, 0, none⟩ = some (.int .i64 a0) := (blk_cell HQ.out 0).trans rfl
      have e1 : w8.cell? ⟨g, 1, none⟩ = some (.int .i64 a1) := (blk_cell HQ.out 1).trans rfl
      have e2 : w8.cell? ⟨g, 2, none⟩ = some (.int .i64 a2) := (blk_cell HQ.out 2).trans rfl
      have e3 : w8.cell? ⟨g, 3, none⟩ = some (.int .i64 a3) := (blk_cell HQ.out 3).trans rfl
      have e4 : w8.cell? ⟨g, 4, none⟩ = some (.int .i64 a4) := (blk_cell HQ.out 4).trans rfl
      have e5 : w8.cell? ⟨g, 5, none⟩ = some (.int .i64 a5) := (blk_cell HQ.out 5).trans rfl
      have e6 : w8.cell? ⟨g, 6, none⟩ = some (.int .i64 a6) := (blk_cell HQ.out 6).trans rfl
      have e7 : w8.cell? ⟨g, 7, none⟩ = some (.int .i64 a7) := (blk_cell HQ.out 7).trans rfl
      have e8 : w8.cell? ⟨g, 8, none⟩ = some (.int .i64 a8) := (blk_cell HQ.out 8).trans rfl
      have e9 : w8.cell? ⟨g, 9, none⟩ = some (.int .i64 a9) := (blk_cell HQ.out 9).trans rfl
      have e10 : w8.cell? ⟨g, 10, none⟩ = some (.int .i64 a10) := (blk_cell HQ.out 10).trans rfl
      have e11 : w8.cell? ⟨g, 11, none⟩ = some (.slice A11 log.length c11) := (blk_cell HQ.out 11).trans rfl
      have e12 : w8.cell? ⟨g, 12, none⟩ = some (.slice A12 body.length c12) := (blk_cell HQ.out 12).trans rfl
      have h0 : w8.cell? ⟨h, 0, none⟩ = some (.int .i64 a0) := (blk_cell HNN.out 0).trans rfl
      have h1 : w8.cell? ⟨h, 1, none⟩ = some (.int .i64 a1) := (blk_cell HNN.out 1).trans rfl
      have h2 : w8.cell? ⟨h, 2, none⟩ = some (.int .i64 a2) := (blk_cell HNN.out 2).trans rfl
      have h3 : w8.cell? ⟨h, 3, none⟩ = some (.int .i64 a3) := (blk_cell HNN.out 3).trans rfl
      have h4 : w8.cell? ⟨h, 4, none⟩ = some (.int .i64 a4) := (blk_cell HNN.out 4).trans rfl
      have h5 : w8.cell? ⟨h, 5, none⟩ = some (.int .i64 a5) := (blk_cell HNN.out 5).trans rfl
      have h6 : w8.cell? ⟨h, 6, none⟩ = some (.int .i64 a6) := (blk_cell HNN.out 6).trans rfl
      have h7 : w8.cell? ⟨h, 7, none⟩ = some (.int .i64 a7) := (blk_cell HNN.out 7).trans rfl
      have h8 : w8.cell? ⟨h, 8, none⟩ = some (.int .i64 a8) := (blk_cell HNN.out 8).trans rfl
      have h9 : w8.cell? ⟨h, 9, none⟩ = some (.int .i64 a9) := (blk_cell HNN.out 9).trans rfl
      have h10 : w8.cell? ⟨h, 10, none⟩ = some (.int .i64 a10) := (blk_cell HNN.out 10).trans rfl
      have h11 : w8.cell? ⟨h, 11, none⟩ = some (.slice T1 log.length d1) := (blk_cell HNN.out 11).trans rfl
      have h12 : w8.cell? ⟨h, 12, none⟩ = some (.slice T2 body.length d2) := (blk_cell HNN.out 12).trans rfl
      go_wp2_with fail
      refine (same_any a0 a1 a2 a3 a4 a5 a6 a7 a8 a9 a10 A11 c11 log A12 c12 body a0 a1 a2 a3 a4 a5 a6 a7 a8 a9 a10 T1 d1 log T2 d2 body _ HR1.out HR2.out P1.out P2.out HC.out.2 PC.out HLB.out.1 HLB.out.2).mono ?_
      rintro y w9 ⟨rfl, hb⟩
      replace HB := Aside0.mk (HB.out.trans (hb.mono HB.out.size))
      clear hb
      rw [(sameMsg_iff _ _ _ _ _ _).2 ⟨rfl, rfl, rfl⟩]
      clear e0 e1 e2 e3 e4 e5 e6 e7 e8 e9 e10 e11 e12 h0 h1 h2 h3 h4 h5 h6 h7 h8 h9 h10 h11 h12
      go_wp2_with fail
      refine (awake_any _).mono ?_
      rintro y w10 ⟨rfl, hb⟩
      replace HB := Aside0.mk (HB.out.trans (hb.mono HB.out.size))
      clear hb
      go_wp2_with fail
      go_ret
      exact ⟨rfl, HB.out⟩
  · have hs0 := wireB_err HW.out he
    subst hs0
    have b2 : (e != 0) = true := by simpa using he
    have b3 : (e == e) = true := by simp
    have HRB := Aside0.mk (rbytes14_f a0 a1 a2 a3 a4 a5 a6 a7 a8 a9 a10 log body)
    rw [HW.out] at HRB
    clear he
    have e0 : w2.cell? ⟨g, 0, none⟩ = some (.int .i64 a0) := (blk_cell HQ.out 0).trans rfl
    have e1 : w2.cell? ⟨g, 1, none⟩ = some (.int .i64 a1) := (blk_cell HQ.out 1).trans rfl
    have e2 : w2.cell? ⟨g, 2, none⟩ = some (.int .i64 a2) := (blk_cell HQ.out 2).trans rfl
    have e3 : w2.cell? ⟨g, 3, none⟩ = some (.int .i64 a3) := (blk_cell HQ.out 3).trans rfl
    have e4 : w2.cell? ⟨g, 4, none⟩ = some (.int .i64 a4) := (blk_cell HQ.out 4).trans rfl
    have e5 : w2.cell? ⟨g, 5, none⟩ = some (.int .i64 a5) := (blk_cell HQ.out 5).trans rfl
    have e6 : w2.cell? ⟨g, 6, none⟩ = some (.int .i64 a6) := (blk_cell HQ.out 6).trans rfl
    have e7 : w2.cell? ⟨g, 7, none⟩ = some (.int .i64 a7) := (blk_cell HQ.out 7).trans rfl
    have e8 : w2.cell? ⟨g, 8, none⟩ = some (.int .i64 a8) := (blk_cell HQ.out 8).trans rfl
    have e9 : w2.cell? ⟨g, 9, none⟩ = some (.int .i64 a9) := (blk_cell HQ.out 9).trans rfl
    have e10 : w2.cell? ⟨g, 10, none⟩ = some (.int .i64 a10) := (blk_cell HQ.out 10).trans rfl
    have e11 : w2.cell? ⟨g, 11, none⟩ = some (.slice A11 log.length c11) := (blk_cell HQ.out 11).trans rfl
    have e12 : w2.cell? ⟨g, 12, none⟩ = some (.slice A12 body.length c12) := (blk_cell HQ.out 12).trans rfl
    go_wp2_with fail
    refine (postroadref14_Bytes.calls 6000 a0 a1 a2 a3 a4 a5 a6 a7 a8 a9 a10 A11 c11 log A12 c12 body _ _ _ HR1.out HC.out.1 HR2.out HC.out.2 HRB.out).mono ?_
    rintro y w3 ⟨rfl, hb⟩
    replace HB := Aside0.mk (HB.out.trans (hb.mono HB.out.size))
    clear e0 e1 e2 e3 e4 e5 e6 e7 e8 e9 e10 e11 e12
    clear hb
    go_wp2_with fail
    refine (awake_any _).mono ?_
    rintro y w6 ⟨rfl, hb⟩
    replace HB := Aside0.mk (HB.out.trans (hb.mono HB.out.size))
    clear hb
    go_wp2_with fail
    go_ret
    exact ⟨rfl, HB.out⟩
end Go.Proofs.Ytojnhklgfdfkcaa.WK

