/- WireReads, walked. -/
import Derived.Test.YtojnhklgfdfkcaaPWire
import Derived.Test.YtojnhklgfdfkcaaGE
import Derived.Test.YtojnhklgfdfkcaaGD
import Derived.OpenShut
namespace Go.Proofs.Ytojnhklgfdfkcaa.WK
open Go.RowKit Go.Proofs.YtojnhklgfdfkcaaW.PrintWords Go.Proofs.YtojnhklgfdfkcaaW.PrintLast Go.Proofs.YtojnhklgfdfkcaaW.PrintMore Go.Proofs.Ytojnhklgfdfkcaa.MB Go.Proofs.Ytojnhklgfdfkcaa.HW Go.Proofs.Ytojnhklgfdfkcaa.Fn Go.Proofs.Ytojnhklgfdfkcaa.PV Go.Proofs.Ytojnhklgfdfkcaa.RB Go.Proofs.Ytojnhklgfdfkcaa.RO
attribute [local go_sem] max2_int min2_int max_two min_two max_three min_three max_four min_four   -- for this text's walks alone
set_option maxHeartbeats 4000000 in
set_option maxRecDepth 100000 in
theorem rof_any (S : ByteArray) (w : World) (ns : List Int) (log : List ByteArray) (body : List S63) (er : Int) (hw : wireOf S = (ns, log, body, er)) :
    Calls Try.prog 15 #[.string S] w fun x w' => ∃ v11 v12 : Value, x = .returned (.tuple #[.agg #[.int .i64 (ns.getD 0 0), .int .i64 (ns.getD 1 0), .int .i64 (ns.getD 2 0), .int .i64 (ns.getD 3 0), .int .i64 (ns.getD 4 0), .int .i64 (ns.getD 5 0), .int .i64 (ns.getD 6 0), .int .i64 (ns.getD 7 0), .int .i64 (ns.getD 8 0), .int .i64 (ns.getD 9 0), .int .i64 (ns.getD 10 0), v11, v12], .int .i64 er]) ∧ Kd.R Kd.string 9 w' w.heap.size (fun _ => True) v11 log ∧ Kd.R k63 63 w' w.heap.size (fun _ => True) v12 body ∧ Below w.heap.size w w' := by
  rw [← ref_eq] at hw
  by_cases hs : S.size ≤ 1048576
  · exact rof_good S w hs ns log body er hw
  · unfold refOf at hw
    rw [if_pos (by omega)] at hw
    simp only [Prod.mk.injEq] at hw
    obtain ⟨rfl, rfl, rfl, rfl⟩ := hw
    have hu := Try.underlying28
    have b1 : decide (1048576 < (S.size : Int)) = true := by simp; omega
    clear hs
    have HM := Aside0.mk (heap_alloc_new w (.cells zcells 28))
    have HB := Aside0.mk (below_alloc (Below.refl w.heap.size w) (.cells zcells 28))
    go_enter Try.func15, Try.ntmps15
    go_wp2_with ((with_reducible refine gate_store (t := 28) (p := 2) (v := .tmp 23) rfl ?_); refine store_all rfl rfl rfl w.heap.size zcells zcells 28 (by rfl) (by rfl) HM.out rfl (by kernel_rfl) zcells_one ?_; intro w9 hr1 hf6; have HR1 := Aside0.mk hr1; have HF6 := Aside0.mk hf6; clear hr1 hf6)
    refine bodyPost_ret (results_ct rfl _ _ w.heap.size 28 zcells (0, 0) _ rfl HR1.out Try.underlying28 rfl (by kernel_rfl)) rfl ?_
    exact ⟨.slice none 0 0, .slice none 0 0, rfl, Kd.R_nil _ _ _ _ _, Kd.R_nil _ _ _ _ _, HB.out.trans (HF6.out.below HB.out.size (fun k hk => by omega))⟩
theorem wireOf_small {S : ByteArray} {ns : List Int} {log : List ByteArray} {body : List S63} {er : Int} (h : wireOf S = (ns, log, body, er)) : log.length ≤ 4096 ∧ body.length ≤ 256 := by
  by_cases hs : S.size ≤ 1048576
  · rcases wire_good hs with hg | hb
    · rw [h] at hg
      obtain ⟨h1, h2, h3, h4, h5, h6, h7, h8, h9⟩ := hg
      unfold okMsg at h9
      simp only [Bool.and_eq_true, decide_eq_true_iff] at h9
      exact ⟨h9.2.2.1, h9.2.2.2.1⟩
    · rw [h] at hb
      unfold badR at hb
      simp only [Prod.mk.injEq] at hb
      obtain ⟨rfl, rfl, rfl, rfl⟩ := hb
      exact ⟨by decide, by decide⟩
  · unfold wireOf at h
    rw [if_pos (by omega)] at h
    simp only [Prod.mk.injEq] at h
    obtain ⟨rfl, rfl, rfl, rfl⟩ := h
    exact ⟨by decide, by decide⟩
set_option maxHeartbeats 8000000 in
set_option maxRecDepth 100000 in
theorem reads_walk (s : ByteArray) (hs : s.size ≤ 140737488351232) (W0 : World) : Calls Try.prog 4 #[.string s] W0 fun e w' => e = .returned (.bool true) ∧ Below W0.heap.size W0 w' := by
  obtain ⟨w, rfl⟩ : ∃ w : World, w = W0 := ⟨_, rfl⟩
  have hu := Try.underlying28
  have hu3 := Try.underlying24
  obtain ⟨⟨ns, log, body, er⟩, hw⟩ : ∃ v, wireOf s = v := ⟨_, rfl⟩
  have HW := Aside0.mk hw
  have HSM := Aside0.mk (wireOf_small hw)
  clear hw hs
  go_enter Try.func4, Try.ntmps4
  go_wp2_with fail
  refine (wof_any s _ ns log body er HW.out).mono ?_
  rintro e w1 ⟨v11, v12, rfl, hr1, hr2, hb⟩
  obtain ⟨T1, d1, e1⟩ := Kd.R_slice hr1
  obtain ⟨T2, d2, e2⟩ := Kd.R_slice hr2
  subst e1
  subst e2
  have Q1 := Aside0.mk (RC hr1)
  have Q2 := Aside0.mk (RC hr2)
  have HB1 := Aside0.mk hb
  clear hr1 hr2 hb
  have K1 := Aside0.mk (heap_alloc_new w1 (.cells zcells 28))
  have HA1 := Aside0.mk (below_alloc (Below.refl w1.heap.size w1) (.cells zcells 28))
  go_upto_region 2 with ((with_reducible refine gate_store (t := 28) (p := 3) (v := .tmp 10) rfl ?_); refine store_all rfl rfl rfl w1.heap.size zcells (mf ns (.slice T1 log.length d1) (.slice T2 body.length d2)) 28 (by rfl) (by rfl) K1.out rfl (by kernel_rfl) (mf_one _ _ _ _ _ _ _) ?_; intro w2 hr1 hf6; have HM2 := Aside0.mk hr1; have HF2 := Aside0.mk hf6; clear hr1 hf6)
  have HB2' := Aside0.mk (HA1.out.trans (HF2.out.below HA1.out.size (fun k hk => by omega)))
  obtain ⟨g1, hg1⟩ : ∃ h, w1.heap.size = h := ⟨_, rfl⟩
  have Q12 := Aside0.mk (Kd.C_below Q1.out.1 HB2'.out)
  have Q22 := Aside0.mk (Kd.C_below Q2.out.1 HB2'.out)
  have HB2 := Aside0.mk (HB1.out.trans (HB2'.out.mono HB1.out.size))
  rw [hg1] at HM2
  rw [hg1]
  clear HB2' HF2 hg1 K1 HA1 HB1
  go_wp2_with fail
  refine (rof_any s _ ns log body er HW.out).mono ?_
  rintro e w3 ⟨v11, v12, rfl, hr1, hr2, hb⟩
  obtain ⟨U1, f1, e1⟩ := Kd.R_slice hr1
  obtain ⟨U2, f2, e2⟩ := Kd.R_slice hr2
  subst e1
  subst e2
  have P1 := Aside0.mk (RC hr1)
  have P2 := Aside0.mk (RC hr2)
  have HM3 := Aside0.mk ((hb.block _ (blk_lt HM2.out)).trans HM2.out)
  have Q13 := Aside0.mk (Kd.C_below Q12.out hb)
  have Q23 := Aside0.mk (Kd.C_below Q22.out hb)
  have HB3 := Aside0.mk (HB2.out.trans (hb.mono HB2.out.size))
  clear hr1 hr2 hb HM2 Q12 Q22 HB2
  have K3 := Aside0.mk (heap_alloc_new w3 (.cells zcells 28))
  have HA3 := Aside0.mk (below_alloc (Below.refl w3.heap.size w3) (.cells zcells 28))
  go_upto_region 3 with ((with_reducible refine gate_store (t := 28) (p := 5) (v := .tmp 15) rfl ?_); refine store_all rfl rfl rfl w3.heap.size zcells (mf ns (.slice U1 log.length f1) (.slice U2 body.length f2)) 28 (by rfl) (by rfl) K3.out rfl (by kernel_rfl) (mf_one _ _ _ _ _ _ _) ?_; intro w4 hr1 hf6; have HN4 := Aside0.mk hr1; have HF4 := Aside0.mk hf6; clear hr1 hf6)
  have HB4' := Aside0.mk (HA3.out.trans (HF4.out.below HA3.out.size (fun k hk => by omega)))
  obtain ⟨g3, hg3⟩ : ∃ h, w3.heap.size = h := ⟨_, rfl⟩
  have HM4 := Aside0.mk ((HB4'.out.block _ (blk_lt HM3.out)).trans HM3.out)
  have Q14 := Aside0.mk (Kd.C_below Q13.out HB4'.out)
  have Q24 := Aside0.mk (Kd.C_below Q23.out HB4'.out)
  have P14 := Aside0.mk (Kd.C_below P1.out.1 HB4'.out)
  have P24 := Aside0.mk (Kd.C_below P2.out.1 HB4'.out)
  have HB4 := Aside0.mk (HB3.out.trans (HB4'.out.mono HB3.out.size))
  rw [hg3] at HN4
  rw [hg3]
  clear HB4' HF4 hg3 K3 HA3 HB3 HM3 Q13 Q23
  have be : (er == er) = true := by simp
  have e0 : w4.cell? ⟨g1, 0, none⟩ = some (.int .i64 (ns.getD 0 0)) := (blk_cell HM4.out 0).trans rfl
  have e1 : w4.cell? ⟨g1, 1, none⟩ = some (.int .i64 (ns.getD 1 0)) := (blk_cell HM4.out 1).trans rfl
  have e2 : w4.cell? ⟨g1, 2, none⟩ = some (.int .i64 (ns.getD 2 0)) := (blk_cell HM4.out 2).trans rfl
  have e3 : w4.cell? ⟨g1, 3, none⟩ = some (.int .i64 (ns.getD 3 0)) := (blk_cell HM4.out 3).trans rfl
  have e4 : w4.cell? ⟨g1, 4, none⟩ = some (.int .i64 (ns.getD 4 0)) := (blk_cell HM4.out 4).trans rfl
  have e5 : w4.cell? ⟨g1, 5, none⟩ = some (.int .i64 (ns.getD 5 0)) := (blk_cell HM4.out 5).trans rfl
  have e6 : w4.cell? ⟨g1, 6, none⟩ = some (.int .i64 (ns.getD 6 0)) := (blk_cell HM4.out 6).trans rfl
  have e7 : w4.cell? ⟨g1, 7, none⟩ = some (.int .i64 (ns.getD 7 0)) := (blk_cell HM4.out 7).trans rfl
  have e8 : w4.cell? ⟨g1, 8, none⟩ = some (.int .i64 (ns.getD 8 0)) := (blk_cell HM4.out 8).trans rfl
  have e9 : w4.cell? ⟨g1, 9, none⟩ = some (.int .i64 (ns.getD 9 0)) := (blk_cell HM4.out 9).trans rfl
  have e10 : w4.cell? ⟨g1, 10, none⟩ = some (.int .i64 (ns.getD 10 0)) := (blk_cell HM4.out 10).trans rfl
  have e11 : w4.cell? ⟨g1, 11, none⟩ = some (.slice T1 log.length d1) := (blk_cell HM4.out 11).trans rfl
  have e12 : w4.cell? ⟨g1, 12, none⟩ = some (.slice T2 body.length d2) := (blk_cell HM4.out 12).trans rfl
  have h0 : w4.cell? ⟨g3, 0, none⟩ = some (.int .i64 (ns.getD 0 0)) := (blk_cell HN4.out 0).trans rfl
  have h1 : w4.cell? ⟨g3, 1, none⟩ = some (.int .i64 (ns.getD 1 0)) := (blk_cell HN4.out 1).trans rfl
  have h2 : w4.cell? ⟨g3, 2, none⟩ = some (.int .i64 (ns.getD 2 0)) := (blk_cell HN4.out 2).trans rfl
  have h3 : w4.cell? ⟨g3, 3, none⟩ = some (.int .i64 (ns.getD 3 0)) := (blk_cell HN4.out 3).trans rfl
  have h4 : w4.cell? ⟨g3, 4, none⟩ = some (.int .i64 (ns.getD 4 0)) := (blk_cell HN4.out 4).trans rfl
  have h5 : w4.cell? ⟨g3, 5, none⟩ = some (.int .i64 (ns.getD 5 0)) := (blk_cell HN4.out 5).trans rfl
  have h6 : w4.cell? ⟨g3, 6, none⟩ = some (.int .i64 (ns.getD 6 0)) := (blk_cell HN4.out 6).trans rfl
  have h7 : w4.cell? ⟨g3, 7, none⟩ = some (.int .i64 (ns.getD 7 0)) := (blk_cell HN4.out 7).trans rfl
  have h8 : w4.cell? ⟨g3, 8, none⟩ = some (.int .i64 (ns.getD 8 0)) := (blk_cell HN4.out 8).trans rfl
  have h9 : w4.cell? ⟨g3, 9, none⟩ = some (.int .i64 (ns.getD 9 0)) := (blk_cell HN4.out 9).trans rfl
  have h10 : w4.cell? ⟨g3, 10, none⟩ = some (.int .i64 (ns.getD 10 0)) := (blk_cell HN4.out 10).trans rfl
  have h11 : w4.cell? ⟨g3, 11, none⟩ = some (.slice U1 log.length f1) := (blk_cell HN4.out 11).trans rfl
  have h12 : w4.cell? ⟨g3, 12, none⟩ = some (.slice U2 body.length f2) := (blk_cell HN4.out 12).trans rfl
  go_wp2_with fail
  refine (same_any _ _ _ _ _ _ _ _ _ _ _ T1 d1 log T2 d2 body _ _ _ _ _ _ _ _ _ _ _ U1 f1 log U2 f2 body _ Q14.out Q24.out P14.out P24.out Q2.out.2 P2.out.2 (by have := HSM.out; omega) (by have := HSM.out; omega)).mono ?_
  rintro e w5 ⟨rfl, hb⟩
  have HB5 := Aside0.mk (HB4.out.trans (hb.mono HB4.out.size))
  clear hb
  rw [(sameMsg_iff _ _ _ _ _ _).2 ⟨rfl, rfl, rfl⟩]
  clear e0 h0 e1 h1 e2 h2 e3 h3 e4 h4 e5 h5 e6 h6 e7 h7 e8 h8 e9 h9 e10 h10 e11 h11 e12 h12
  go_wp2_with fail
  refine (awake_any _).mono ?_
  rintro e w6 ⟨rfl, hb⟩
  have HB6 := Aside0.mk (HB5.out.trans (hb.mono HB5.out.size))
  clear hb
  go_wp2_with fail
  go_ret
  exact ⟨rfl, HB6.out⟩
end Go.Proofs.Ytojnhklgfdfkcaa.WK
