/- SessionForgets: walked. -/
import Derived.Test.YtllgaikgpfionaaHSAwk
import Derived.Test.YtllgaikgpfionaaHShSes
import Derived.Test.YtllgaikgpfionaaPForg
import Derived.Test.YtllgaikgpfionaaWSQueue
import Derived.Deep.DeepMust
import Derived.Deep.QuietTactic
import Derived.BigQuiet
namespace Go.Proofs.Ytllgaikgpfionaa.SM
open Go.RowKit Go.Proofs.YtllgaikgpfionaaW.PrintWords Go.Proofs.YtllgaikgpfionaaW.PrintLast Go.Proofs.YtllgaikgpfionaaW.PrintMore Go.Proofs.Ytllgaikgpfionaa.HW Go.Proofs.Ytllgaikgpfionaa.MB Go.Proofs.Ytllgaikgpfionaa.Fn
attribute [local go_sem] max2_int min2_int max_two min_two max_three min_three max_four min_four   -- for this text's walks alone
theorem info3 : (Try.prog.info? 3).map (fun i => (i.zero, i.size, i.bytes)) = some (some (.int .i64 0), 1, 8) := by kernel_rfl
structure FG (W w : World) (B t m : Nat) (v vt : Value) (T : Tb) (ends : List Int) : Prop where
  be : Below B W w
  tb : IsT w B t m v T
  ro : Kd.R (Kd.int .i64) 3 w B (fun _ => True) vt ends
theorem FG.base {W w : World} {B t m : Nat} {v vt : Value} {T : Tb} {ends : List Int} (h : FG W w B t m v vt T ends) : B ≤ w.heap.size := Nat.le_of_lt (Nat.lt_of_le_of_lt h.tb.ht h.tb.lt)
theorem FG.step {W w w' : World} {B t m : Nat} {v v' vt : Value} {T T' : Tb} {ends : List Int} (h : FG W w B t m v vt T ends) (hf : Fr (TS t m v) w w') (ht : IsT w' B t m v' T') : FG W w' B t m v' vt T' ends :=
  ⟨h.be.trans (h.tb.fr_below hf), ht, Kd.R_mono (Kd.R_step (Kd.R_tight rfl h.ro) (fun k hk hlt => hf.block k hlt (fun hts => by
    obtain ⟨cells, hc⟩ := R_typed h.ro k hk.symm
    exact h.tb.other hc (by decide) (by decide) hts))) (fun _ _ => trivial)⟩
theorem FG.below {W w w' : World} {B t m : Nat} {v vt : Value} {T : Tb} {ends : List Int} (h : FG W w B t m v vt T ends) (hb : Below w.heap.size w w') : FG W w' B t m v vt T ends :=
  ⟨h.be.trans (hb.mono h.base), h.tb.below hb, Kd.R_below h.ro hb⟩
theorem FG.drewN {W w : World} {B t m : Nat} {v vt : Value} {T : Tb} {ends : List Int} (h : FG W w B t m v vt T ends) (n : Nat) : FG W (w.drewN n) B t m v vt T ends :=
  h.below ((Below.refl _ _).trans ⟨rfl, rfl, rfl, Nat.le_refl _, fun _ _ => rfl⟩)
theorem FG.grow {W w w1 : World} {B t m : Nat} {v vt vt1 : Value} {T : Tb} {ends ends1 : List Int} (h : FG W w B t m v vt T ends) (hg : w.grownBy w1 vt.ownBlock) (hb : Below B W w1) (ho : Kd.R (Kd.int .i64) 3 w1 B (fun _ => True) vt1 ends1) : FG W w1 B t m v vt1 T ends1 :=
  ⟨hb, h.tb.keep (Fr.grown hg (Fr.refl (fun k => vt.ownBlock = some k) w) (fun k hk => Or.inl hk)) (fun k hk e => by
    obtain ⟨cells, hc⟩ := R_typed h.ro k e
    exact h.tb.other hc (by decide) (by decide) hk), ho⟩
/-- The length of batch j. -/
def fN (l : List Int) (j : Nat) : Int := 1 + Go.bits .and .i64 (rd l (j : Int)) 15
theorem fN_bd (l : List Int) (j : Nat) : 1 ≤ fN l j ∧ fN l j ≤ 16 := by
  unfold fN
  obtain ⟨n, h1, h2⟩ := and_any (rd l (j : Int)) 15 (by decide)
  replace h1 : Go.bits .and .i64 (rd l (j : Int)) 15 = n := h1
  rw [h1]
  omega
set_option maxRecDepth 100000 in
set_option maxHeartbeats 16000000 in
theorem sforgets_walk (A1 : Option Addr) (c1 : Nat) (l1 : List Int) (at_ : Int) (wa : (Lit.int .i64 at_).wf = true) (W : World) (hr1 : Kd.C (Kd.int .i64) W A1 l1.length l1) (hc1 : l1.length ≤ c1) (ok1 : HR.shInts.ok l1) :
    Calls Try.prog 6 #[.slice A1 l1.length c1, .int .i64 at_] W fun e w' => e = .returned (.bool true) ∧ Below W.heap.size W w' := by
  have hu3 := Try.underlying30
  have hu4 := Try.underlying33
  have HA1 := Aside0.mk hr1
  obtain ⟨B, hB⟩ : ∃ B, W.heap.size = B := ⟨_, rfl⟩
  have HBG := Aside0.mk hB
  have hll : l1.length ≤ 9223372036854775807 := ok1.2
  clear hB hr1 ok1 hc1 wa
  by_cases hlen : 60 < l1.length
  · have hb0 : decide (60 < (l1.length : Int)) = true := by simp; omega
    have hb0' : decide (60 < l1.length) = true := by simp; omega
    clear hlen
    go_enter Try.func6, Try.ntmps6
    go_wp2_with fail
    refine (new_ok 64 W (by decide) (by decide)).mono ?_
    rintro e w1 ⟨t, m, rfl, h1, hb⟩
    have HB := Aside0.mk hb
    clear h1 hb
    go_wp2_with fail
    refine (awake_ok w1).mono ?_
    rintro e w9 ⟨rfl, hb⟩
    have HB9 := Aside0.mk (HB.out.trans (hb.mono HB.out.size))
    clear hb
    go_wp2_with fail
    go_ret
    exact ⟨rfl, HB9.out⟩
  · have hb0 : decide (60 < (l1.length : Int)) = false := by simp; omega
    have hb0' : decide (60 < l1.length) = false := by simp; omega
    have hl60 : l1.length ≤ 60 := by omega
    clear hlen
    obtain ⟨cut, hcut, hcut'⟩ := and_any at_ 1023 (by decide)
    replace hcut : Go.bits .and .i64 at_ 1023 = cut := hcut
    go_enter Try.func6, Try.ntmps6
    go_wp2_with fail
    refine (new_ok 64 W (by decide) (by decide)).mono ?_
    rintro e w1 ⟨t, m, rfl, h1, hb⟩
    rw [HBG.out] at h1 hb
    have HS : Aside0 (FG W w1 B t m (.slice none 0 0) (.slice none 0 0) (fT (fN l1) 0) (fE (fN l1) 0)) := ⟨⟨hb, h1, Kd.R_nil _ _ _ _ _⟩⟩
    clear h1 hb
    go_wp2_with fail
    go_loopw [7, 8, 9] (fun v7 v8 v9 wr => ∃ (i : Nat) (v : Value), v9 = .int .i64 i ∧ v7 = .int .i64 (fS (fN l1) i) ∧ i ≤ l1.length ∧ Aside0 (FG W wr B t m v v8 (fT (fN l1) i) (fE (fN l1) i))) (fun v7 v8 v9 _ => 60 - (intOf v9).toNat)
    case atStart => exact ⟨0, _, rfl, rfl, Nat.zero_le _, HS⟩
    case round =>
      clear HS
      obtain ⟨i, v, rfl, rfl, hi, HS⟩ := hrel
      by_cases hlt : i < l1.length
      · have hb1 : decide (i < l1.length) = true := by simp; omega
        obtain ⟨ad1, hA1, x0⟩ := Kd.at_int (Kd.C_below HA1.out (by rw [HBG.out]; exact HS.out.be)) (i : Int) (by omega) (by omega)
        subst hA1
        simp only [Int.toNat_natCast] at x0
        have hnb := fN_bd l1 i
        have hsb := fS_bd (fN_bd l1) i
        obtain ⟨n, hn⟩ : ∃ n, fN l1 i = n := ⟨_, rfl⟩
        obtain ⟨s, hs⟩ : ∃ s, fS (fN l1) i = s := ⟨_, rfl⟩
        have hn2 : Go.bits .and .i64 (rd l1 (i : Int)) 15 = n - 1 := by rw [← hn]; unfold fN; omega
        obtain ⟨a0, ha0⟩ : ∃ z, rd l1 (i : Int) = z := ⟨_, rfl⟩
        rw [ha0] at x0 hn2
        rw [hn] at hnb
        rw [hs] at hsb ⊢
        have hw1 : IntKind.i64.wrap (1 + (n - 1)) = n := by rw [IntWalk.i64_in _ (by omega)]; omega
        have hw2 : IntKind.i64.wrap (s + n) = s + n := IntWalk.i64_in _ (by omega)
        have q1 : (0 : Int) ≤ (i : Int) := by omega
        have q2 : (i : Int) < (l1.length : Int) := by omega
        have hi60 : i < 60 := by omega
        have HI := Aside0.mk hlt
        have HN := Aside0.mk hn
        have HSS := Aside0.mk hs
        have HNB := Aside0.mk hnb
        have HSB := Aside0.mk hsb
        clear hn hs ha0 hlt hnb hsb
        go_upto_region 11 with (fail)
        have hb := below_alloc (Below.refl wr.heap.size wr) (.cells #[.int .i64 1, .int .i64 i] 30)
        have k1 := heap_alloc_new wr (.cells #[.int .i64 1, .int .i64 i] 30)
        have HS2 := Aside0.mk (HS.out.below hb)
        obtain ⟨g, hg⟩ : ∃ g, wr.heap.size = g := ⟨_, rfl⟩
        rw [hg] at k1
        rw [hg]
        have KI := Aside0.mk k1
        clear hb k1 hg HS x0
        generalize wr.alloc (.cells #[.int .i64 1, .int .i64 i] 30) = w2 at HS2 KI ⊢
        clear wr
        go_wp2_with fail
        have hP := put_ok HS2.out.tb (by show (0 : Int) < 64; decide) (fB (fN l1) i) (fB_ok (fN_bd l1) (by omega)) 0 (f_put (fN l1) i)
        unfold fB Bat.val at hP
        simp only at hP
        rw [HN.out, HSS.out] at hP
        refine hP.mono ?_
        rintro e w3 ⟨rfl, h3, hf⟩
        have HS3 := Aside0.mk (HS2.out.step hf h3)
        have KI3 := Aside0.mk (hf.blk KI.out (HS2.out.tb.other KI.out (by decide) (by decide)))
        clear h3 hf HS2 KI hP
        have i0 : w3.cell? ⟨g, 0, none⟩ = some (.int .i64 1) := (blk_cell KI3.out 0).trans rfl
        have i1 : w3.cell? ⟨g, 1, none⟩ = some (.int .i64 i) := (blk_cell KI3.out 1).trans rfl
        go_wp2_with fail
        refine (wait_ok HS3.out.tb (by show (0 : Int) < 64; decide) (by show (fW i).length ≤ _; rw [fW_len]; omega) 1 (i : Int) 100 0 (f_wait (fN l1) i hi60)).mono ?_
        rintro e w4 ⟨v4, rfl, h4, hf⟩
        have HS4 := Aside0.mk (HS3.out.step hf h4)
        have HE := Aside0.mk (show fE (fN l1) i ++ [s + n] = fE (fN l1) (i + 1) from by rw [fE_succ, ← HSS.out, ← HN.out]; rfl)
        have HLN := Aside0.mk (show (fE (fN l1) i).length ≤ 60 from by rw [fE_len]; omega)
        clear h4 hf HS3 KI3 i0 i1
        go_wp2_with ((with_reducible refine gate_builtin (b := .append) (xs := #[.tmp 71, .tmp 73]) rfl ?_); at_builtin; go_must (refine Kd.R_append (Kd.int .i64) (w0 := W) B rfl (.tmp 71) (.tmp 73) 23 3 (.int .i64 0) 8 rfl Try.underlying23 info3 rfl (by decide) (by decide) u8 (fE (fN l1) i) (s + n) [.int .i64 (s + n)] (fun _ => True) (fun _ => False) rfl (by first | (go_simp; done) | (go_simp; rfl)) ?aP (fun _ hk => hk.elim) ?aF ?aO ?aB ?aS ?aL ?_); (case aP => exact rfl); (case aB => exact HS4.out.be); (case aF => exact (fun _ _ => trivial)); (case aO => exact HS4.out.ro); (case aS => exact HS4.out.base); (case aL => have := HLN.out; omega); intro v9 w9 ho hb hg hat; rw [HE.out] at ho; have HS9 := Aside0.mk (HS4.out.grow hg hb ho); clear ho hb hg hat)
        go_roundw
        case rel => exact ⟨i + 1, _, by simp, by rw [← HSS.out, ← HN.out]; rfl, HI.out, HS9⟩
        case measure => simp [intOf]; omega
      · have hie : i = l1.length := by omega
        subst hie
        have hb1 : decide (l1.length < l1.length) = false := by simp
        clear hlt HA1
        obtain ⟨n, hn⟩ : ∃ n, l1.length = n := ⟨_, rfl⟩
        rw [hn] at HS hl60 hb1
        obtain ⟨st, hst1, hst2, hst3⟩ := stay_ex (fun j => (fN_bd l1 j).1) (cut : Int) n
        have HST := Aside0.mk (And.intro hst1 (And.intro hst2 hst3))
        obtain ⟨A8, c8, e8⟩ := Kd.R_slice HS.out.ro
        subst e8
        have HFL := Aside0.mk (fE_len (fN l1) n)
        obtain ⟨E, hE⟩ : ∃ E, fE (fN l1) n = E := ⟨_, rfl⟩
        rw [hE] at HS HFL
        have HEE := Aside0.mk hE
        rw [hE, HFL.out]
        rw [HFL.out] at HS
        clear hst1 hst2 hst3 hE
        go_wp2_with fail
        refine (cut_ok HS.out.tb (by show (0 : Int) < 64; decide) (by show (fW n).length ≤ _; rw [fW_len]; omega) (fL_ok (fN_bd l1) hl60) (fL_apart (fN l1) n) (cut : Int) 960 (by omega) (by decide) (fL_end (fN_bd l1) hl60)).mono ?_
        rintro e w3 ⟨rfl, v3, e3, he3, h3, hf⟩
        have h3' : IsT w3 B t m v3 ⟨64, fL (fN l1) st, e3, fW st⟩ := by
          have hx : (fT (fN l1) n).l.filter (fun p => !big (cut : Int) p) = fL (fN l1) st := HST.out.2.1
          rw [hx] at h3
          have hy : (fT (fN l1) n).ws.filter (fun x => !gone (fL (fN l1) st) x) = fW st := fW_stay (fN l1) st n HST.out.1
          rw [hy] at h3
          exact h3
        have HS3 := Aside0.mk (HS.out.step hf h3')
        have HE3 := Aside0.mk he3
        clear h3 h3' hf HS he3
        go_wp2_with fail
        go_loopw [13, 14] (fun v13 v14 wr => ∃ j : Nat, v14 = .int .i64 j ∧ v13 = .int .i64 ((min j st : Nat) : Int) ∧ j ≤ n ∧ Aside0 (FG W wr B t m v3 (.slice A8 n c8) ⟨64, fL (fN l1) st, e3, fW st⟩ E)) (fun v13 v14 _ => 60 - (intOf v14).toNat)
        case atStart => exact ⟨0, rfl, by rw [Nat.zero_min]; rfl, Nat.zero_le _, HS3⟩
        case round =>
          clear HS3
          obtain ⟨j, rfl, rfl, hj, HS⟩ := hrel
          by_cases hlt : j < n
          · have hb4 : decide (j < n) = true := by simp; omega
            have hq1 : (0 : Int) ≤ (j : Int) := by omega
            have hq2 : (j : Int) < (n : Int) := by omega
            have HJ := Aside0.mk hlt
            have hjn : j ≤ 60 := by omega
            obtain ⟨ad3, hA, h0⟩ := Kd.at_int (Kd.R_reads' HS.out.ro).2.2 (j : Int) (by omega) (by rw [HFL.out]; omega)
            have hrd : rd E (j : Int) = fS (fN l1) j + fN l1 j := by rw [← HEE.out, fE_rd _ n j hlt]; rfl
            have hsj := HST.out.2.2 j hlt
            have hbd := fS_bd (fN_bd l1) j
            have hnb := fN_bd l1 j
            obtain ⟨q0, hq0⟩ : ∃ q, fS (fN l1) j = q := ⟨_, rfl⟩
            obtain ⟨q1, hq1'⟩ : ∃ q, fN l1 j = q := ⟨_, rfl⟩
            rw [hq0, hq1'] at hrd
            rw [hq0] at hbd
            rw [hq1'] at hnb
            have hsj' : q0 + q1 ≤ (cut : Int) ↔ j < st := by rw [← hq0, ← hq1']; exact hsj
            rw [hrd] at h0
            simp only [Int.toNat_natCast] at h0
            subst hA
            have HSJ := Aside0.mk hsj'
            have HQB := Aside0.mk (show fB (fN l1) j = ⟨q0, q1, 0, 1, j⟩ from by unfold fB; rw [hq0, hq1'])
            have hww : IntKind.i64.wrap (q0 + q1) = q0 + q1 := IntWalk.i64_in _ (by omega)
            have HRD := Aside0.mk hrd
            clear hlt hrd hsj hsj' hq0 hq1'
            have hff := f_find (fN l1) ⟨64, fL (fN l1) st, e3, fW st⟩ st j rfl
            by_cases hjs : j < st
            · rw [if_pos hjs, HQB.out] at hff
              have HFF := Aside0.mk hff
              have hd1 : decide (q0 + q1 ≤ (cut : Int)) = true := by simp; exact HSJ.out.2 hjs
              have hmn : (min j st : Nat) = j := by omega
              have hm2 : (min (j + 1) st : Nat) = j + 1 := by omega
              have HM2 := Aside0.mk hm2
              rw [hmn]
              clear hff hjs hmn hm2 h0
              go_wp2_with fail
              refine (find_ok HS.out.tb (by show (0 : Int) < 64; decide) 1 (j : Int) _ _ HFF.out).mono ?_
              rintro e w5 ⟨rfl, hb⟩
              have HS5 := Aside0.mk (HS.out.below hb)
              clear hb HS
              unfold Bat.val
              simp only
              go_upto_region 23 with (fail)
              have hb := below_alloc (Below.refl w5.heap.size w5) (.cells #[.int .i64 q0, .int .i64 q1, .int .i64 0, .int .i64 1, .int .i64 j, .slice none 0 0] 33)
              have k1 := heap_alloc_new w5 (.cells #[.int .i64 q0, .int .i64 q1, .int .i64 0, .int .i64 1, .int .i64 j, .slice none 0 0] 33)
              have HS6 := Aside0.mk (HS5.out.below hb)
              obtain ⟨g, hg⟩ : ∃ g, w5.heap.size = g := ⟨_, rfl⟩
              rw [hg] at k1
              rw [hg]
              clear hb hg HS5
              generalize w5.alloc (.cells #[.int .i64 q0, .int .i64 q1, .int .i64 0, .int .i64 1, .int .i64 j, .slice none 0 0] 33) = w6 at HS6 k1 ⊢
              obtain ⟨ad4, hA4, h0⟩ := Kd.at_int (Kd.R_reads' HS6.out.ro).2.2 (j : Int) (by omega) (by rw [HFL.out]; omega)
              injection hA4 with hA4
              subst hA4
              rw [HRD.out] at h0
              simp only [Int.toNat_natCast] at h0
              have d0 : w6.cell? ⟨g, 0, none⟩ = some (.int .i64 q0) := (blk_cell k1 0).trans rfl
              have d1 : w6.cell? ⟨g, 1, none⟩ = some (.int .i64 q1) := (blk_cell k1 1).trans rfl
              have e0 : (q0 + q1 != q0 + q1) = false := by simp
              clear k1
              go_quiet (fail)
              go_wp2_with fail
              go_roundw
              case rel => exact ⟨j + 1, by simp, by rw [HM2.out]; simp, HJ.out, ⟨HS6.out.drewN _⟩⟩
              case measure => simp [intOf]; omega
            · rw [if_neg hjs] at hff
              have HFF := Aside0.mk hff
              have hd1 : decide (q0 + q1 ≤ (cut : Int)) = false := by simp; have := HSJ.out; omega
              have hmn : (min j st : Nat) = st := by omega
              have hm2 : (min (j + 1) st : Nat) = st := by omega
              have HM2 := Aside0.mk hm2
              rw [hmn]
              clear hff hjs hmn hm2 h0
              go_wp2_with fail
              refine (find_ok HS.out.tb (by show (0 : Int) < 64; decide) 1 (j : Int) _ _ HFF.out).mono ?_
              rintro e w5 ⟨rfl, hb⟩
              have HS5 := Aside0.mk (HS.out.below hb)
              clear hb HS
              unfold Bat.val Bat.zero
              simp only
              go_upto_region 23 with (fail)
              have hb := below_alloc (Below.refl w5.heap.size w5) (.cells #[.int .i64 0, .int .i64 0, .int .i64 0, .int .i64 0, .int .i64 0, .slice none 0 0] 33)
              have HS6 := Aside0.mk (HS5.out.below hb)
              clear hb HS5
              generalize w5.alloc (.cells #[.int .i64 0, .int .i64 0, .int .i64 0, .int .i64 0, .int .i64 0, .slice none 0 0] 33) = w6 at HS6 ⊢
              obtain ⟨ad4, hA4, h0⟩ := Kd.at_int (Kd.R_reads' HS6.out.ro).2.2 (j : Int) (by omega) (by rw [HFL.out]; omega)
              injection hA4 with hA4
              subst hA4
              rw [HRD.out] at h0
              simp only [Int.toNat_natCast] at h0
              go_quiet (fail)
              go_wp2_with fail
              go_roundw
              case rel => exact ⟨j + 1, by simp, by rw [HM2.out], HJ.out, ⟨HS6.out.drewN _⟩⟩
              case measure => simp [intOf]; omega
          · have hje : j = n := by omega
            subst hje
            have hb4 : decide (j < j) = false := by simp
            have hmn : (min j st : Nat) = st := by have := HST.out.1; omega
            rw [hmn]
            have hW := waiting_ok HS.out.tb (show (0 : Int) < 64 by decide)
            rw [show ((fW st).length : Int) = (st : Int) from by rw [fW_len]] at hW
            have HW := Aside0.mk hW
            have hst64 : st ≤ 60 := by have := HST.out.1; omega
            have hz : ((st : Int) != (st : Int)) = false := by simp
            clear hlt hmn hW
            by_cases hsj : st < j
            · have hb5 : decide (st < j) = true := by simp; omega
              obtain ⟨T9, hT9⟩ := f_last (fN l1) ⟨64, fL (fN l1) st, e3, fW st⟩ st rfl HE3.out
              have HT9 := Aside0.mk hT9
              clear hsj hT9
              go_wp2_with fail
              refine HW.out.mono ?_
              rintro e w6 ⟨rfl, rfl⟩
              go_wp2_with fail
              refine (put_ok HS.out.tb (by show (0 : Int) < 64; decide) ⟨5000, 1, 0, 1, (st : Int)⟩ (by unfold headOk; simp only; omega) 0 HT9.out).mono ?_
              rintro e w7 ⟨rfl, h7, hf⟩
              have HS7 := Aside0.mk (HS.out.step hf h7)
              clear h7 hf HS HW
              go_wp2_with fail
              refine (awake_ok w7).mono ?_
              rintro e w9 ⟨rfl, hb⟩
              have HB9 := Aside0.mk (HS7.out.be.trans (hb.mono (by have := HS7.out.be.size; have := HBG.out; omega)))
              clear hb HS7
              go_wp2_with fail
              go_ret
              exact ⟨rfl, by rw [HBG.out]; exact HB9.out⟩
            · have hb5 : decide (st < j) = false := by simp; omega
              clear hsj
              go_wp2_with fail
              refine HW.out.mono ?_
              rintro e w6 ⟨rfl, rfl⟩
              go_wp2_with fail
              refine (awake_ok wr).mono ?_
              rintro e w9 ⟨rfl, hb⟩
              have HB9 := Aside0.mk (HS.out.be.trans (hb.mono (by have := HS.out.be.size; have := HBG.out; omega)))
              clear hb HS HW
              go_wp2_with fail
              go_ret
              exact ⟨rfl, by rw [HBG.out]; exact HB9.out⟩
end Go.Proofs.Ytllgaikgpfionaa.SM
