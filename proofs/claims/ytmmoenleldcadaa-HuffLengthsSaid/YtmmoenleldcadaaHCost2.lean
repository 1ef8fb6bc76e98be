/- huff.Cost: walked. -/
import Derived.Test.YtmmoenleldcadaaHCost
namespace Go.Proofs.Ytmmoenleldcadaa.HF
open Go.RowKit Go.Proofs.YtmmoenleldcadaaW.PrintWords Go.Proofs.YtmmoenleldcadaaW.PrintLast Go.Proofs.YtmmoenleldcadaaW.PrintMore Go.Proofs.Ytmmoenleldcadaa.HW Go.Proofs.Ytmmoenleldcadaa.MB Go.Proofs.Ytmmoenleldcadaa.Fn
attribute [local go_sem] max2_int min2_int max_two min_two max_three min_three max_four min_four   -- for this text's walks alone
def costG : List Int → List Int → Int → Int × Int
  | f :: fs, l :: ls, s => if 0 < f ∧ l = 0 then (0, 30) else costG fs ls (s + f * l)
  | _, _, s => (s, 0)
def costL (freqs lens : List Int) : Int × Int :=
  if freqs.length = lens.length then (if countedL freqs = true then (if okL lens = true then costG freqs lens 0 else (0, 30)) else (0, 1)) else (0, 1)
theorem costG_drop (freqs lens : List Int) (i : Nat) (h1 : i < freqs.length) (h2 : i < lens.length) (s : Int) :
    costG (freqs.drop i) (lens.drop i) s = if 0 < rd freqs (i : Int) ∧ rd lens (i : Int) = 0 then (0, 30) else costG (freqs.drop (i + 1)) (lens.drop (i + 1)) (s + rd freqs (i : Int) * rd lens (i : Int)) := by
  rw [List.drop_eq_getElem_cons h1, List.drop_eq_getElem_cons h2, rd_get _ i h1, rd_get _ i h2]
  rfl
theorem mul_bd (f l : Int) (h1 : 0 ≤ f) (h2 : f ≤ 1099511627776) (h3 : 0 ≤ l) (h4 : l ≤ 15) : 0 ≤ f * l ∧ f * l ≤ 16492674416640 := by
  refine ⟨Int.mul_nonneg h1 h3, ?_⟩
  have := Int.mul_le_mul h2 h4 h3 (by decide)
  omega
/-- What Cost tells. -/
def EQ (r : Int × Int) (W : World) (e : Ending) (w' : World) : Prop := e = .returned (.tuple #[.int .i64 r.1, .int .i64 r.2]) ∧ Below W.heap.size W w'
set_option maxRecDepth 100000 in
set_option maxHeartbeats 8000000 in
theorem cost_any (A : Option Addr) (c : Nat) (freqs : List Int) (A2 : Option Addr) (c2 : Nat) (lens : List Int) (W : World) (hr : Kd.C (Kd.int .i64) W A freqs.length freqs) (hn : freqs.length ≤ 9223372036854775807) (hr2 : Kd.C (Kd.int .i64) W A2 lens.length lens) (hc2 : lens.length ≤ c2) : Calls Try.prog 21 #[.slice A freqs.length c, .slice A2 lens.length c2] W (EQ (costL freqs lens) W) := by
  have hu := Try.underlying50
  have HR := Aside0.mk hr
  have HR2 := Aside0.mk hr2
  have HD := Aside0.mk (counted_ok A c freqs W hr hn)
  have HC := Aside0.mk (counts_any A2 c2 lens W hr2 hc2)
  clear hr hr2 hc2 hn
  by_cases hlen : freqs.length = lens.length
  · have hb0 : (((freqs.length : Int)) != ((lens.length : Int))) = false := by simp; omega
    have hb1 : (freqs.length != lens.length) = false := by simp; omega
    have HLN := Aside0.mk hlen
    clear hlen
    go_enter Try.func21, Try.ntmps21
    go_wp2_with fail
    refine HD.out.mono ?_
    rintro e w1 ⟨rfl, rfl⟩
    clear HD
    cases hcd : countedL freqs with
    | false =>
      have HO := Aside0.mk (show costL freqs lens = (0, 1) from by unfold costL; rw [if_pos HLN.out, hcd]; rfl)
      clear hcd
      go_wp2_with fail
      go_ret2
      exact ⟨(by rw [HO.out]; rfl), Below.refl _ _⟩
    | true =>
      have HCD := Aside0.mk hcd
      clear hcd
      go_wp2_with fail
      refine HC.out.mono ?_
      rintro e w1 ⟨f, rfl, hf, hb⟩
      have HB := Aside0.mk hb
      clear hf hb HC
      cases hok : okL lens with
      | false =>
        have HO := Aside0.mk (show costL freqs lens = (0, 30) from by unfold costL; rw [if_pos HLN.out, if_pos HCD.out, hok]; rfl)
        clear hok
        go_wp2_with ((with_reducible refine gate_store (t := 50) (p := 6) (v := .tmp 24) rfl ?_); go_must (refine store_all rfl rfl rfl w1.heap.size (arrV (fun _ => 0)) (arrV f) 50 (by rfl) (by rfl) (IsArr.new w1) ((arrV_size _).trans (arrV_size _).symm) (by rw [arrV_size]; kernel_rfl) (arrV_one _) ?_); intro w9 hr1 hf6; have HF6 := Aside0.mk hf6; clear hr1 hf6)
        go_ret2
        exact ⟨(by rw [HO.out]; rfl), HB.out.trans (((below_alloc (Below.refl w1.heap.size w1) _).trans (HF6.out.below (by show _ ≤ (Array.push _ _).size; rw [Array.size_push]; omega) (fun k hk => by rw [hk]; exact Nat.le_refl _))).mono HB.out.size)⟩
      | true =>
        have HO := Aside0.mk hok
        have HCL := Aside0.mk (show costL freqs lens = costG freqs lens 0 from by unfold costL; rw [if_pos HLN.out, if_pos HCD.out, if_pos hok])
        have hl288 := (okL_len hok).1
        clear hok
        go_upto_region 4 with ((with_reducible refine gate_store (t := 50) (p := 6) (v := .tmp 24) rfl ?_); go_must (refine store_all rfl rfl rfl w1.heap.size (arrV (fun _ => 0)) (arrV f) 50 (by rfl) (by rfl) (IsArr.new w1) ((arrV_size _).trans (arrV_size _).symm) (by rw [arrV_size]; kernel_rfl) (arrV_one _) ?_); intro w9 hr1 hf6; have HF6 := Aside0.mk hf6; clear hr1 hf6)
        have HB9 := Aside0.mk (HB.out.trans (((below_alloc (Below.refl w1.heap.size w1) _).trans (HF6.out.below (by show _ ≤ (Array.push _ _).size; rw [Array.size_push]; omega) (fun k hk => by rw [hk]; exact Nat.le_refl _))).mono HB.out.size))
        have hfl : freqs.length = lens.length := HLN.out
        have hr1 := Kd.C_below HR.out HB9.out
        have hr2 := Kd.C_below HR2.out HB9.out
        obtain ⟨n, hnn⟩ : ∃ n, lens.length = n := ⟨_, rfl⟩
        rw [hnn] at hl288 hfl hr2
        rw [hfl] at hr1
        have HRA := Aside0.mk hr1
        have HRB := Aside0.mk hr2
        have HNN := Aside0.mk (And.intro hfl hnn)
        rw [hfl, hnn]
        clear HR HR2 hr1 hr2 HLN hfl hnn hb0 hb1 HF6 HB
        go_wp2_with fail
        go_loopw [8, 30] (fun v8 v30 wr => ∃ (i : Nat) (s : Int), v30 = .int .i64 i ∧ v8 = .int .i64 s ∧ i ≤ n ∧ 0 ≤ s ∧ s ≤ 16492674416640 * (i : Int) ∧ Aside0 (w9 = wr) ∧ Aside0 (costG freqs lens 0 = costG (freqs.drop i) (lens.drop i) s)) (fun v8 v30 _ => n - (intOf v30).toNat)
        case atStart => exact ⟨0, 0, rfl, rfl, Nat.zero_le _, Int.le_refl _, by omega, ⟨rfl⟩, ⟨rfl⟩⟩
        case round =>
          obtain ⟨i, s, rfl, rfl, hi, hs0, hs1, HWE, HJ⟩ := hrel
          have hwe := HWE.out
          subst hwe
          by_cases hlt : i < n
          · have hb1 : decide ((i : Int) < (n : Int)) = true := by simp; omega
            obtain ⟨ad1, hA1, x0⟩ := Kd.at_int HRA.out (i : Int) (by omega) (by omega)
            subst hA1
            obtain ⟨ad2, hA2, y0⟩ := Kd.at_int HRB.out (i : Int) (by omega) (by omega)
            subst hA2
            simp only [Int.toNat_natCast] at x0 y0
            have hfi : i < freqs.length := by rw [HNN.out.1]; exact hlt
            have hli : i < lens.length := by rw [HNN.out.2]; exact hlt
            have hd := costG_drop freqs lens i hfi hli s
            have hfr : freqOk (rd freqs (i : Int)) = true := by rw [rd_get _ i hfi]; exact List.all_eq_true.1 HCD.out _ (List.getElem_mem _)
            have hfr2 := of_decide_eq_true hfr
            have hlr := (okL_len HO.out).2 (rd lens (i : Int)) (by rw [rd_get _ i hli]; exact List.getElem_mem _)
            obtain ⟨x, hx⟩ : ∃ z, rd freqs (i : Int) = z := ⟨_, rfl⟩
            obtain ⟨y, hy⟩ : ∃ z, rd lens (i : Int) = z := ⟨_, rfl⟩
            rw [hx] at x0 hd hfr2
            rw [hy] at y0 hd hlr
            have hmb := mul_bd x y hfr2.1 hfr2.2 hlr.1 hlr.2
            obtain ⟨p, hp⟩ : ∃ p, x * y = p := ⟨_, rfl⟩
            rw [hp] at hmb hd
            have hw1 : IntKind.i64.wrap (x * y) = p := by rw [hp]; exact IntWalk.i64_in _ (by omega)
            have hw2 : IntKind.i64.wrap (s + p) = s + p := IntWalk.i64_in _ (by omega)
            have hw3 : wrap64 (x * y) = p := by rw [hp]; exact wrap64_id p (by omega) (by omega)
            have q1 : (0 : Int) ≤ (i : Int) := by omega
            have q2 : (i : Int) < (n : Int) := by omega
            have HD := Aside0.mk hd
            have HI := Aside0.mk hlt
            have HMB := Aside0.mk hmb
            have HSS := Aside0.mk (And.intro hs0 hs1)
            have HXP := Aside0.mk hfr2
            have HYP := Aside0.mk hlr
            clear hd hfr hx hy hp hfi hli hlt
            by_cases hbad : 0 < x ∧ y = 0
            · obtain ⟨hb2, rfl⟩ := hbad
              have hb3 : decide (0 < x) = true := by simpa using hb2
              have HE := Aside0.mk (HJ.out.trans (HD.out.trans (if_pos ⟨hb2, rfl⟩)))
              clear hb2
              go_wp2_with fail
              go_ret2
              exact ⟨(by rw [HCL.out, HE.out]; rfl), HB9.out⟩
            · have HE := Aside0.mk (HJ.out.trans (HD.out.trans (if_neg hbad)))
              by_cases hb2 : 0 < x
              · have hb3 : decide (0 < x) = true := by simpa using hb2
                have hb4 : (y == 0) = false := by simp; omega
                clear hb2 hbad
                go_wp2_with fail
                go_roundw
                case rel => exact ⟨i + 1, s + p, by simp, rfl, HI.out, by have := HMB.out; have := HSS.out; omega, by have := HMB.out; have := HSS.out; omega, ⟨by first | rfl | trivial⟩, HE⟩
                case measure => simp [intOf]; have := HI.out; omega
              · have hb3 : decide (0 < x) = false := by simpa using hb2
                clear hb2 hbad
                go_wp2_with fail
                go_roundw
                case rel => exact ⟨i + 1, s + p, by simp, rfl, HI.out, by have := HMB.out; have := HSS.out; omega, by have := HMB.out; have := HSS.out; omega, ⟨by first | rfl | trivial⟩, HE⟩
                case measure => simp [intOf]; have := HI.out; omega
          · have hie : i = n := by omega
            subst hie
            have hb1 : decide ((i : Int) < (i : Int)) = false := by simp
            have HE := Aside0.mk (show costG freqs lens 0 = (s, 0) from by
              rw [HJ.out, List.drop_eq_nil_of_le (by rw [HNN.out.1]; exact Nat.le_refl _)]
              rfl)
            clear hlt
            go_wp2_with fail
            go_ret2
            exact ⟨(by rw [HCL.out, HE.out]; rfl), HB9.out⟩
  · have hb0 : (((freqs.length : Int)) != ((lens.length : Int))) = true := by simp; omega
    have hb1 : (freqs.length != lens.length) = true := by simp; omega
    have HO := Aside0.mk (show costL freqs lens = (0, 1) from by unfold costL; rw [if_neg hlen])
    clear hlen
    go_enter Try.func21, Try.ntmps21
    go_wp2_with fail
    go_ret2
    exact ⟨(by rw [HO.out]; rfl), Below.refl _ _⟩
end Go.Proofs.Ytmmoenleldcadaa.HF
