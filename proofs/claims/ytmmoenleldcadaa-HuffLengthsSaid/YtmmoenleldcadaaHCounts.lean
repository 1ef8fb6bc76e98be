/- huff.counts: walked. -/
import Derived.Test.YtmmoenleldcadaaHArr
import Derived.Test.YtmmoenleldcadaaFnx0
import Derived.Deep.DeepMust
import Derived.Deep.RegionWith
namespace Go.Proofs.Ytmmoenleldcadaa.HF
open Go.RowKit Go.Proofs.YtmmoenleldcadaaW.PrintWords Go.Proofs.YtmmoenleldcadaaW.PrintLast Go.Proofs.YtmmoenleldcadaaW.PrintMore Go.Proofs.Ytmmoenleldcadaa.HW Go.Proofs.Ytmmoenleldcadaa.MB
attribute [local go_sem] max2_int min2_int max_two min_two max_three min_three max_four min_four   -- for this text's walks alone
def cA (lens : List Int) (k : Nat) : Int := if k = 0 then rooms (fun l => cntL lens l) 15 else cntL lens k
/-- What counts tells. -/
def CQ (lens : List Int) (W : World) (e : Ending) (w' : World) : Prop := ∃ f, e = .returned (.tuple #[.agg (arrV f), .bool (okL lens)]) ∧ (okL lens = true → ∀ k, k < 16 → f k = cA lens k) ∧ Below W.heap.size W w'
theorem okL_long {lens : List Int} (h : 288 < lens.length) : okL lens = false := by unfold okL; simp; omega
theorem okL_bad {lens : List Int} (i : Nat) (hi : i < lens.length) (h : lenOk lens[i] = false) : okL lens = false := by
  unfold okL
  have h1 : lens.all lenOk = false := List.all_eq_false.2 ⟨lens[i], List.getElem_mem hi, by rw [h]; decide⟩
  rw [h1]
  simp
theorem okL_room {lens : List Int} (j : Nat) (hj : j ≤ 15) (h : rooms (fun l => cntL lens l) j < 0) : okL lens = false := by
  unfold okL
  have := rooms_neg (fun l => (cntL_nn lens l).1) h 15 hj
  rw [decide_eq_false (p := 0 ≤ rooms _ 15) (by omega)]
  simp
theorem okL_all {lens : List Int} (h1 : lens.length ≤ 288) (h2 : ∀ x ∈ lens, lenOk x = true) (h3 : 0 ≤ rooms (fun l => cntL lens l) 15) : okL lens = true := by
  unfold okL
  rw [decide_eq_true h1, decide_eq_true h3, List.all_eq_true.2 h2]
  rfl
theorem take_rd (xs : List Int) (i : Nat) (h : i < xs.length) : xs.take (i + 1) = xs.take i ++ [rd xs (i : Int)] := by
  rw [List.take_add_one, List.getElem?_eq_getElem h]
  have : rd xs (i : Int) = xs[i] := by unfold rd; rw [Int.toNat_natCast, List.getD_eq_getElem?_getD, List.getElem?_eq_getElem h]; rfl
  rw [this]; rfl
theorem rd_get (xs : List Int) (i : Nat) (h : i < xs.length) : rd xs (i : Int) = xs[i] := by unfold rd; rw [Int.toNat_natCast, List.getD_eq_getElem?_getD, List.getElem?_eq_getElem h]; rfl
theorem cA_last (lens : List Int) (r : Int) (h : rooms (fun l => cntL lens l) 15 = r) (k : Nat) : upd (upd (fun l => cntL lens l) 0 0) 0 r k = cA lens k := by
  unfold upd cA
  by_cases h0 : k = 0
  · rw [if_pos h0, if_pos h0, h]
  · rw [if_neg h0, if_neg h0, if_neg h0]
def zA : Array Value := #[.int .i64 0, .int .i64 0, .int .i64 0, .int .i64 0, .int .i64 0, .int .i64 0, .int .i64 0, .int .i64 0, .int .i64 0, .int .i64 0, .int .i64 0, .int .i64 0, .int .i64 0, .int .i64 0, .int .i64 0, .int .i64 0]
/-- The state of counts. -/
structure CS (W w : World) (g : Nat) (f : Nat → Int) : Prop where
  be : Below W.heap.size W w
  gg : W.heap.size = g
  re : IsArr w g (fun _ => 0)
  ar : IsArr w (g + 1) f
theorem CS.set {W w : World} {g : Nat} {f : Nat → Int} (h : CS W w g f) (k : Nat) (v : Int) : CS W (w.setCell ⟨g + 1, k, none⟩ (.int .i64 v)) g (upd f k v) :=
  ⟨h.be.setCell (by show W.heap.size ≤ g + 1; rw [h.gg]; omega) _, h.gg, (Below.heap_setCell _ _ _ _ (by show g ≠ g + 1; omega)).trans h.re, h.ar.set k v⟩
theorem CS.congr {W w : World} {g : Nat} {f f' : Nat → Int} (h : CS W w g f) (e : ∀ k, k < 16 → f k = f' k) : CS W w g f' := ⟨h.be, h.gg, h.re, h.ar.congr e⟩
set_option maxRecDepth 100000 in
set_option maxHeartbeats 8000000 in
theorem counts_any (A : Option Addr) (c : Nat) (lens : List Int) (W : World) (hr : Kd.C (Kd.int .i64) W A lens.length lens) (_hc : lens.length ≤ c) : Calls Try.prog 44 #[.slice A lens.length c] W (CQ lens W) := by
  have hu := Try.underlying50
  have HR := Aside0.mk hr
  clear hr _hc
  go_enter Try.func44, Try.ntmps44
  go_upto_region 2 with (fail)
  have e1 : (W.alloc (.cells #[.int .i64 0, .int .i64 0, .int .i64 0, .int .i64 0, .int .i64 0, .int .i64 0, .int .i64 0, .int .i64 0, .int .i64 0, .int .i64 0, .int .i64 0, .int .i64 0, .int .i64 0, .int .i64 0, .int .i64 0, .int .i64 0] 50)).heap.size = W.heap.size + 1 := Array.size_push _
  have k0 := IsArr.new W
  have hb := below_alloc (Below.refl (W.alloc (.cells #[.int .i64 0, .int .i64 0, .int .i64 0, .int .i64 0, .int .i64 0, .int .i64 0, .int .i64 0, .int .i64 0, .int .i64 0, .int .i64 0, .int .i64 0, .int .i64 0, .int .i64 0, .int .i64 0, .int .i64 0, .int .i64 0] 50)).heap.size (W.alloc (.cells #[.int .i64 0, .int .i64 0, .int .i64 0, .int .i64 0, .int .i64 0, .int .i64 0, .int .i64 0, .int .i64 0, .int .i64 0, .int .i64 0, .int .i64 0, .int .i64 0, .int .i64 0, .int .i64 0, .int .i64 0, .int .i64 0] 50))) (.cells #[.int .i64 0, .int .i64 0, .int .i64 0, .int .i64 0, .int .i64 0, .int .i64 0, .int .i64 0, .int .i64 0, .int .i64 0, .int .i64 0, .int .i64 0, .int .i64 0, .int .i64 0, .int .i64 0, .int .i64 0, .int .i64 0] 50)
  have k1 := IsArr.new (W.alloc (.cells #[.int .i64 0, .int .i64 0, .int .i64 0, .int .i64 0, .int .i64 0, .int .i64 0, .int .i64 0, .int .i64 0, .int .i64 0, .int .i64 0, .int .i64 0, .int .i64 0, .int .i64 0, .int .i64 0, .int .i64 0, .int .i64 0] 50))
  rw [e1] at k1
  have k0' := k0.below hb
  have hB := (below_alloc (Below.refl W.heap.size W) (.cells #[.int .i64 0, .int .i64 0, .int .i64 0, .int .i64 0, .int .i64 0, .int .i64 0, .int .i64 0, .int .i64 0, .int .i64 0, .int .i64 0, .int .i64 0, .int .i64 0, .int .i64 0, .int .i64 0, .int .i64 0, .int .i64 0] 50)).trans (hb.mono (by rw [e1]; omega))
  obtain ⟨g, hg⟩ : ∃ g, W.heap.size = g := ⟨_, rfl⟩
  rw [hg] at k0' k1 hB
  have HS := Aside0.mk (CS.mk (f := fun _ => 0) (by rw [hg]; exact hB) hg k0' k1)
  rw [hg]
  clear e1 k0 hb k1 k0' hB hg
  generalize (W.alloc (.cells #[.int .i64 0, .int .i64 0, .int .i64 0, .int .i64 0, .int .i64 0, .int .i64 0, .int .i64 0, .int .i64 0, .int .i64 0, .int .i64 0, .int .i64 0, .int .i64 0, .int .i64 0, .int .i64 0, .int .i64 0, .int .i64 0] 50)).alloc (.cells #[.int .i64 0, .int .i64 0, .int .i64 0, .int .i64 0, .int .i64 0, .int .i64 0, .int .i64 0, .int .i64 0, .int .i64 0, .int .i64 0, .int .i64 0, .int .i64 0, .int .i64 0, .int .i64 0, .int .i64 0, .int .i64 0] 50) = w1 at HS ⊢
  by_cases hlen : 288 < lens.length
  · have hb0 : decide (288 < (lens.length : Int)) = true := by simp; omega
    have HO := Aside0.mk (okL_long hlen)
    clear hlen
    go_wp2_with (first | (refine load_all rfl rfl (g + 1) rfl 50 (arrV (fun _ => 0)) _ HS.out.ar Try.underlying50 rfl (by rw [arrV_size]; kernel_rfl) ?_) | ((with_reducible refine gate_store (t := 50) (p := 2) (v := .tmp 13) rfl ?_); go_must (refine store_all rfl rfl rfl g (arrV (fun _ => 0)) (arrV (fun _ => 0)) 50 (by rfl) (by rfl) HS.out.re ((arrV_size _).trans (arrV_size _).symm) (by rw [arrV_size]; kernel_rfl) (arrV_one _) ?_); intro w9 hr1 hf6; have HR1 := Aside0.mk hr1; have HF6 := Aside0.mk hf6; clear hr1 hf6))
    refine bodyPost_ret (results_ct rfl _ _ g 50 (arrV (fun _ => 0)) (0, 0) _ rfl HR1.out Try.underlying50 rfl (by rw [arrV_size]; kernel_rfl)) rfl ?_
    exact ⟨_, (by rw [HO.out]; rfl), (fun h => absurd ((HO.out).symm.trans h) (by decide)), HS.out.be.trans (HF6.out.below HS.out.be.size (fun k hk => by rw [hk, HS.out.gg]; exact Nat.le_refl _))⟩
  · have hb0 : decide (288 < (lens.length : Int)) = false := by simp; omega
    have hl288 : lens.length ≤ 288 := by omega
    clear hlen
    go_wp2_with fail
    go_loopw [16] (fun v16 wr => ∃ k : Nat, v16 = .int .i64 k ∧ k ≤ lens.length ∧ Aside0 (CS W wr g (fun l => cntL (lens.take k) l)) ∧ Aside0 (∀ x ∈ lens.take k, lenOk x = true)) (fun v16 _ => lens.length - (intOf v16).toNat)
    case atStart => exact ⟨0, rfl, Nat.zero_le _, HS, ⟨by simp⟩⟩
    case round =>
      clear HS
      obtain ⟨k, rfl, hk, HS, HK⟩ := hrel
      by_cases hlt : k < lens.length
      · have hb1 : decide ((k : Int) < (lens.length : Int)) = true := by simp; omega
        obtain ⟨ad1, hA1, x0⟩ := Kd.at_int (Kd.C_below HR.out HS.out.be) (k : Int) (by omega) (by omega)
        subst hA1
        simp only [Int.toNat_natCast] at x0
        have htk := take_rd lens k hlt
        have hgt := rd_get lens k hlt
        obtain ⟨x, hx⟩ : ∃ x, rd lens (k : Int) = x := ⟨_, rfl⟩
        rw [hx] at x0 htk hgt
        have HTK := Aside0.mk htk
        have q1 : (0 : Int) ≤ (k : Int) := by omega
        have q2 : (k : Int) < (lens.length : Int) := by omega
        have HI := Aside0.mk hlt
        by_cases hx0 : 0 ≤ x ∧ x ≤ 15
        · obtain ⟨m, rfl⟩ : ∃ m : Nat, x = m := ⟨x.toNat, by omega⟩
          have hm : m < 16 := by omega
          have c0 := HS.out.ar.cell m hm
          have f0 := HS.out.ar.frozen m
          have r1 : (0 : Int) ≤ (m : Int) := by omega
          have r2 : (m : Int) < 16 := by omega
          have r3 : decide ((m : Int) < 0) = false := by simp
          have r4 : decide (15 < (m : Int)) = false := by simp; omega
          obtain ⟨cn, hcn⟩ : ∃ z, cntL (lens.take k) (m : Int) = z := ⟨_, rfl⟩
          have hcb := cntL_nn (lens.take k) (m : Int)
          rw [hcn] at hcb
          have hcb2 : cn ≤ 288 := by have : (lens.take k).length ≤ k := List.length_take_le _ _; omega
          have hcb1 := hcb.1
          have HCN := Aside0.mk hcn
          have HKN := Aside0.mk (show ∀ x ∈ lens.take (k + 1), lenOk x = true from fun x hx => by
            rw [HTK.out] at hx
            rcases List.mem_append.1 hx with h | h
            · exact HK.out x h
            · rw [List.mem_singleton.1 h]; unfold lenOk; simp; omega)
          rw [hcn] at c0
          clear hx hgt htk hlt hx0 hcn hcb
          have c1 : wr.cell? ⟨g + 1, m, none⟩ = some (.int .i64 cn) := c0
          clear c0
          go_wp2_with fail
          have HS2 := Aside0.mk ((HS.out.set m (cn + 1)).congr (f' := fun l => cntL (lens.take (k + 1)) l) (fun j hj => by
            rw [HTK.out, cntL_snoc]
            unfold upd
            by_cases hjm : j = m
            · subst hjm; rw [if_pos rfl, if_pos rfl, HCN.out]
            · rw [if_neg hjm, if_neg (show ¬ (m : Int) = (j : Int) by omega)]; exact (Int.add_zero _).symm))
          go_roundw
          case rel => exact ⟨k + 1, by simp, HI.out, HS2, HKN⟩
          case measure => simp [intOf]; have := HI.out; omega
        · have HO := Aside0.mk (okL_bad k hlt (by rw [← hgt]; unfold lenOk; exact decide_eq_false hx0))
          clear hgt htk hlt hx
          by_cases hn : x < 0
          · have r3 : decide (x < 0) = true := by simpa using hn
            clear hx0 hn
            go_wp2_with (first | (refine load_all rfl rfl (g + 1) rfl 50 (arrV (fun l => cntL (lens.take k) l)) _ HS.out.ar Try.underlying50 rfl (by rw [arrV_size]; kernel_rfl) ?_) | ((with_reducible refine gate_store (t := 50) (p := 2) (v := .tmp 26) rfl ?_); go_must (refine store_all rfl rfl rfl g (arrV (fun _ => 0)) (arrV (fun l => cntL (lens.take k) l)) 50 (by rfl) (by rfl) HS.out.re ((arrV_size _).trans (arrV_size _).symm) (by rw [arrV_size]; kernel_rfl) (arrV_one _) ?_); intro w9 hr1 hf6; have HR1 := Aside0.mk hr1; have HF6 := Aside0.mk hf6; clear hr1 hf6))
            refine bodyPost_ret (results_ct rfl _ _ g 50 (arrV (fun l => cntL (lens.take k) l)) (0, 0) _ rfl HR1.out Try.underlying50 rfl (by rw [arrV_size]; kernel_rfl)) rfl ?_
            exact ⟨_, (by rw [HO.out]; rfl), (fun h => absurd ((HO.out).symm.trans h) (by decide)), HS.out.be.trans (HF6.out.below HS.out.be.size (fun k hk => by rw [hk, HS.out.gg]; exact Nat.le_refl _))⟩
          · have r3 : decide (x < 0) = false := by simp; omega
            have r4 : decide (15 < x) = true := by simp; omega
            clear hx0 hn
            go_wp2_with (first | (refine load_all rfl rfl (g + 1) rfl 50 (arrV (fun l => cntL (lens.take k) l)) _ HS.out.ar Try.underlying50 rfl (by rw [arrV_size]; kernel_rfl) ?_) | ((with_reducible refine gate_store (t := 50) (p := 2) (v := .tmp 26) rfl ?_); go_must (refine store_all rfl rfl rfl g (arrV (fun _ => 0)) (arrV (fun l => cntL (lens.take k) l)) 50 (by rfl) (by rfl) HS.out.re ((arrV_size _).trans (arrV_size _).symm) (by rw [arrV_size]; kernel_rfl) (arrV_one _) ?_); intro w9 hr1 hf6; have HR1 := Aside0.mk hr1; have HF6 := Aside0.mk hf6; clear hr1 hf6))
            refine bodyPost_ret (results_ct rfl _ _ g 50 (arrV (fun l => cntL (lens.take k) l)) (0, 0) _ rfl HR1.out Try.underlying50 rfl (by rw [arrV_size]; kernel_rfl)) rfl ?_
            exact ⟨_, (by rw [HO.out]; rfl), (fun h => absurd ((HO.out).symm.trans h) (by decide)), HS.out.be.trans (HF6.out.below HS.out.be.size (fun k hk => by rw [hk, HS.out.gg]; exact Nat.le_refl _))⟩
      · have hke : k = lens.length := by omega
        subst hke
        have hb1 : decide ((lens.length : Int) < (lens.length : Int)) = false := by simp
        have HALL := Aside0.mk (show ∀ x ∈ lens, lenOk x = true from fun x hx => HK.out x (by rw [List.take_length]; exact hx))
        have hS0 := HS.out
        rw [List.take_length] at hS0
        have f0 := hS0.ar.frozen 0
        have c0 := hS0.ar.cell 0 (by decide)
        have HS1 := Aside0.mk (hS0.set 0 0)
        clear hlt hS0 HS HK
        go_upto_region 13 with (fail)
        generalize wr.setCell ⟨g + 1, 0, none⟩ (.int .i64 0) = w2 at HS1 ⊢
        clear f0 c0
        go_wp2_with fail
        go_loopw [7, 36] (fun v7 v36 wr => ∃ j : Nat, v36 = .int .i64 j ∧ j ≤ 15 ∧ v7 = .int .i64 (rooms (fun l => cntL lens l) j) ∧ 0 ≤ rooms (fun l => cntL lens l) j ∧ Aside0 (wr = w2)) (fun v7 v36 _ => 15 - (intOf v36).toNat)
        case atStart => exact ⟨0, rfl, by omega, rfl, by show (0 : Int) ≤ 1; decide, ⟨rfl⟩⟩
        case round =>
          obtain ⟨j, rfl, hj, rfl, hr0, HWE⟩ := hrel
          have hwe := HWE.out
          subst hwe
          clear HWE
          have hrl := rooms_le (f := fun l => cntL lens l) (fun l => (cntL_nn lens l).1) j
          have hrp : (2 : Int) ^ j ≤ 32768 := by
            have := Nat.pow_le_pow_right (n := 2) (by decide) hj
            have h2 : ((2 ^ j : Nat) : Int) ≤ 32768 := by exact_mod_cast this
            simpa using h2
          have hrs : rooms (fun l => cntL lens l) (j + 1) = 2 * rooms (fun l => cntL lens l) j - cntL lens ((j + 1 : Nat) : Int) := rfl
          obtain ⟨r, hr⟩ : ∃ r, rooms (fun l => cntL lens l) j = r := ⟨_, rfl⟩
          rw [hr] at hr0 hrl hrs ⊢
          have hr1 : r ≤ 32768 := by omega
          have HRR := Aside0.mk hr
          clear hr hrl hrp
          by_cases hlt : j < 15
          · have hb4 : decide ((j : Int) < 15) = true := by simp; omega
            have cj := HS1.out.ar.cell (j + 1) (by omega)
            have hu0 : upd (fun l => cntL lens l) 0 0 (j + 1) = cntL lens ((j + 1 : Nat) : Int) := by unfold upd; rw [if_neg (by omega)]
            rw [hu0] at cj
            have hcb := cntL_nn lens ((j + 1 : Nat) : Int)
            obtain ⟨cn, hcn⟩ : ∃ z, cntL lens ((j + 1 : Nat) : Int) = z := ⟨_, rfl⟩
            rw [hcn] at cj hcb hrs
            have hc1 := hcb.1
            have hc2 : cn ≤ 288 := by omega
            have q1 : (0 : Int) ≤ (j : Int) := by omega
            have q2 : (j : Int) < 15 := by omega
            have HRS := Aside0.mk hrs
            have HI := Aside0.mk hlt
            have cj' : wr.cell? ⟨g + 1, 1 + j, none⟩ = some (.int .i64 cn) := by rw [Nat.add_comm 1 j]; exact cj
            clear hcn hcb hrs hlt hu0
            by_cases hneg : 2 * r - cn < 0
            · have r5 : decide (2 * r - cn < 0) = true := by simpa using hneg
              have HO := Aside0.mk (okL_room (lens := lens) (j + 1) (by omega) (by rw [HRS.out]; exact hneg))
              clear hneg
              go_wp2_with (first | (refine load_all rfl rfl (g + 1) rfl 50 (arrV (upd (fun l => cntL lens l) 0 0)) _ HS1.out.ar Try.underlying50 rfl (by rw [arrV_size]; kernel_rfl) ?_) | ((with_reducible refine gate_store (t := 50) (p := 2) (v := .tmp 46) rfl ?_); go_must (refine store_all rfl rfl rfl g (arrV (fun _ => 0)) (arrV (upd (fun l => cntL lens l) 0 0)) 50 (by rfl) (by rfl) HS1.out.re ((arrV_size _).trans (arrV_size _).symm) (by rw [arrV_size]; kernel_rfl) (arrV_one _) ?_); intro w9 hr1 hf6; have HR1 := Aside0.mk hr1; have HF6 := Aside0.mk hf6; clear hr1 hf6))
              refine bodyPost_ret (results_ct rfl _ _ g 50 (arrV (upd (fun l => cntL lens l) 0 0)) (0, 0) _ rfl HR1.out Try.underlying50 rfl (by rw [arrV_size]; kernel_rfl)) rfl ?_
              exact ⟨_, (by rw [HO.out]; rfl), (fun h => absurd ((HO.out).symm.trans h) (by decide)), HS1.out.be.trans (HF6.out.below HS1.out.be.size (fun k hk => by rw [hk, HS1.out.gg]; exact Nat.le_refl _))⟩
            · have r5 : decide (2 * r - cn < 0) = false := by simpa using hneg
              have HN := Aside0.mk (show 0 ≤ 2 * r - cn by omega)
              clear hneg
              go_wp2_with fail
              go_roundw
              case rel => exact ⟨j + 1, by simp, HI.out, by rw [HRS.out], by rw [HRS.out]; exact HN.out, ⟨by first | rfl | trivial⟩⟩
              case measure => simp [intOf]; omega
          · have hje : j = 15 := by omega
            subst hje
            have hb4 : decide ((15 : Int) < 15) = false := by decide
            have HO := Aside0.mk (okL_all hl288 HALL.out (by rw [HRR.out]; exact hr0))
            have f0 := HS1.out.ar.frozen 0
            have c0 := HS1.out.ar.cell 0 (by decide)
            have HS2 := Aside0.mk (HS1.out.set 0 r)
            clear hlt hrs
            go_upto_region 21 with (fail)
            generalize wr.setCell ⟨g + 1, 0, none⟩ (.int .i64 r) = w3 at HS2 ⊢
            clear f0 c0
            go_wp2_with (first | (refine load_all rfl rfl (g + 1) rfl 50 (arrV (upd (upd (fun l => cntL lens l) 0 0) 0 r)) _ HS2.out.ar Try.underlying50 rfl (by rw [arrV_size]; kernel_rfl) ?_) | ((with_reducible refine gate_store (t := 50) (p := 2) (v := .tmp 50) rfl ?_); go_must (refine store_all rfl rfl rfl g (arrV (fun _ => 0)) (arrV (upd (upd (fun l => cntL lens l) 0 0) 0 r)) 50 (by rfl) (by rfl) HS2.out.re ((arrV_size _).trans (arrV_size _).symm) (by rw [arrV_size]; kernel_rfl) (arrV_one _) ?_); intro w9 hr1 hf6; have HR1 := Aside0.mk hr1; have HF6 := Aside0.mk hf6; clear hr1 hf6))
            refine bodyPost_ret (results_ct rfl _ _ g 50 (arrV (upd (upd (fun l => cntL lens l) 0 0) 0 r)) (0, 0) _ rfl HR1.out Try.underlying50 rfl (by rw [arrV_size]; kernel_rfl)) rfl ?_
            exact ⟨_, (by rw [HO.out]; rfl), (fun _ k hk => cA_last lens r HRR.out k), HS2.out.be.trans (HF6.out.below HS2.out.be.size (fun k hk => by rw [hk, HS2.out.gg]; exact Nat.le_refl _))⟩
end Go.Proofs.Ytmmoenleldcadaa.HF
