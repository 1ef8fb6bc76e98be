/- huff.counts: walked. huff.Codes, huff.Whole: walked. huff.Whole, counted, Cost: walked. huff.Cost: walked. A row of packs; how two are compared; how one is stored in a region that draws its order. -/
import Derived.Test.YtmmoenleldcadaaGA
import Derived.Test.YtmmoenleldcadaaFnx0
import Derived.Deep.DeepMust
import Derived.Deep.RegionWith
import Derived.Deep.RegionLaw
import Derived.Test.YtmmoenleldcadaaFCmp
import Derived.RegionTactic
namespace Go.Proofs.Ytmmoenleldcadaa.HF
open Go.RowKit Go.Proofs.YtmmoenleldcadaaW.PrintWords Go.Proofs.YtmmoenleldcadaaW.PrintLast Go.Proofs.YtmmoenleldcadaaW.PrintMore Go.Proofs.Ytmmoenleldcadaa.HW Go.Proofs.Ytmmoenleldcadaa.MB
attribute [local go_sem] max2_int min2_int max_two min_two max_three min_three max_four min_four   -- for this text's walks alone
def cA (lens : List Int) (k : Nat) : Int := if k = 0 then rooms (fun l => cntL lens l) 15 else cntL lens k
/-- What counts tells. -/
def CQ (lens : List Int) (W : World) (e : Ending) (w' : World) : Prop := ∃ f, e = .returned (.tuple #[.agg (arrV f), .bool (okL lens)]) ∧ (okL lens = true → ∀ k, k < 16 → f k = cA lens k) ∧ Below W.heap.size W w'
theorem okL_long {lens : List Int} (h : 288 < lens.length) : okL lens = false := by unfold okL; simp; omega
theorem okL_bad {lens : List Int} (i : Nat) (hi : i < lens.length) (h : lenOk lens[i] = false) : okL lens = false := by
  unfold okL
  have h1 : lens.all lenOk = false := List.all_eq_false.2 ⟨lens[i], List.getElem_mem hi, by rw [h]; decide⟩
  rw [h1]
  simp
theorem okL_room {lens : List Int} (j : Nat) (hj : j ≤ 15) (h : rooms (fun l => cntL lens l) j < 0) : okL lens = false := by
  unfold okL
  have := rooms_neg (fun l => (cntL_nn lens l).1) h 15 hj
  rw [decide_eq_false (p := 0 ≤ rooms _ 15) (by omega)]
  simp
theorem okL_all {lens : List Int} (h1 : lens.length ≤ 288) (h2 : ∀ x ∈ lens, lenOk x = true) (h3 : 0 ≤ rooms (fun l => cntL lens l) 15) : okL lens = true := by
  unfold okL
  rw [decide_eq_true h1, decide_eq_true h3, List.all_eq_true.2 h2]
  rfl
theorem take_rd (xs : List Int) (i : Nat) (h : i < xs.length) : xs.take (i + 1) = xs.take i ++ [rd xs (i : Int)] := by
  rw [List.take_add_one, List.getElem?_eq_getElem h]
  have : rd xs (i : Int) = xs[i] := by unfold rd; rw [Int.toNat_natCast, List.getD_eq_getElem?_getD, List.getElem?_eq_getElem h]; rfl
  rw [this]; rfl
theorem rd_get (xs : List Int) (i : Nat) (h : i < xs.length) : rd xs (i : Int) = xs[i] := by unfold rd; rw [Int.toNat_natCast, List.getD_eq_getElem?_getD, List.getElem?_eq_getElem h]; rfl
theorem cA_last (lens : List Int) (r : Int) (h : rooms (fun l => cntL lens l) 15 = r) (k : Nat) : upd (upd (fun l => cntL lens l) 0 0) 0 r k = cA lens k := by
  unfold upd cA
  by_cases h0 : k = 0
  · rw [if_pos h0, if_pos h0, h]
  · rw [if_neg h0, if_neg h0, if_neg h0]
def zA : Array Value := #[.int .i64 0, .int .i64 0, .int .i64 0, .int .i64 0, .int .i64 0, .int .i64 0, .int .i64 0, .int .i64 0, .int .i64 0, .int .i64 0, .int .i64 0, .int .i64 0, .int .i64 0, .int .i64 0, .int .i64 0, .int .i64 0]
/-- The state of counts. -/
structure CS (W w : World) (g : Nat) (f : Nat → Int) : Prop where
  be : Below W.heap.size W w
  gg : W.heap.size = g
  re : IsArr w g (fun _ => 0)
  ar : IsArr w (g + 1) f
theorem CS.set {W w : World} {g : Nat} {f : Nat → Int} (h : CS W w g f) (k : Nat) (v : Int) : CS W (w.setCell ⟨g + 1, k, none⟩ (.int .i64 v)) g (upd f k v) :=
  ⟨h.be.setCell (by show W.heap.size ≤ g + 1; rw [h.gg]; omega) _, h.gg, (Below.heap_setCell _ _ _ _ (by show g ≠ g + 1; omega)).trans h.re, h.ar.set k v⟩
theorem CS.congr {W w : World} {g : Nat} {f f' : Nat → Int} (h : CS W w g f) (e : ∀ k, k < 16 → f k = f' k) : CS W w g f' := ⟨h.be, h.gg, h.re, h.ar.congr e⟩
set_option maxRecDepth 100000 in
set_option maxHeartbeats 8000000 in
theorem counts_any (A : Option Addr) (c : Nat) (lens : List Int) (W : World) (hr : Kd.C (Kd.int .i64) W A lens.length lens) (_hc : lens.length ≤ c) : Calls Try.prog 44 #[.slice A lens.length c] W (CQ lens W) := by
  have hu := Try.underlying50
  have HR := Aside0.mk hr
  clear hr _hc
  go_enter Try.func44, Try.ntmps44
  go_upto_region 2 with (fail)
  have e1 : (W.alloc (.cells #[.int .i64 0, .int .i64 0, .int .i64 0, .int .i64 0, .int .i64 0, .int .i64 0, .int .i64 0, .int .i64 0, .int .i64 0, .int .i64 0, .int .i64 0, .int .i64 0, .int .i64 0, .int .i64 0, .int .i64 0, .int .i64 0] 50)).heap.size = W.heap.size + 1 := Array.size_push _
  have k0 := IsArr.new W
  have hb := below_alloc (Below.refl (W.alloc (.cells #[.int .i64 0, .int .i64 0, .int .i64 0, .int .i64 0, .int .i64 0, .int .i64 0, .int .i64 0, .int .i64 0, .int .i64 0, .int .i64 0, .int .i64 0, .int .i64 0, .int .i64 0, .int .i64 0, .int .i64 0, .int .i64 0] 50)).heap.size (W.alloc (.cells #[.int .i64 0, .int .i64 0, .int .i64 0, .int .i64 0, .int .i64 0, .int .i64 0, .int .i64 0, .int .i64 0, .int .i64 0, .int .i64 0, .int .i64 0, .int .i64 0, .int .i64 0, .int .i64 0, .int .i64 0, .int .i64 0] 50))) (.cells #[.int .i64 0, .int .i64 0, .int .i64 0, .int .i64 0, .int .i64 0, .int .i64 0, .int .i64 0, .int .i64 0, .int .i64 0, .int .i64 0, .int .i64 0, .int .i64 0, .int .i64 0, .int .i64 0, .int .i64 0, .int .i64 0] 50)
  have k1 := IsArr.new (W.alloc (.cells #[.int .i64 0, .int .i64 0, .int .i64 0, .int .i64 0, .int .i64 0, .int .i64 0, .int .i64 0, .int .i64 0, .int .i64 0, .int .i64 0, .int .i64 0, .int .i64 0, .int .i64 0, .int .i64 0, .int .i64 0, .int .i64 0] 50))
  rw [e1] at k1
  have k0' := k0.below hb
  have hB := (below_alloc (Below.refl W.heap.size W) (.cells #[.int .i64 0, .int .i64 0, .int .i64 0, .int .i64 0, .int .i64 0, .int .i64 0, .int .i64 0, .int .i64 0, .int .i64 0, .int .i64 0, .int .i64 0, .int .i64 0, .int .i64 0, .int .i64 0, .int .i64 0, .int .i64 0] 50)).trans (hb.mono (by rw [e1]; omega))
  obtain ⟨g, hg⟩ : ∃ g, W.heap.size = g := ⟨_, rfl⟩
  rw [hg] at k0' k1 hB
  have HS := Aside0.mk (CS.mk (f := fun _ => 0) (by rw [hg]; exact hB) hg k0' k1)
  rw [hg]
  clear e1 k0 hb k1 k0' hB hg
  generalize (W.alloc (.cells #[.int .i64 0, .int .i64 0, .int .i64 0, .int .i64 0, .int .i64 0, .int .i64 0, .int .i64 0, .int .i64 0, .int .i64 0, .int .i64 0, .int .i64 0, .int .i64 0, .int .i64 0, .int .i64 0, .int .i64 0, .int .i64 0] 50)).alloc (.cells #[.int .i64 0, .int .i64 0, .int .i64 0, .int .i64 0, .int .i64 0, .int .i64 0, .int .i64 0, .int .i64 0, .int .i64 0, .int .i64 0, .int .i64 0, .int .i64 0, .int .i64 0, .int .i64 0, .int .i64 0, .int .i64 0] 50) = w1 at HS ⊢
  by_cases hlen : 288 < lens.length
  · have hb0 : decide (288 < (lens.length : Int)) = true := by simp; omega
    have HO := Aside0.mk (okL_long hlen)
    clear hlen
    go_wp2_with (first | (refine load_all rfl rfl (g + 1) rfl 50 (arrV (fun _ => 0)) _ HS.out.ar Try.underlying50 rfl (by rw [arrV_size]; kernel_rfl) ?_) | ((with_reducible refine gate_store (t := 50) (p := 2) (v := .tmp 13) rfl ?_); go_must (refine store_all rfl rfl rfl g (arrV (fun _ => 0)) (arrV (fun _ => 0)) 50 (by rfl) (by rfl) HS.out.re ((arrV_size _).trans (arrV_size _).symm) (by rw [arrV_size]; kernel_rfl) (arrV_one _) ?_); intro w9 hr1 hf6; have HR1 := Aside0.mk hr1; have HF6 := Aside0.mk hf6; clear hr1 hf6))
    refine bodyPost_ret (results_ct rfl _ _ g 50 (arrV (fun _ => 0)) (0, 0) _ rfl HR1.out Try.underlying50 rfl (by rw [arrV_size]; kernel_rfl)) rfl ?_
    exact ⟨_, (by rw [HO.out]; rfl), (fun h => absurd ((HO.out).symm.trans h) (by decide)), HS.out.be.trans (HF6.out.below HS.out.be.size (fun k hk => by rw [hk, HS.out.gg]; exact Nat.le_refl _))⟩
  · have hb0 : decide (288 < (lens.length : Int)) = false := by simp; omega
    have hl288 : lens.length ≤ 288 := by omega
    clear hlen
    go_wp2_with fail
    go_loopw [16] (fun v16 wr => ∃ k : Nat, v16 = .int .i64 k ∧ k ≤ lens.length ∧ Aside0 (CS W wr g (fun l => cntL (lens.take k) l)) ∧ Aside0 (∀ x ∈ lens.take k, lenOk x = true)) (fun v16 _ => lens.length - (intOf v16).toNat)
    case atStart => exact ⟨0, rfl, Nat.zero_le _, HS, ⟨by simp⟩⟩
    case round =>
      clear HS
      obtain ⟨k, rfl, hk, HS, HK⟩ := hrel
      by_cases hlt : k < lens.length
      · have hb1 : decide ((k : Int) < (lens.length : Int)) = true := by simp; omega
        obtain ⟨ad1, hA1, x0⟩ := Kd.at_int (Kd.C_below HR.out HS.out.be) (k : Int) (by omega) (by omega)
        subst hA1
        simp only [Int.toNat_natCast] at x0
        have htk := take_rd lens k hlt
        have hgt := rd_get lens k hlt
        obtain ⟨x, hx⟩ : ∃ x, rd lens (k : Int) = x := ⟨_, rfl⟩
        rw [hx] at x0 htk hgt
        have HTK := Aside0.mk htk
        have q1 : (0 : Int) ≤ (k : Int) := by omega
        have q2 : (k : Int) < (lens.length : Int) := by omega
        have HI := Aside0.mk hlt
        by_cases hx0 : 0 ≤ x ∧ x ≤ 15
        · obtain ⟨m, rfl⟩ : ∃ m : Nat, x = m := ⟨x.toNat, by omega⟩
          have hm : m < 16 := by omega
          have c0 := HS.out.ar.cell m hm
          have f0 := HS.out.ar.frozen m
          have r1 : (0 : Int) ≤ (m : Int) := by omega
          have r2 : (m : Int) < 16 := by omega
          have r3 : decide ((m : Int) < 0) = false := by simp
          have r4 : decide (15 < (m : Int)) = false := by simp; omega
          obtain ⟨cn, hcn⟩ : ∃ z, cntL (lens.take k) (m : Int) = z := ⟨_, rfl⟩
          have hcb := cntL_nn (lens.take k) (m : Int)
          rw [hcn] at hcb
          have hcb2 : cn ≤ 288 := by have : (lens.take k).length ≤ k := List.length_take_le _ _; omega
          have hcb1 := hcb.1
          have HCN := Aside0.mk hcn
          have HKN := Aside0.mk (show ∀ x ∈ lens.take (k + 1), lenOk x = true from fun x hx => by
            rw [HTK.out] at hx
            rcases List.mem_append.1 hx with h | h
            · exact HK.out x h
            · rw [List.mem_singleton.1 h]; unfold lenOk; simp; omega)
          rw [hcn] at c0
          clear hx hgt htk hlt hx0 hcn hcb
          have c1 : wr.cell? ⟨g + 1, m, none⟩ = some (.int .i64 cn) := c0
          clear c0
          go_wp2_with fail
          have HS2 := Aside0.mk ((HS.out.set m (cn + 1)).congr (f' := fun l => cntL (lens.take (k + 1)) l) (fun j hj => by
            rw [HTK.out, cntL_snoc]
            unfold upd
            by_cases hjm : j = m
            · subst hjm; rw [if_pos rfl, if_pos rfl, HCN.out]
            · rw [if_neg hjm, if_neg (show ¬ (m : Int) = (j : Int) by omega)]; exact (Int.add_zero _).symm))
          go_roundw
          case rel => exact ⟨k + 1, by simp, HI.out, HS2, HKN⟩
          case measure => simp [intOf]; have := HI.out; omega
        · have HO := Aside0.mk (okL_bad k hlt (by rw [← hgt]; unfold lenOk; exact decide_eq_false hx0))
          clear hgt htk hlt hx
          by_cases hn : x < 0
          · have r3 : decide (x < 0) = true := by simpa using hn
            clear hx0 hn
            go_wp2_with (first | (refine load_all rfl rfl (g + 1) rfl 50 (arrV (fun l => cntL (lens.take k) l)) _ HS.out.ar Try.underlying50 rfl (by rw [arrV_size]; kernel_rfl) ?_) | ((with_reducible refine gate_store (t := 50) (p := 2) (v := .tmp 26) rfl ?_); go_must (refine store_all rfl rfl rfl g (arrV (fun _ => 0)) (arrV (fun l => cntL (lens.take k) l)) 50 (by rfl) (by rfl) HS.out.re ((arrV_size _).trans (arrV_size _).symm) (by rw [arrV_size]; kernel_rfl) (arrV_one _) ?_); intro w9 hr1 hf6; have HR1 := Aside0.mk hr1; have HF6 := Aside0.mk hf6; clear hr1 hf6))
            refine bodyPost_ret (results_ct rfl _ _ g 50 (arrV (fun l => cntL (lens.take k) l)) (0, 0) _ rfl HR1.out Try.underlying50 rfl (by rw [arrV_size]; kernel_rfl)) rfl ?_
            exact ⟨_, (by rw [HO.out]; rfl), (fun h => absurd ((HO.out).symm.trans h) (by decide)), HS.out.be.trans (HF6.out.below HS.out.be.size (fun k hk => by rw [hk, HS.out.gg]; exact Nat.le_refl _))⟩
          · have r3 : decide (x < 0) = false := by simp; omega
            have r4 : decide (15 < x) = true := by simp; omega
            clear hx0 hn
            go_wp2_with (first | (refine load_all rfl rfl (g + 1) rfl 50 (arrV (fun l => cntL (lens.take k) l)) _ HS.out.ar Try.underlying50 rfl (by rw [arrV_size]; kernel_rfl) ?_) | ((with_reducible refine gate_store (t := 50) (p := 2) (v := .tmp 26) rfl ?_); go_must (refine store_all rfl rfl rfl g (arrV (fun _ => 0)) (arrV (fun l => cntL (lens.take k) l)) 50 (by rfl) (by rfl) HS.out.re ((arrV_size _).trans (arrV_size _).symm) (by rw [arrV_size]; kernel_rfl) (arrV_one _) ?_); intro w9 hr1 hf6; have HR1 := Aside0.mk hr1; have HF6 := Aside0.mk hf6; clear hr1 hf6))
            refine bodyPost_ret (results_ct rfl _ _ g 50 (arrV (fun l => cntL (lens.take k) l)) (0, 0) _ rfl HR1.out Try.underlying50 rfl (by rw [arrV_size]; kernel_rfl)) rfl ?_
            exact ⟨_, (by rw [HO.out]; rfl), (fun h => absurd ((HO.out).symm.trans h) (by decide)), HS.out.be.trans (HF6.out.below HS.out.be.size (fun k hk => by rw [hk, HS.out.gg]; exact Nat.le_refl _))⟩
      · have hke : k = lens.length := by omega
        subst hke
        have hb1 : decide ((lens.length : Int) < (lens.length : Int)) = false := by simp
        have HALL := Aside0.mk (show ∀ x ∈ lens, lenOk x = true from fun x hx => HK.out x (by rw [List.take_length]; exact hx))
        have hS0 := HS.out
        rw [List.take_length] at hS0
        have f0 := hS0.ar.frozen 0
        have c0 := hS0.ar.cell 0 (by decide)
        have HS1 := Aside0.mk (hS0.set 0 0)
        clear hlt hS0 HS HK
        go_upto_region 13 with (fail)
        generalize wr.setCell ⟨g + 1, 0, none⟩ (.int .i64 0) = w2 at HS1 ⊢
        clear f0 c0
        go_wp2_with fail
        go_loopw [7, 36] (fun v7 v36 wr => ∃ j : Nat, v36 = .int .i64 j ∧ j ≤ 15 ∧ v7 = .int .i64 (rooms (fun l => cntL lens l) j) ∧ 0 ≤ rooms (fun l => cntL lens l) j ∧ Aside0 (wr = w2)) (fun v7 v36 _ => 15 - (intOf v36).toNat)
        case atStart => exact ⟨0, rfl, by omega, rfl, by show (0 : Int) ≤ 1; decide, ⟨rfl⟩⟩
        case round =>
          obtain ⟨j, rfl, hj, rfl, hr0, HWE⟩ := hrel
          have hwe := HWE.out
          subst hwe
          clear HWE
          have hrl := rooms_le (f := fun l => cntL lens l) (fun l => (cntL_nn lens l).1) j
          have hrp : (2 : Int) ^ j ≤ 32768 := by
            have := Nat.pow_le_pow_right (n := 2) (by decide) hj
            have h2 : ((2 ^ j : Nat) : Int) ≤ 32768 := by exact_mod_cast this
            simpa using h2
          have hrs : rooms (fun l => cntL lens l) (j + 1) = 2 * rooms (fun l => cntL lens l) j - cntL lens ((j + 1 : Nat) : Int) := rfl
          obtain ⟨r, hr⟩ : ∃ r, rooms (fun l => cntL lens l) j = r := ⟨_, rfl⟩
          rw [hr] at hr0 hrl hrs ⊢
          have hr1 : r ≤ 32768 := by omega
          have HRR := Aside0.mk hr
          clear hr hrl hrp
          by_cases hlt : j < 15
          · have hb4 : decide ((j : Int) < 15) = true := by simp; omega
            have cj := HS1.out.ar.cell (j + 1) (by omega)
            have hu0 : upd (fun l => cntL lens l) 0 0 (j + 1) = cntL lens ((j + 1 : Nat) : Int) := by unfold upd; rw [if_neg (by omega)]
            rw [hu0] at cj
            have hcb := cntL_nn lens ((j + 1 : Nat) : Int)
            obtain ⟨cn, hcn⟩ : ∃ z, cntL lens ((j + 1 : Nat) : Int) = z := ⟨_, rfl⟩
            rw [hcn] at cj hcb hrs
            have hc1 := hcb.1
            have hc2 : cn ≤ 288 := by omega
            have q1 : (0 : Int) ≤ (j : Int) := by omega
            have q2 : (j : Int) < 15 := by omega
            have HRS := Aside0.mk hrs
            have HI := Aside0.mk hlt
            have cj' : wr.cell? ⟨g + 1, 1 + j, none⟩ = some (.int .i64 cn) := by rw [Nat.add_comm 1 j]; exact cj
            clear hcn hcb hrs hlt hu0
            by_cases hneg : 2 * r - cn < 0
            · have r5 : decide (2 * r - cn < 0) = true := by simpa using hneg
              have HO := Aside0.mk (okL_room (lens := lens) (j + 1) (by omega) (by rw [HRS.out]; exact hneg))
              clear hneg
              go_wp2_with (first | (refine load_all rfl rfl (g + 1) rfl 50 (arrV (upd (fun l => cntL lens l) 0 0)) _ HS1.out.ar Try.underlying50 rfl (by rw [arrV_size]; kernel_rfl) ?_) | ((with_reducible refine gate_store (t := 50) (p := 2) (v := .tmp 46) rfl ?_); go_must (refine store_all rfl rfl rfl g (arrV (fun _ => 0)) (arrV (upd (fun l => cntL lens l) 0 0)) 50 (by rfl) (by rfl) HS1.out.re ((arrV_size _).trans (arrV_size _).symm) (by rw [arrV_size]; kernel_rfl) (arrV_one _) ?_); intro w9 hr1 hf6; have HR1 := Aside0.mk hr1; have HF6 := Aside0.mk hf6; clear hr1 hf6))
              refine bodyPost_ret (results_ct rfl _ _ g 50 (arrV (upd (fun l => cntL lens l) 0 0)) (0, 0) _ rfl HR1.out Try.underlying50 rfl (by rw [arrV_size]; kernel_rfl)) rfl ?_
              exact ⟨_, (by rw [HO.out]; rfl), (fun h => absurd ((HO.out).symm.trans h) (by decide)), HS1.out.be.trans (HF6.out.below HS1.out.be.size (fun k hk => by rw [hk, HS1.out.gg]; exact Nat.le_refl _))⟩
            · have r5 : decide (2 * r - cn < 0) = false := by simpa using hneg
              have HN := Aside0.mk (show 0 ≤ 2 * r - cn by omega)
              clear hneg
              go_wp2_with fail
              go_roundw
              case rel => exact ⟨j + 1, by simp, HI.out, by rw [HRS.out], by rw [HRS.out]; exact HN.out, ⟨by first | rfl | trivial⟩⟩
              case measure => simp [intOf]; omega
          · have hje : j = 15 := by omega
            subst hje
            have hb4 : decide ((15 : Int) < 15) = false := by decide
            have HO := Aside0.mk (okL_all hl288 HALL.out (by rw [HRR.out]; exact hr0))
            have f0 := HS1.out.ar.frozen 0
            have c0 := HS1.out.ar.cell 0 (by decide)
            have HS2 := Aside0.mk (HS1.out.set 0 r)
            clear hlt hrs
            go_upto_region 21 with (fail)
            generalize wr.setCell ⟨g + 1, 0, none⟩ (.int .i64 r) = w3 at HS2 ⊢
            clear f0 c0
            go_wp2_with (first | (refine load_all rfl rfl (g + 1) rfl 50 (arrV (upd (upd (fun l => cntL lens l) 0 0) 0 r)) _ HS2.out.ar Try.underlying50 rfl (by rw [arrV_size]; kernel_rfl) ?_) | ((with_reducible refine gate_store (t := 50) (p := 2) (v := .tmp 50) rfl ?_); go_must (refine store_all rfl rfl rfl g (arrV (fun _ => 0)) (arrV (upd (upd (fun l => cntL lens l) 0 0) 0 r)) 50 (by rfl) (by rfl) HS2.out.re ((arrV_size _).trans (arrV_size _).symm) (by rw [arrV_size]; kernel_rfl) (arrV_one _) ?_); intro w9 hr1 hf6; have HR1 := Aside0.mk hr1; have HF6 := Aside0.mk hf6; clear hr1 hf6))
            refine bodyPost_ret (results_ct rfl _ _ g 50 (arrV (upd (upd (fun l => cntL lens l) 0 0) 0 r)) (0, 0) _ rfl HR1.out Try.underlying50 rfl (by rw [arrV_size]; kernel_rfl)) rfl ?_
            exact ⟨_, (by rw [HO.out]; rfl), (fun _ k hk => cA_last lens r HRR.out k), HS2.out.be.trans (HF6.out.below HS2.out.be.size (fun k hk => by rw [hk, HS2.out.gg]; exact Nat.le_refl _))⟩
end Go.Proofs.Ytmmoenleldcadaa.HF
namespace Go.Proofs.Ytmmoenleldcadaa.HF
open Go.RowKit Go.Proofs.YtmmoenleldcadaaW.PrintWords Go.Proofs.YtmmoenleldcadaaW.PrintLast Go.Proofs.YtmmoenleldcadaaW.PrintMore Go.Proofs.Ytmmoenleldcadaa.HW Go.Proofs.Ytmmoenleldcadaa.MB Go.Proofs.Ytmmoenleldcadaa.Fn
attribute [local go_sem] max2_int min2_int max_two min_two max_three min_three max_four min_four   -- for this text's walks alone
theorem R_first {α : Type} {d : Kd α} {e : Nat} {w : World} {base : Nat} {ok : Nat → Prop} {v : Value} {xs : List α} (h : d.R e w base ok v xs) (hn : 0 < xs.length) : ∃ g c, v = .slice (some ⟨g, 0, none⟩) xs.length c := by
  obtain ⟨_, inner, ⟨_, hown⟩, _⟩ := h
  rcases hown with ⟨_, h0⟩ | ⟨g, cap, cur, hv, _⟩
  · omega
  · exact ⟨g, cap, hv⟩
def zeroObj : Obj := .cells #[.int .i64 0, .int .i64 0, .int .i64 0, .int .i64 0, .int .i64 0, .int .i64 0, .int .i64 0, .int .i64 0, .int .i64 0, .int .i64 0, .int .i64 0, .int .i64 0, .int .i64 0, .int .i64 0, .int .i64 0, .int .i64 0] 50
def outI (lens : List Int) (i : Nat) : List Int := (List.range lens.length).map (fun j => if j < i then codeAt lens j else 0)
theorem outI_len (lens : List Int) (i : Nat) : (outI lens i).length = lens.length := by unfold outI; rw [List.length_map, List.length_range]
theorem outI_zero (lens : List Int) : List.replicate lens.length (0 : Int) = outI lens 0 := by
  refine List.ext_getElem? fun j => ?_
  unfold outI
  rw [List.getElem?_replicate, List.getElem?_map]
  by_cases h : j < lens.length
  · rw [if_pos h, List.getElem?_range h]; rfl
  · rw [if_neg h, List.getElem?_eq_none (by rw [List.length_range]; omega)]; rfl
theorem outI_set (lens : List Int) (i : Nat) : (outI lens i).set i (codeAt lens i) = outI lens (i + 1) := by
  refine List.ext_getElem? fun j => ?_
  rw [List.getElem?_set, outI_len]
  unfold outI
  rw [List.getElem?_map, List.getElem?_map]
  by_cases h : j < lens.length
  · rw [List.getElem?_range h]
    by_cases hij : i = j
    · subst hij
      rw [if_pos rfl, if_pos h]
      show _ = some (if i < i + 1 then codeAt lens i else 0)
      rw [if_pos (Nat.lt_succ_self i)]
    · rw [if_neg hij]
      show some (if j < i then codeAt lens j else 0) = some (if j < i + 1 then codeAt lens j else 0)
      by_cases hji : j < i
      · rw [if_pos hji, if_pos (show j < i + 1 by omega)]
      · rw [if_neg hji, if_neg (show ¬ j < i + 1 by omega)]
  · rw [List.getElem?_eq_none (by rw [List.length_range]; omega)]
    split
    · split
      · omega
      · rfl
    · rfl
theorem outI_same (lens : List Int) (i : Nat) (h : codeAt lens i = 0) : outI lens i = outI lens (i + 1) := by
  unfold outI
  refine List.map_congr_left (fun j _ => ?_)
  by_cases h1 : j < i
  · rw [if_pos h1, if_pos (show j < i + 1 by omega)]
  · by_cases h2 : j = i
    · subst h2; rw [if_neg h1, if_pos (Nat.lt_succ_self j), h]
    · rw [if_neg h1, if_neg (show ¬ j < i + 1 by omega)]
theorem outI_all (lens : List Int) : outI lens lens.length = codesL lens := by
  unfold outI codesL
  exact List.map_congr_left (fun j hj => if_pos (List.mem_range.1 hj))
theorem okL_len {lens : List Int} (h : okL lens = true) : lens.length ≤ 288 ∧ (∀ x ∈ lens, 0 ≤ x ∧ x ≤ 15) := by
  unfold okL at h
  rw [Bool.and_eq_true, Bool.and_eq_true] at h
  exact ⟨of_decide_eq_true h.1, fun x hx => of_decide_eq_true (List.all_eq_true.1 h.2.1 x hx)⟩
/-- What Codes tells. -/
def DQ (lens : List Int) (W : World) (e : Ending) (w' : World) : Prop := ∃ v, e = .returned (.tuple #[v, .int .i64 (if okL lens then 0 else 30)]) ∧ Kd.R (Kd.int .i64) 3 w' W.heap.size (fun _ => True) v (if okL lens then codesL lens else []) ∧ Below W.heap.size W w'
/-- The state of Codes. -/
structure KS (W w : World) (q q2 : Nat) (f h : Nat → Int) : Prop where
  be : Below W.heap.size W w
  le : W.heap.size ≤ q2
  ne : q ≠ q2
  ar : IsArr w q f
  nx : IsArr w q2 h
theorem KS.set {W w : World} {q q2 : Nat} {f h : Nat → Int} (s : KS W w q q2 f h) (k : Nat) (v : Int) : KS W (w.setCell ⟨q2, k, none⟩ (.int .i64 v)) q q2 f (upd h k v) :=
  ⟨s.be.setCell s.le _, s.le, s.ne, (Below.heap_setCell _ _ _ _ s.ne).trans s.ar, s.nx.set k v⟩
theorem KS.congr {W w : World} {q q2 : Nat} {f h h' : Nat → Int} (s : KS W w q q2 f h) (e : ∀ k, k < 16 → h k = h' k) : KS W w q q2 f h' := ⟨s.be, s.le, s.ne, s.ar, s.nx.congr e⟩
theorem KS.below {W w w' : World} {q q2 : Nat} {f h : Nat → Int} (s : KS W w q q2 f h) (hb : Below w.heap.size w w') : KS W w' q q2 f h := ⟨s.be.trans (hb.mono s.be.size), s.le, s.ne, s.ar.below hb, s.nx.below hb⟩
set_option maxRecDepth 100000 in
set_option maxHeartbeats 8000000 in
theorem codes_any (A : Option Addr) (c : Nat) (lens : List Int) (W : World) (hr : Kd.C (Kd.int .i64) W A lens.length lens) (hc : lens.length ≤ c) : Calls Try.prog 17 #[.slice A lens.length c] W (DQ lens W) := by
  have hu := Try.underlying50
  have HR := Aside0.mk hr
  have HC := Aside0.mk (counts_any A c lens W hr hc)
  clear hr hc
  go_enter Try.func17, Try.ntmps17
  go_wp2_with fail
  refine HC.out.mono ?_
  rintro e w1 ⟨f, rfl, hf, hb⟩
  have HF := Aside0.mk hf
  have HB := Aside0.mk hb
  clear hf hb HC
  cases hok : okL lens with
  | false =>
    have HO := Aside0.mk hok
    clear hok
    go_wp2_with ((with_reducible refine gate_store (t := 50) (p := 4) (v := .tmp 14) rfl ?_); go_must (refine store_all rfl rfl rfl w1.heap.size (arrV (fun _ => 0)) (arrV f) 50 (by rfl) (by rfl) (IsArr.new w1) ((arrV_size _).trans (arrV_size _).symm) (by rw [arrV_size]; kernel_rfl) (arrV_one _) ?_); intro w9 hr1 hf6; have HF6 := Aside0.mk hf6; clear hr1 hf6)
    go_ret2
    exact ⟨_, (by rw [HO.out]; rfl), by rw [HO.out]; exact Kd.R_nil _ _ _ _ _, HB.out.trans (((below_alloc (Below.refl w1.heap.size w1) _).trans (HF6.out.below (by show _ ≤ (Array.push _ _).size; rw [Array.size_push]; omega) (fun k hk => by rw [hk]; exact Nat.le_refl _))).mono HB.out.size)⟩
  | true =>
    have HO := Aside0.mk hok
    have hl288 := (okL_len hok).1
    clear hok
    go_upto_region 4 with ((with_reducible refine gate_store (t := 50) (p := 4) (v := .tmp 14) rfl ?_); go_must (refine store_all rfl rfl rfl w1.heap.size (arrV (fun _ => 0)) (arrV f) 50 (by rfl) (by rfl) (IsArr.new w1) ((arrV_size _).trans (arrV_size _).symm) (by rw [arrV_size]; kernel_rfl) (arrV_one _) ?_); intro w9 hr1 hf6; have HR1 := Aside0.mk hr1; have HF6 := Aside0.mk hf6; clear hr1 hf6)
    have HB9 := Aside0.mk (HB.out.trans (((below_alloc (Below.refl w1.heap.size w1) _).trans (HF6.out.below (by show _ ≤ (Array.push _ _).size; rw [Array.size_push]; omega) (fun k hk => by rw [hk]; exact Nat.le_refl _))).mono HB.out.size))
    obtain ⟨q, hq⟩ : ∃ q, w1.heap.size = q := ⟨_, rfl⟩
    rw [hq] at HR1
    rw [hq]
    clear HF6 HB hq
    go_upto_region 5 with (fail)
    have HK0 := Aside0.mk (KS.mk (W := W) (w := w9.alloc zeroObj) (q := q) (q2 := w9.heap.size) (f := f) (h := fun _ => 0) (below_alloc HB9.out _) HB9.out.size (Nat.ne_of_lt (blk_lt HR1.out)) (IsArr.below HR1.out (below_alloc (Below.refl _ _) _)) (IsArr.new w9))
    unfold zeroObj at HK0
    obtain ⟨q2, hq2⟩ : ∃ q, w9.heap.size = q := ⟨_, rfl⟩
    rw [hq2] at HK0
    rw [hq2]
    clear hq2 HR1 HB9
    generalize w9.alloc (.cells #[.int .i64 0, .int .i64 0, .int .i64 0, .int .i64 0, .int .i64 0, .int .i64 0, .int .i64 0, .int .i64 0, .int .i64 0, .int .i64 0, .int .i64 0, .int .i64 0, .int .i64 0, .int .i64 0, .int .i64 0, .int .i64 0] 50) = w10 at HK0 ⊢
    go_wp2_with fail
    go_loopw [7] (fun v7 wr => ∃ l : Nat, v7 = .int .i64 l ∧ 1 ≤ l ∧ l ≤ 15 ∧ Aside0 (KS W wr q q2 f (fun k => if k ≤ l then nxt (fun l => cntL lens l) k else 0))) (fun v7 _ => 15 - (intOf v7).toNat)
    case atStart => exact ⟨1, rfl, by decide, by decide, ⟨HK0.out.congr (fun k _ => by
      show (0 : Int) = if k ≤ 1 then nxt _ k else 0
      split
      · rcases (show k = 0 ∨ k = 1 by omega) with rfl | rfl <;> rfl
      · rfl)⟩⟩
    case round =>
      clear HK0
      obtain ⟨l, rfl, hl1, hl2, HK⟩ := hrel
      by_cases hlt : l < 15
      · have hb1 : decide ((l : Int) < 15) = true := by simp; omega
        have c0 := HK.out.nx.cell l (by omega)
        have c1 := HK.out.nx.cell (l + 1) (by omega)
        have f1 := HK.out.nx.frozen (l + 1)
        have d0 := HK.out.ar.cell l (by omega)
        have hfl : f l = cntL lens l := by rw [HF.out HO.out l (by omega)]; unfold cA; rw [if_neg (by omega)]
        rw [hfl] at d0
        have hcb := cntL_nn lens (l : Int)
        have hnb := nxt_bd (f := fun l => cntL lens l) (fun l => ⟨(cntL_nn lens l).1, by have := (cntL_nn lens l).2; omega⟩) l
        have hp2 : (2 : Int) ^ l ≤ 32768 := by
          have := Nat.pow_le_pow_right (n := 2) (by decide) hl2
          have h2 : ((2 ^ l : Nat) : Int) ≤ 32768 := by exact_mod_cast this
          simpa using h2
        simp only [Nat.le_refl, if_true, show ¬ l + 1 ≤ l by omega, if_false] at c0 c1
        obtain ⟨n, hn⟩ : ∃ n, nxt (fun l => cntL lens l) l = n := ⟨_, rfl⟩
        obtain ⟨cn, hcn⟩ : ∃ n, cntL lens (l : Int) = n := ⟨_, rfl⟩
        rw [hn] at c0 hnb
        rw [hcn] at d0 hcb
        have hx : nxt (fun l => cntL lens l) (l + 1) = 2 * (n + cn) := by show (if l = 0 then 0 else 2 * (nxt (fun l => cntL lens l) l + cntL lens (l : Int))) = _; rw [if_neg (by omega), hn, hcn]
        have HX := Aside0.mk hx
        have hw1 : IntKind.i64.wrap (n + cn) = n + cn := IntWalk.i64_in _ (by omega)
        have hw2 : IntKind.i64.wrap (2 * (n + cn)) = 2 * (n + cn) := IntWalk.i64_in _ (by omega)
        have hw3 : IntKind.i64.wrap ((l : Int) + 1) = (l : Int) + 1 := IntWalk.i64_in _ (by omega)
        have q1 : (0 : Int) ≤ (l : Int) := by omega
        have q2' : (l : Int) < 16 := by omega
        have q3 : (0 : Int) ≤ (l : Int) + 1 := by omega
        have q4 : (l : Int) + 1 < 16 := by omega
        have q5 : ((l : Int) + 1).toNat = l + 1 := by omega
        have HI := Aside0.mk hlt
        clear hfl hcb hnb hp2 hn hcn hx hlt
        go_wp2_with fail
        go_region
        all_goals
          have HS2 := Aside0.mk ((HK.out.set (l + 1) (2 * (n + cn))).congr (h' := fun k => if k ≤ l + 1 then nxt (fun l => cntL lens l) k else 0) (fun k _ => by
            unfold upd
            by_cases h0 : k = l + 1
            · subst h0; rw [if_pos rfl, if_pos (Nat.le_refl _), HX.out]
            · rw [if_neg h0]
              show (if k ≤ l then _ else _) = _
              by_cases h1 : k ≤ l
              · rw [if_pos h1, if_pos (show k ≤ l + 1 by omega)]
              · rw [if_neg h1, if_neg (show ¬ k ≤ l + 1 by omega)]))
          go_wp2_with fail
          go_roundw
          case rel => exact ⟨l + 1, by simp, by omega, by have := HI.out; omega, ⟨HS2.out.below (below_drew (Below.refl _ _))⟩⟩
          case measure => simp [intOf]; have := HI.out; omega
      · have hle : l = 15 := by omega
        subst hle
        have hb1 : decide ((15 : Int) < 15) = false := by decide
        have HK2 := Aside0.mk (HK.out.congr (h' := fun k => if k = 0 then 0 else nxt (fun l => cntL lens l) k + cntL (lens.take 0) k) (fun k hk => by
          show (if k ≤ 15 then _ else _) = _
          rw [if_pos (by omega)]
          by_cases h0 : k = 0
          · subst h0; rfl
          · rw [if_neg h0, List.take_zero, cntL_nil, Int.add_zero]))
        clear hlt HK
        go_wp2_with ((with_reducible refine gate_dst (N := 35) rfl ?_); go_must (refine Kd.R_make (Kd.int .i64) (w0 := W) W.heap.size 3 rfl (N := 35) rfl 22 _ _ rfl (lens.length : Int) rfl rfl Try.underlying22 (.int .i64 0) 8 info3 rfl (by decide) (by decide) 0 (ok := fun _ => True) (okp := fun _ => True) rfl (fun _ hk => hk) trivial (by omega) (by omega) HK2.out.be HK2.out.be.size ?_); intro v8 w11 ho hb hg hnew; rw [Int.toNat_natCast, outI_zero] at ho; obtain ⟨b8, hb8, hb8'⟩ := hnew; have HO8 := Aside0.mk ho; have HB11 := Aside0.mk hb; have HK3 := Aside0.mk (KS.below (w' := w11) HK2.out ⟨hg.os, hg.tape, hg.output, hg.size, fun k hk => hg.block k hk (by simp)⟩); have HNB := Aside0.mk (show b8 ≠ q ∧ b8 ≠ q2 from ⟨fun e => by have := blk_lt HK2.out.ar; omega, fun e => by have := blk_lt HK2.out.nx; omega⟩); have HVB := Aside0.mk hb8; clear ho hb hg hb8 hb8'; obtain ⟨A8, c8, e8⟩ := Kd.R_slice HO8.out; rw [outI_len] at e8; subst e8)
        go_loopw [38] (fun v38 wr => ∃ i : Nat, v38 = .int .i64 i ∧ i ≤ lens.length ∧ Aside0 (KS W wr q q2 f (fun k => if k = 0 then 0 else nxt (fun l => cntL lens l) k + cntL (lens.take i) k)) ∧ Aside0 (Kd.R (Kd.int .i64) 3 wr W.heap.size (fun _ => True) (.slice A8 lens.length c8) (outI lens i))) (fun v38 _ => lens.length - (intOf v38).toNat)
        case atStart => exact ⟨0, rfl, Nat.zero_le _, HK3, HO8⟩
        case round =>
          clear HK3 HO8 HK2 HB11
          obtain ⟨i, rfl, hi, HK, HO8⟩ := hrel
          by_cases hlt : i < lens.length
          · have hb2 : decide ((i : Int) < (lens.length : Int)) = true := by simp; omega
            obtain ⟨ad1, hA1, x0⟩ := Kd.at_int (Kd.C_below HR.out HK.out.be) (i : Int) (by omega) (by omega)
            subst hA1
            simp only [Int.toNat_natCast] at x0
            obtain ⟨g8, c8', e8⟩ := R_first HO8.out (by rw [outI_len]; omega)
            rw [outI_len] at e8
            injection e8 with eA _ ec
            subst eA; subst ec
            have hgb : g8 = b8 := by have := HVB.out; injection this
            subst hgb
            have hxr := (okL_len HO.out).2 (rd lens (i : Int)) (by rw [rd_get lens i hlt]; exact List.getElem_mem _)
            have htk := take_rd lens i hlt
            have hca : codeAt lens i = if 0 < rd lens (i : Int) then nxt (fun l => cntL lens l) (rd lens (i : Int)).toNat + cntL (lens.take i) (rd lens (i : Int)) else 0 := by
              unfold codeAt
              have : lens.getD i 0 = rd lens (i : Int) := by unfold rd; rw [Int.toNat_natCast]
              rw [this]
            obtain ⟨x, hx⟩ : ∃ x, rd lens (i : Int) = x := ⟨_, rfl⟩
            rw [hx] at x0 hxr htk hca
            obtain ⟨m, rfl⟩ : ∃ m : Nat, x = m := ⟨x.toNat, by omega⟩
            have hm : m < 16 := by omega
            have q1 : (0 : Int) ≤ (i : Int) := by omega
            have q2' : (i : Int) < (lens.length : Int) := by omega
            have q3 : (0 : Int) ≤ (m : Int) := by omega
            have q4 : (m : Int) < 16 := by omega
            have HTK := Aside0.mk htk
            have HI := Aside0.mk hlt
            by_cases hm0 : m = 0
            · subst hm0
              have hb3 : decide ((0 : Int) < 0) = false := by decide
              have hs := outI_same lens i (by rw [hca]; rfl)
              have HO9 := HO8
              rw [hs] at HO9
              have HK9 := Aside0.mk (HK.out.congr (h' := fun k => if k = 0 then 0 else nxt (fun l => cntL lens l) k + cntL (lens.take (i + 1)) k) (fun k _ => by
                by_cases h0 : k = 0
                · show (if k = 0 then (0 : Int) else _) = if k = 0 then 0 else _
                  rw [if_pos h0, if_pos h0]
                · show (if k = 0 then (0 : Int) else _) = if k = 0 then 0 else _
                  rw [if_neg h0, if_neg h0, HTK.out, cntL_snoc, if_neg (show ¬ ((0 : Nat) : Int) = (k : Int) by omega), Int.add_zero]))
              clear hs hxr htk hca hx HO8 HK hlt
              have x0' : wr.cell? (ad1.add i) = some (.int .i64 0) := x0
              clear x0
              go_wp2_with fail
              go_roundw
              case rel => exact ⟨i + 1, by simp, HI.out, HK9, HO9⟩
              case measure => simp [intOf]; have := HI.out; omega
            · have hb3 : decide ((0 : Int) < (m : Int)) = true := by simp; omega
              have hb4 : 0 < m := by omega
              rw [if_pos (by omega), Int.toNat_natCast] at hca
              have c0 := HK.out.nx.cell m hm
              have f0 := HK.out.nx.frozen m
              have c0' : wr.cell? ⟨q2, m, none⟩ = some (.int .i64 (codeAt lens i)) := by rw [hca, c0]; show some (Value.int .i64 (if m = 0 then 0 else _)) = _; rw [if_neg hm0]
              have hcb := cntL_nn (lens.take i) (m : Int)
              have hnb := nxt_bd (f := fun l => cntL lens l) (fun l => ⟨(cntL_nn lens l).1, by have := (cntL_nn lens l).2; omega⟩) m
              have hp2 : (2 : Int) ^ m ≤ 32768 := by
                have := Nat.pow_le_pow_right (n := 2) (by decide) (show m ≤ 15 by omega)
                have h2 : ((2 ^ m : Nat) : Int) ≤ 32768 := by exact_mod_cast this
                simpa using h2
              have hcb2 : ((lens.take i).length : Int) ≤ 288 := by have h9 : (lens.take i).length ≤ lens.length := (by rw [List.length_take]; omega); omega
              obtain ⟨cv, hcv⟩ : ∃ z, codeAt lens i = z := ⟨_, rfl⟩
              have hcv2 : 0 ≤ cv ∧ cv ≤ 100000000 := by rw [← hcv, hca]; omega
              have hst := outI_set lens i
              rw [hcv] at c0' hst
              have hv1 := hcv2.1
              have hv2 := hcv2.2
              obtain ⟨y0, z0⟩ := Kd.R_celln 0 HO8.out (i : Int) (by omega) (by omega)
              simp only [Int.toNat_natCast] at y0 z0
              have hput := Kd.R_putg HO8.out (i : Int) cv
              simp only [Int.toNat_natCast] at hput
              rw [hst] at hput
              have HP := Aside0.mk hput
              have HCA := Aside0.mk (show cv = nxt (fun l => cntL lens l) m + cntL (lens.take i) m from by rw [← hcv, hca])
              have hM0 := Aside0.mk hm0
              clear hcb hnb hp2 hcb2 hcv hca hxr htk hx c0 hst hput hm0 hlt hcv2
              go_upto_region 15 with (fail)
              have HK4 := Aside0.mk (show KS W (wr.setCell ⟨g8, i, none⟩ (.int .i64 cv)) q q2 f (fun k => if k = 0 then 0 else nxt (fun l => cntL lens l) k + cntL (lens.take i) k) from ⟨HK.out.be.grown HP.out.2 HK.out.be.size (fun b hb => Kd.R_base HO8.out b (by rw [← hb]; rfl)), HK.out.le, HK.out.ne, (Below.heap_setCell _ _ _ _ (fun e => HNB.out.1 e.symm)).trans HK.out.ar, (Below.heap_setCell _ _ _ _ (fun e => HNB.out.2 e.symm)).trans HK.out.nx⟩)
              have HO4 := Aside0.mk HP.out.1
              have c0' : (wr.setCell ⟨g8, i, none⟩ (.int .i64 cv)).cell? ⟨q2, m, none⟩ = some (.int .i64 cv) := by
                rw [HK4.out.nx.cell m hm]
                show some (Value.int .i64 (if m = 0 then 0 else _)) = _
                rw [if_neg hM0.out, HCA.out]
              have f0 := HK4.out.nx.frozen m
              clear y0 z0 HK HO8 HP
              generalize wr.setCell ⟨g8, i, none⟩ (.int .i64 cv) = w12 at HK4 HO4 c0' f0 ⊢
              go_wp2_with fail
              have HK5 := Aside0.mk ((HK4.out.set m (cv + 1)).congr (h' := fun k => if k = 0 then 0 else nxt (fun l => cntL lens l) k + cntL (lens.take (i + 1)) k) (fun k _ => by
                unfold upd
                rw [HTK.out, cntL_snoc]
                by_cases h0 : k = m
                · subst h0
                  rw [if_pos rfl, if_neg hM0.out, if_pos rfl, HCA.out]
                  omega
                · rw [if_neg h0, if_neg (show ¬ (m : Int) = (k : Int) by omega)]
                  show (if k = 0 then (0 : Int) else _) = if k = 0 then 0 else _
                  rw [Int.add_zero]))
              have HO5 := Aside0.mk (Kd.R_set HO4.out HK4.out.nx (by decide) m (.int .i64 (cv + 1)))
              go_roundw
              case rel => exact ⟨i + 1, by simp, HI.out, HK5, HO5⟩
              case measure => simp [intOf]; have := HI.out; omega
          · have hie : i = lens.length := by omega
            subst hie
            have hb2 : decide ((lens.length : Int) < (lens.length : Int)) = false := by simp
            clear hlt
            go_wp2_with fail
            go_ret2
            exact ⟨_, (by rw [HO.out]; rfl), by rw [HO.out, ← outI_all]; exact HO8.out, HK.out.be⟩
end Go.Proofs.Ytmmoenleldcadaa.HF
namespace Go.Proofs.Ytmmoenleldcadaa.HF
open Go.RowKit Go.Proofs.YtmmoenleldcadaaW.PrintWords Go.Proofs.YtmmoenleldcadaaW.PrintLast Go.Proofs.YtmmoenleldcadaaW.PrintMore Go.Proofs.Ytmmoenleldcadaa.HW Go.Proofs.Ytmmoenleldcadaa.MB Go.Proofs.Ytmmoenleldcadaa.Fn
attribute [local go_sem] max2_int min2_int max_two min_two max_three min_three max_four min_four   -- for this text's walks alone
/-- What Whole tells. -/
def WQ (lens : List Int) (W : World) (e : Ending) (w' : World) : Prop := e = .returned (.tuple #[.bool (okL lens && wholeL lens), .int .i64 (if okL lens then 0 else 30)]) ∧ Below W.heap.size W w'
set_option maxHeartbeats 2000000 in
theorem whole_any (A : Option Addr) (c : Nat) (lens : List Int) (W : World) (hr : Kd.C (Kd.int .i64) W A lens.length lens) (hc : lens.length ≤ c) : Calls Try.prog 20 #[.slice A lens.length c] W (WQ lens W) := by
  have hu := Try.underlying50
  have HC := Aside0.mk (counts_any A c lens W hr hc)
  clear hr hc
  go_enter Try.func20, Try.ntmps20
  go_wp2_with fail
  refine HC.out.mono ?_
  rintro e w1 ⟨f, rfl, hf, hb⟩
  have HF := Aside0.mk hf
  have HB := Aside0.mk hb
  clear hf hb HC
  cases hok : okL lens with
  | false =>
    have HO := Aside0.mk hok
    clear HF hok
    go_wp2_with ((with_reducible refine gate_store (t := 50) (p := 4) (v := .tmp 9) rfl ?_); go_must (refine store_all rfl rfl rfl w1.heap.size (arrV (fun _ => 0)) (arrV f) 50 (by rfl) (by rfl) (IsArr.new w1) ((arrV_size _).trans (arrV_size _).symm) (by rw [arrV_size]; kernel_rfl) (arrV_one _) ?_); intro w9 hr1 hf6; have HF6 := Aside0.mk hf6; clear hr1 hf6)
    go_ret2
    exact ⟨(by rw [HO.out]; rfl), HB.out.trans (((below_alloc (Below.refl w1.heap.size w1) _).trans (HF6.out.below (by show _ ≤ (Array.push _ _).size; rw [Array.size_push]; omega) (fun k hk => by rw [hk]; exact Nat.le_refl _))).mono HB.out.size)⟩
  | true =>
    have HO := Aside0.mk hok
    clear hok
    go_upto_region 4 with ((with_reducible refine gate_store (t := 50) (p := 4) (v := .tmp 9) rfl ?_); go_must (refine store_all rfl rfl rfl w1.heap.size (arrV (fun _ => 0)) (arrV f) 50 (by rfl) (by rfl) (IsArr.new w1) ((arrV_size _).trans (arrV_size _).symm) (by rw [arrV_size]; kernel_rfl) (arrV_one _) ?_); intro w9 hr1 hf6; have HR1 := Aside0.mk hr1; have HF6 := Aside0.mk hf6; clear hr1 hf6)
    have c0 := IsArr.cell (f := f) HR1.out 0 (by decide)
    have h0 : f 0 = rooms (fun l => cntL lens l) 15 := by rw [HF.out HO.out 0 (by decide)]; rfl
    rw [h0] at c0
    obtain ⟨r, hr⟩ : ∃ r, rooms (fun l => cntL lens l) 15 = r := ⟨_, rfl⟩
    rw [hr] at c0
    have HW := Aside0.mk (show wholeL lens = (r == 0) from by unfold wholeL; rw [hr]; by_cases h : r = 0 <;> simp [h])
    clear h0 hr
    go_wp2_with fail
    go_ret2
    exact ⟨(by rw [HO.out, HW.out]; rfl), HB.out.trans (((below_alloc (Below.refl w1.heap.size w1) _).trans (HF6.out.below (by show _ ≤ (Array.push _ _).size; rw [Array.size_push]; omega) (fun k hk => by rw [hk]; exact Nat.le_refl _))).mono HB.out.size)⟩
def freqOk (f : Int) : Bool := decide (0 ≤ f ∧ f ≤ 1099511627776)
def countedL (fs : List Int) : Bool := fs.all freqOk
set_option maxHeartbeats 1000000 in
theorem fclos_ok (x : Int) (W : World) : Calls Try.prog 52 #[.int .i64 x] W fun e w' => e = .returned (.bool (!freqOk x)) ∧ W = w' := by
  by_cases h1 : x < 0
  · have hb : decide (x < 0) = true := by simpa using h1
    have HF := Aside0.mk (show freqOk x = false from by unfold freqOk; exact decide_eq_false (by omega))
    clear h1
    go_enter Try.func52, Try.ntmps52
    go_wp2_with fail
    go_ret
    exact ⟨by rw [HF.out]; rfl, rfl⟩
  · have hb : decide (x < 0) = false := by simpa using h1
    by_cases h2 : 1099511627776 < x
    · have hb2 : decide (1099511627776 < x) = true := by simpa using h2
      have HF := Aside0.mk (show freqOk x = false from by unfold freqOk; exact decide_eq_false (by omega))
      clear h1 h2
      go_enter Try.func52, Try.ntmps52
      go_wp2_with fail
      go_ret
      exact ⟨by rw [HF.out]; rfl, rfl⟩
    · have hb2 : decide (1099511627776 < x) = false := by simpa using h2
      have HF := Aside0.mk (show freqOk x = true from by unfold freqOk; exact decide_eq_true (by omega))
      clear h1 h2
      go_enter Try.func52, Try.ntmps52
      go_wp2_with fail
      go_ret
      exact ⟨by rw [HF.out]; rfl, rfl⟩
/-- Where the first bad one stands. -/
def findex : List Int → Nat → Int
  | [], _ => -1
  | x :: t, i => if freqOk x = true then findex t (i + 1) else i
theorem findex_pos : ∀ (l : List Int) (i : Nat), decide (0 ≤ findex l i) = !countedL l
  | [], i => by simp [findex, countedL]
  | x :: t, i => by
    have ih := findex_pos t (i + 1)
    unfold findex
    by_cases h : freqOk x = true
    · rw [if_pos h, ih]; simp [countedL, h]
    · rw [if_neg h]; simp [countedL, h]
set_option maxHeartbeats 2000000 in
theorem findex_ok (A : Option Addr) (c : Nat) (l : List Int) (W : World) (hr : Kd.C (Kd.int .i64) W A l.length l) (hn : l.length ≤ 9223372036854775807) :
    Calls Try.prog 57 #[.slice A l.length c, .func (.func 52) #[] #[]] W fun e w' => e = .returned (.int .i64 (findex l 0)) ∧ W = w' := by
  have HL := Aside0.mk hr
  have HN := Aside0.mk hn
  clear hr hn
  go_enter Try.func57, Try.ntmps57
  go_wp2_with fail
  go_loopw [8] (fun v8 wr => ∃ i : Nat, v8 = .int .i64 i ∧ i ≤ l.length ∧ Aside0 (W = wr) ∧ Aside0 (findex l 0 = findex (l.drop i) i)) (fun v8 _ => l.length - (intOf v8).toNat)
  case atStart => exact ⟨0, rfl, Nat.zero_le _, ⟨rfl⟩, ⟨rfl⟩⟩
  case round =>
    obtain ⟨i, rfl, hi, HWE, HJ⟩ := hrel
    have hwe := HWE.out
    subst hwe
    by_cases hlt : i < l.length
    · have hb1 : decide ((i : Int) < (l.length : Int)) = true := by simp; omega
      obtain ⟨ad, hA, h0⟩ := Kd.at_int HL.out (i : Int) (by omega) (by omega)
      subst hA
      simp only [Int.toNat_natCast] at h0
      have q1 : (0 : Int) ≤ (i : Int) := by omega
      have q2 : (i : Int) < (l.length : Int) := by omega
      have q3 : (l.length : Int) ≤ 9223372036854775807 := by have := HN.out; omega
      have hd : findex (l.drop i) i = if freqOk (rd l i) = true then findex (l.drop (i + 1)) (i + 1) else (i : Int) := by
        rw [List.drop_eq_getElem_cons hlt, findex, rd_get l i hlt]
      obtain ⟨x, hx⟩ : ∃ z, rd l (i : Int) = z := ⟨_, rfl⟩
      rw [hx] at h0 hd
      have HD := Aside0.mk hd
      have HI := Aside0.mk hlt
      clear hd hx
      go_wp2_with fail
      refine (fclos_ok x W).mono ?_
      rintro e w2 ⟨rfl, rfl⟩
      have hd2 := HD.out
      by_cases hs : freqOk x = true
      · rw [hs] at hd2 ⊢
        rw [if_pos rfl] at hd2
        have HJ2 := Aside0.mk (HJ.out.trans hd2)
        clear hs hd2
        go_wp2_with fail
        go_roundw
        case rel => exact ⟨i + 1, by simp, HI.out, ⟨by first | rfl | trivial⟩, HJ2⟩
        case measure => simp [intOf]; have := HI.out; omega
      · have hs2 := Bool.eq_false_iff.2 hs
        rw [hs2] at hd2 ⊢
        rw [if_neg (by decide)] at hd2
        clear hs hs2
        have HD2 := Aside0.mk hd2
        clear hd2
        go_wp2_with fail
        go_ret
        exact ⟨by rw [HJ.out, HD2.out]; rfl, rfl⟩
    · have hie : i = l.length := by omega
      subst hie
      have hb1 : decide ((l.length : Int) < (l.length : Int)) = false := by simp
      clear hlt
      go_wp2_with fail
      go_ret
      have := HJ.out
      rw [List.drop_length] at this
      exact ⟨by rw [this]; rfl, rfl⟩
set_option maxHeartbeats 1000000 in
theorem fcont_ok (A : Option Addr) (c : Nat) (l : List Int) (W : World) (hr : Kd.C (Kd.int .i64) W A l.length l) (hn : l.length ≤ 9223372036854775807) :
    Calls Try.prog 51 #[.slice A l.length c, .func (.func 52) #[] #[]] W fun e w' => e = .returned (.bool (!countedL l)) ∧ W = w' := by
  have h0 := findex_ok A c l W hr hn
  have he : decide (0 ≤ findex l 0) = !countedL l := findex_pos l 0
  obtain ⟨r, hr⟩ : ∃ r, findex l 0 = r := ⟨_, rfl⟩
  obtain ⟨d, hd⟩ : ∃ d, (!countedL l) = d := ⟨_, rfl⟩
  rw [hr] at h0 he
  rw [hd] at he
  rw [hd]
  have H := Aside0.mk h0
  clear h0 hr hd
  go_enter Try.func51, Try.ntmps51
  go_wp2_with fail
  refine H.out.mono ?_
  rintro e w2 ⟨rfl, rfl⟩
  cases d with
  | true =>
    go_wp2_with fail
    go_ret
    exact ⟨rfl, rfl⟩
  | false =>
    go_wp2_with fail
    go_ret
    exact ⟨rfl, rfl⟩
set_option maxHeartbeats 1000000 in
theorem counted_ok (A : Option Addr) (c : Nat) (l : List Int) (W : World) (hr : Kd.C (Kd.int .i64) W A l.length l) (hn : l.length ≤ 9223372036854775807) :
    Calls Try.prog 36 #[.slice A l.length c] W fun e w' => e = .returned (.bool (countedL l)) ∧ W = w' := by
  have H := Aside0.mk (fcont_ok A c l W hr hn)
  clear hr hn
  go_enter Try.func36, Try.ntmps36
  go_wp2_with fail
  refine H.out.mono ?_
  rintro e w2 ⟨rfl, rfl⟩
  go_wp2_with fail
  go_ret
  exact ⟨by simp, rfl⟩
end Go.Proofs.Ytmmoenleldcadaa.HF
namespace Go.Proofs.Ytmmoenleldcadaa.HF
open Go.RowKit Go.Proofs.YtmmoenleldcadaaW.PrintWords Go.Proofs.YtmmoenleldcadaaW.PrintLast Go.Proofs.YtmmoenleldcadaaW.PrintMore Go.Proofs.Ytmmoenleldcadaa.HW Go.Proofs.Ytmmoenleldcadaa.MB Go.Proofs.Ytmmoenleldcadaa.Fn
attribute [local go_sem] max2_int min2_int max_two min_two max_three min_three max_four min_four   -- for this text's walks alone
def costG : List Int → List Int → Int → Int × Int
  | f :: fs, l :: ls, s => if 0 < f ∧ l = 0 then (0, 30) else costG fs ls (s + f * l)
  | _, _, s => (s, 0)
def costL (freqs lens : List Int) : Int × Int :=
  if freqs.length = lens.length then (if countedL freqs = true then (if okL lens = true then costG freqs lens 0 else (0, 30)) else (0, 1)) else (0, 1)
theorem costG_drop (freqs lens : List Int) (i : Nat) (h1 : i < freqs.length) (h2 : i < lens.length) (s : Int) :
    costG (freqs.drop i) (lens.drop i) s = if 0 < rd freqs (i : Int) ∧ rd lens (i : Int) = 0 then (0, 30) else costG (freqs.drop (i + 1)) (lens.drop (i + 1)) (s + rd freqs (i : Int) * rd lens (i : Int)) := by
  rw [List.drop_eq_getElem_cons h1, List.drop_eq_getElem_cons h2, rd_get _ i h1, rd_get _ i h2]
  rfl
theorem mul_bd (f l : Int) (h1 : 0 ≤ f) (h2 : f ≤ 1099511627776) (h3 : 0 ≤ l) (h4 : l ≤ 15) : 0 ≤ f * l ∧ f * l ≤ 16492674416640 := by
  refine ⟨Int.mul_nonneg h1 h3, ?_⟩
  have := Int.mul_le_mul h2 h4 h3 (by decide)
  omega
/-- What Cost tells. -/
def EQ (r : Int × Int) (W : World) (e : Ending) (w' : World) : Prop := e = .returned (.tuple #[.int .i64 r.1, .int .i64 r.2]) ∧ Below W.heap.size W w'
set_option maxRecDepth 100000 in
set_option maxHeartbeats 8000000 in
theorem cost_any (A : Option Addr) (c : Nat) (freqs : List Int) (A2 : Option Addr) (c2 : Nat) (lens : List Int) (W : World) (hr : Kd.C (Kd.int .i64) W A freqs.length freqs) (hn : freqs.length ≤ 9223372036854775807) (hr2 : Kd.C (Kd.int .i64) W A2 lens.length lens) (hc2 : lens.length ≤ c2) : Calls Try.prog 21 #[.slice A freqs.length c, .slice A2 lens.length c2] W (EQ (costL freqs lens) W) := by
  have hu := Try.underlying50
  have HR := Aside0.mk hr
  have HR2 := Aside0.mk hr2
  have HD := Aside0.mk (counted_ok A c freqs W hr hn)
  have HC := Aside0.mk (counts_any A2 c2 lens W hr2 hc2)
  clear hr hr2 hc2 hn
  by_cases hlen : freqs.length = lens.length
  · have hb0 : (((freqs.length : Int)) != ((lens.length : Int))) = false := by simp; omega
    have hb1 : (freqs.length != lens.length) = false := by simp; omega
    have HLN := Aside0.mk hlen
    clear hlen
    go_enter Try.func21, Try.ntmps21
    go_wp2_with fail
    refine HD.out.mono ?_
    rintro e w1 ⟨rfl, rfl⟩
    clear HD
    cases hcd : countedL freqs with
    | false =>
      have HO := Aside0.mk (show costL freqs lens = (0, 1) from by unfold costL; rw [if_pos HLN.out, hcd]; rfl)
      clear hcd
      go_wp2_with fail
      go_ret2
      exact ⟨(by rw [HO.out]; rfl), Below.refl _ _⟩
    | true =>
      have HCD := Aside0.mk hcd
      clear hcd
      go_wp2_with fail
      refine HC.out.mono ?_
      rintro e w1 ⟨f, rfl, hf, hb⟩
      have HB := Aside0.mk hb
      clear hf hb HC
      cases hok : okL lens with
      | false =>
        have HO := Aside0.mk (show costL freqs lens = (0, 30) from by unfold costL; rw [if_pos HLN.out, if_pos HCD.out, hok]; rfl)
        clear hok
        go_wp2_with ((with_reducible refine gate_store (t := 50) (p := 6) (v := .tmp 24) rfl ?_); go_must (refine store_all rfl rfl rfl w1.heap.size (arrV (fun _ => 0)) (arrV f) 50 (by rfl) (by rfl) (IsArr.new w1) ((arrV_size _).trans (arrV_size _).symm) (by rw [arrV_size]; kernel_rfl) (arrV_one _) ?_); intro w9 hr1 hf6; have HF6 := Aside0.mk hf6; clear hr1 hf6)
        go_ret2
        exact ⟨(by rw [HO.out]; rfl), HB.out.trans (((below_alloc (Below.refl w1.heap.size w1) _).trans (HF6.out.below (by show _ ≤ (Array.push _ _).size; rw [Array.size_push]; omega) (fun k hk => by rw [hk]; exact Nat.le_refl _))).mono HB.out.size)⟩
      | true =>
        have HO := Aside0.mk hok
        have HCL := Aside0.mk (show costL freqs lens = costG freqs lens 0 from by unfold costL; rw [if_pos HLN.out, if_pos HCD.out, if_pos hok])
        have hl288 := (okL_len hok).1
        clear hok
        go_upto_region 4 with ((with_reducible refine gate_store (t := 50) (p := 6) (v := .tmp 24) rfl ?_); go_must (refine store_all rfl rfl rfl w1.heap.size (arrV (fun _ => 0)) (arrV f) 50 (by rfl) (by rfl) (IsArr.new w1) ((arrV_size _).trans (arrV_size _).symm) (by rw [arrV_size]; kernel_rfl) (arrV_one _) ?_); intro w9 hr1 hf6; have HF6 := Aside0.mk hf6; clear hr1 hf6)
        have HB9 := Aside0.mk (HB.out.trans (((below_alloc (Below.refl w1.heap.size w1) _).trans (HF6.out.below (by show _ ≤ (Array.push _ _).size; rw [Array.size_push]; omega) (fun k hk => by rw [hk]; exact Nat.le_refl _))).mono HB.out.size))
        have hfl : freqs.length = lens.length := HLN.out
        have hr1 := Kd.C_below HR.out HB9.out
        have hr2 := Kd.C_below HR2.out HB9.out
        obtain ⟨n, hnn⟩ : ∃ n, lens.length = n := ⟨_, rfl⟩
        rw [hnn] at hl288 hfl hr2
        rw [hfl] at hr1
        have HRA := Aside0.mk hr1
        have HRB := Aside0.mk hr2
        have HNN := Aside0.mk (And.intro hfl hnn)
        rw [hfl, hnn]
        clear HR HR2 hr1 hr2 HLN hfl hnn hb0 hb1 HF6 HB
        go_wp2_with fail
        go_loopw [8, 30] (fun v8 v30 wr => ∃ (i : Nat) (s : Int), v30 = .int .i64 i ∧ v8 = .int .i64 s ∧ i ≤ n ∧ 0 ≤ s ∧ s ≤ 16492674416640 * (i : Int) ∧ Aside0 (w9 = wr) ∧ Aside0 (costG freqs lens 0 = costG (freqs.drop i) (lens.drop i) s)) (fun v8 v30 _ => n - (intOf v30).toNat)
        case atStart => exact ⟨0, 0, rfl, rfl, Nat.zero_le _, Int.le_refl _, by omega, ⟨rfl⟩, ⟨rfl⟩⟩
        case round =>
          obtain ⟨i, s, rfl, rfl, hi, hs0, hs1, HWE, HJ⟩ := hrel
          have hwe := HWE.out
          subst hwe
          by_cases hlt : i < n
          · have hb1 : decide ((i : Int) < (n : Int)) = true := by simp; omega
            obtain ⟨ad1, hA1, x0⟩ := Kd.at_int HRA.out (i : Int) (by omega) (by omega)
            subst hA1
            obtain ⟨ad2, hA2, y0⟩ := Kd.at_int HRB.out (i : Int) (by omega) (by omega)
            subst hA2
            simp only [Int.toNat_natCast] at x0 y0
            have hfi : i < freqs.length := by rw [HNN.out.1]; exact hlt
            have hli : i < lens.length := by rw [HNN.out.2]; exact hlt
            have hd := costG_drop freqs lens i hfi hli s
            have hfr : freqOk (rd freqs (i : Int)) = true := by rw [rd_get _ i hfi]; exact List.all_eq_true.1 HCD.out _ (List.getElem_mem _)
            have hfr2 := of_decide_eq_true hfr
            have hlr := (okL_len HO.out).2 (rd lens (i : Int)) (by rw [rd_get _ i hli]; exact List.getElem_mem _)
            obtain ⟨x, hx⟩ : ∃ z, rd freqs (i : Int) = z := ⟨_, rfl⟩
            obtain ⟨y, hy⟩ : ∃ z, rd lens (i : Int) = z := ⟨_, rfl⟩
            rw [hx] at x0 hd hfr2
            rw [hy] at y0 hd hlr
            have hmb := mul_bd x y hfr2.1 hfr2.2 hlr.1 hlr.2
            obtain ⟨p, hp⟩ : ∃ p, x * y = p := ⟨_, rfl⟩
            rw [hp] at hmb hd
            have hw1 : IntKind.i64.wrap (x * y) = p := by rw [hp]; exact IntWalk.i64_in _ (by omega)
            have hw2 : IntKind.i64.wrap (s + p) = s + p := IntWalk.i64_in _ (by omega)
            have hw3 : wrap64 (x * y) = p := by rw [hp]; exact wrap64_id p (by omega) (by omega)
            have q1 : (0 : Int) ≤ (i : Int) := by omega
            have q2 : (i : Int) < (n : Int) := by omega
            have HD := Aside0.mk hd
            have HI := Aside0.mk hlt
            have HMB := Aside0.mk hmb
            have HSS := Aside0.mk (And.intro hs0 hs1)
            have HXP := Aside0.mk hfr2
            have HYP := Aside0.mk hlr
            clear hd hfr hx hy hp hfi hli hlt
            by_cases hbad : 0 < x ∧ y = 0
            · obtain ⟨hb2, rfl⟩ := hbad
              have hb3 : decide (0 < x) = true := by simpa using hb2
              have HE := Aside0.mk (HJ.out.trans (HD.out.trans (if_pos ⟨hb2, rfl⟩)))
              clear hb2
              go_wp2_with fail
              go_ret2
              exact ⟨(by rw [HCL.out, HE.out]; rfl), HB9.out⟩
            · have HE := Aside0.mk (HJ.out.trans (HD.out.trans (if_neg hbad)))
              by_cases hb2 : 0 < x
              · have hb3 : decide (0 < x) = true := by simpa using hb2
                have hb4 : (y == 0) = false := by simp; omega
                clear hb2 hbad
                go_wp2_with fail
                go_roundw
                case rel => exact ⟨i + 1, s + p, by simp, rfl, HI.out, by have := HMB.out; have := HSS.out; omega, by have := HMB.out; have := HSS.out; omega, ⟨by first | rfl | trivial⟩, HE⟩
                case measure => simp [intOf]; have := HI.out; omega
              · have hb3 : decide (0 < x) = false := by simpa using hb2
                clear hb2 hbad
                go_wp2_with fail
                go_roundw
                case rel => exact ⟨i + 1, s + p, by simp, rfl, HI.out, by have := HMB.out; have := HSS.out; omega, by have := HMB.out; have := HSS.out; omega, ⟨by first | rfl | trivial⟩, HE⟩
                case measure => simp [intOf]; have := HI.out; omega
          · have hie : i = n := by omega
            subst hie
            have hb1 : decide ((i : Int) < (i : Int)) = false := by simp
            have HE := Aside0.mk (show costG freqs lens 0 = (s, 0) from by
              rw [HJ.out, List.drop_eq_nil_of_le (by rw [HNN.out.1]; exact Nat.le_refl _)]
              rfl)
            clear hlt
            go_wp2_with fail
            go_ret2
            exact ⟨(by rw [HCL.out, HE.out]; rfl), HB9.out⟩
  · have hb0 : (((freqs.length : Int)) != ((lens.length : Int))) = true := by simp; omega
    have hb1 : (freqs.length != lens.length) = true := by simp; omega
    have HO := Aside0.mk (show costL freqs lens = (0, 1) from by unfold costL; rw [if_neg hlen])
    clear hlen
    go_enter Try.func21, Try.ntmps21
    go_wp2_with fail
    go_ret2
    exact ⟨(by rw [HO.out]; rfl), Below.refl _ _⟩
end Go.Proofs.Ytmmoenleldcadaa.HF
namespace Go.Proofs.Ytmmoenleldcadaa.HF
open Go.RowKit Go.Proofs.YtmmoenleldcadaaW.PrintWords Go.Proofs.YtmmoenleldcadaaW.PrintLast Go.Proofs.YtmmoenleldcadaaW.PrintMore Go.Proofs.Ytmmoenleldcadaa.HW Go.Proofs.Ytmmoenleldcadaa.MB Go.Proofs.Ytmmoenleldcadaa.Fn
attribute [local go_sem] max2_int min2_int max_two min_two max_three min_three max_four min_four   -- for this text's walks alone
/-- A pack: its weight, the slice of its symbols, which they are (that is not in its cells). -/
structure Pk where
  wt : Int
  A : Option Addr
  n : Nat
  c : Nat
  of : List Int
def zPk : Pk := ⟨0, none, 0, 0, []⟩
def Pk.val (p : Pk) : Value := .agg #[.int .i64 p.wt, .slice p.A p.n p.c]
def Pk.cells (p : Pk) : List Value := [.int .i64 p.wt, .slice p.A p.n p.c]
def kP : Kd Pk := Kd.iso (Kd.pair (Kd.int .i64) (Kd.scalar (fun s : Option Addr × Nat × Nat => Value.slice s.1 s.2.1 s.2.2) (fun _ => rfl))) (fun p : Pk => (p.wt, (p.A, p.n, p.c)))
theorem kP_open {w : World} {x : Pk} {cs : List Value} (h : kP.K w x cs) : cs = x.cells := by
  obtain ⟨_, _, rfl, rfl, rfl⟩ := h
  exact rfl
theorem kP_openM {w : World} {base : Nat} {ok : Nat → Prop} {x : Pk} {cs : List Value} (h : kP.M w base ok x cs) : cs = x.cells := by
  obtain ⟨_, _, rfl, rfl, rfl⟩ := h
  exact rfl
theorem kP_mkM (w : World) (base : Nat) (ok : Nat → Prop) (x : Pk) : kP.M w base ok x x.cells := ⟨[.int .i64 x.wt], [.slice x.A x.n x.c], rfl, rfl, rfl⟩
def rdP (xs : List Pk) (i : Nat) : Pk := xs.getD i zPk
theorem rdP_get (xs : List Pk) (i : Nat) (h : i < xs.length) : rdP xs i = xs[i] := by unfold rdP; rw [List.getD_eq_getElem?_getD, List.getElem?_eq_getElem h]; rfl
theorem add_zero0 (g k : Nat) : (⟨g, 0, none⟩ : Addr).add k = ⟨g, k, none⟩ := by unfold Addr.add; split <;> simp_all
/-- The cells of element i. -/
theorem atP {w : World} {base : Nat} {ok : Nat → Prop} {g n c : Nat} {xs : List Pk} (h : kP.R 63 w base ok (.slice (some ⟨g, 0, none⟩) n c) xs) (i : Nat) (hi : i < n) :
    w.cell? ⟨g, i * 2, none⟩ = some (.int .i64 (rdP xs i).wt) ∧ w.cell? ⟨g, i * 2 + 1, none⟩ = some (.slice (rdP xs i).A (rdP xs i).n (rdP xs i).c) := by
  have hn := (Kd.R_reads' h).1
  obtain ⟨ad, cs, e, _, hK, hc0⟩ := Kd.C_get (Kd.R_reads' h).2.2 zPk (i : Int) (by omega) (by omega)
  injection e with e
  subst e
  have hc : ∀ j u, cs[j]? = some u → w.cell? ((⟨g, 0, none⟩ : Addr).add ((i : Int).toNat * 2 + j)) = some u := hc0
  obtain rfl := kP_open hK
  simp only [add_zero0, Int.toNat_natCast] at hc
  exact ⟨hc 0 _ rfl, hc 1 _ rfl⟩
theorem frozenP {w : World} {base : Nat} {ok : Nat → Prop} {g n c : Nat} {xs : List Pk} (h : kP.R 63 w base ok (.slice (some ⟨g, 0, none⟩) n c) xs) (i : Nat) : w.frozen? ⟨g, i, none⟩ = false := by
  obtain ⟨inner, ho⟩ := Kd.R_own h
  obtain ⟨cells, hc⟩ := own_typed ho g rfl
  exact blk_frozen hc i
theorem seg_all (c seg : List Value) (n : Nat) (h1 : c.length = n) (h2 : seg.length = n) : c.take 0 ++ seg ++ c.drop (0 + seg.length) = seg := by
  rw [List.take_zero, List.nil_append, List.drop_eq_nil_of_le (by omega), List.append_nil]
section
variable {ops : Array Oper} {o : Oper} {a : Act} {Q : Exit → Act → World → Prop} {Kc : Act → World → Prop}
/-- xs[i] = p, in a region that draws its order. -/
theorem store_step {W : World} (base : Nat) (hw : Region.wanted o (yielded ops a.tmps) = true) (hN : o.dst = none) (p x : Operand) (ho : o.op = .store 63 p x) {g n c o' : Nat} (i : Nat) (xs : List Pk) (x' : Pk)
    (haddr : a.eval p = .pointer (some ⟨g, o', none⟩)) (hoff : o' = i * 2) (hx : a.eval x = x'.val) (HO : kP.R 63 W base (fun _ => True) (.slice (some ⟨g, 0, none⟩) n c) xs) (hi : i < n)
    (h : ∀ w1, kP.R 63 w1 base (fun _ => True) (.slice (some ⟨g, 0, none⟩) n c) (xs.set i x') → Fr (fun k => k = g) W w1 → Kc a w1) : if Region.wanted o (yielded ops a.tmps) = true then Oper.wp Try.prog o a W Kc Q else Kc (a.put o.dst undef) W := by
  subst hoff
  have hn := (Kd.R_reads' HO).1
  have hcc : ∀ j u, (rdP xs i).cells[j]? = some u → W.cell? ⟨g, (i : Int).toNat * kP.sz + j, none⟩ = some u := fun j u hj => by
    obtain ⟨h0, h1⟩ := atP HO i hi
    rw [Int.toNat_natCast]
    match j, hj with
    | 0, hj => cases hj; exact h0
    | 1, hj => cases hj; exact h1
    | _ + 2, hj => cases hj
  obtain ⟨hrow, hg⟩ := Kd.R_seg HO (i : Int) (by omega) (by omega) (c := (rdP xs i).cells) (seg := x'.cells) (j := 0) (x' := x') (okp := fun _ => False) rfl hcc (show 2 ≤ 2 from Nat.le_refl 2) (by rw [seg_all _ _ 2 rfl rfl]; exact kP_mkM _ _ _ _) (fun _ hk => hk.elim)
  rw [Int.toNat_natCast] at hrow
  have hrun : (Instr.storeAt 63 (.pointer (some ⟨g, i * 2, none⟩)) x'.val).run Try.prog W = .ok () (W.setCells g (i * 2) x'.cells) := by
    obtain ⟨_, inner, hown, _⟩ := HO
    rcases hown.2 with ⟨hv, _⟩ | ⟨g', cap', cur, hv, hb, hh, hnc, hcm, hcs, _⟩
    · cases hv
    injection hv with ha _ hc
    injection ha with ha
    injection ha with hg'
    subst hg'; subst hc
    refine run_store_run 63 x'.val x'.cells hh rfl (by kernel_rfl) ?_ (fun q hq => by
      rcases List.mem_cons.1 hq with rfl | hq
      · rfl
      · rw [List.mem_singleton.1 hq]; rfl)
    have hcs2 : cur.size = c * 2 := hcs
    show i * 2 + 2 ≤ cur.size
    omega
  rw [if_pos hw]
  unfold Oper.wp execOp
  simp only [ho, haddr, hx, Sem.run_bind, Sem.run_pure, Result.andThen_ok, hrun]
  show Kc (a.put o.dst undef) _
  rw [hN]
  have e1 : W.setCells g (i * kP.sz + 0) x'.cells = W.setCells g (i * 2) x'.cells := rfl
  rw [e1] at hrow
  exact h _ hrow (setCells_fr _ _ _)
end
def cmp3 (a b : Int) : Int := if a < b then -1 else if b < a then 1 else 0
theorem cmp3_lt (a b : Int) : decide (cmp3 a b < 0) = decide (a < b) := by
  unfold cmp3
  by_cases h : a < b
  · rw [if_pos h]; simp [h]
  · rw [if_neg h]; split <;> simp [h]
theorem compare_f (a b : Int) : cmp_Compare_int.f a b = some (cmp3 a b) := by
  unfold cmp_Compare_int.f cmp_isNaN_int.f cmp3
  simp
  split
  · rfl
  · split <;> rfl
set_option maxHeartbeats 1000000 in
theorem pcmp_ok (x y : Pk) (W : World) : Calls Try.prog 37 #[x.val, y.val] W fun e w' => e = .returned (.int .i64 (cmp3 x.wt y.wt)) ∧ Below W.heap.size W w' := by
  have hu := Try.underlying63
  obtain ⟨x0, x1, x2, x3, x4⟩ := x
  obtain ⟨y0, y1, y2, y3, y4⟩ := y
  unfold Pk.val
  simp only
  have HC := Aside0.mk (fun w => cmp_Compare_int.calls x0 y0 _ w (compare_f x0 y0))
  go_enter Try.func37, Try.ntmps37
  go_wp2_with fail
  refine (HC.out _).mono ?_
  rintro e w2 ⟨rfl, hd⟩
  have HB := Aside0.mk ((below_alloc (below_alloc (Below.refl W.heap.size W) (.cells #[.int .i64 x0, .slice x1 x2 x3] 63)) (.cells #[.int .i64 y0, .slice y1 y2 y3] 63)))
  have HD := Aside0.mk hd
  clear hd
  go_wp2_with fail
  go_ret
  exact ⟨rfl, HB.out.trans (HD.out.below.mono HB.out.size)⟩
theorem pcmp_val (x0 : Int) (x1 : Option Addr) (x2 x3 : Nat) (y0 : Int) (y1 : Option Addr) (y2 y3 : Nat) (W : World) : Calls Try.prog 37 #[.agg #[.int .i64 x0, .slice x1 x2 x3], .agg #[.int .i64 y0, .slice y1 y2 y3]] W fun e w' => e = .returned (.int .i64 (cmp3 x0 y0)) ∧ Below W.heap.size W w' := pcmp_ok ⟨x0, x1, x2, x3, []⟩ ⟨y0, y1, y2, y3, []⟩ W
end Go.Proofs.Ytmmoenleldcadaa.HF
