/- The walk of BitsPlaces: bits one by one, and at one time. -/
import Derived.Test.YtggfahgkjdkjmaaHRd
import Derived.Test.YtggfahgkjdkjmaaHAwake
import Derived.Outline
namespace Go.Proofs.Ytggfahgkjdkjmaa.HW
open Go.RowKit Go.Proofs.YtggfahgkjdkjmaaW.PrintWords Go.Proofs.YtggfahgkjdkjmaaW.PrintLast Go.Proofs.YtggfahgkjdkjmaaW.PrintMore Go.Proofs.Ytggfahgkjdkjmaa.MB Go.Proofs.Ytggfahgkjdkjmaa.Fn Go.Proofs.Ytggfahgkjdkjmaa.PR
attribute [local go_sem] max2_int min2_int max_two min_two max_three min_three max_four min_four   -- for this text's walks alone
theorem nb_one (s : ByteArray) (a : Nat) : nb (sbit s) a 1 = if sbit s a then 1 else 0 := by simp [nb]
set_option maxHeartbeats 4000000 in
set_option maxRecDepth 100000 in
theorem places_walk (s : ByteArray) (hs : s.size ≤ 140737488351232) (n : Int) (_hn : (Lit.int .i64 n).wf = true) (more : Int) (_hm : (Lit.int .i64 more).wf = true) (W0 : World) :
    Calls Try.prog 4 #[.string s, .int .i64 n, .int .i64 more] W0 fun e w' => e = .returned (.bool true) ∧ Below W0.heap.size W0 w' := by
  obtain ⟨k0, hk0, hk255⟩ := and_any n 255 (by decide)
  obtain ⟨m, hm, hm31⟩ := and_any more 31 (by decide)
  have hk0' : Go.bits .and .i64 n 255 = (k0 : Int) := hk0
  have hm' : Go.bits .and .i64 more 31 = (m : Int) := hm
  clear hk0 hm _hn _hm
  go_enter Try.func4, Try.ntmps4
  go_wp2_with fail
  refine (newReader s _).mono ?_
  rintro e w1 ⟨g1, rfl, hg1, hI1, hb1⟩
  have HI1 := Aside0.mk hI1
  have HB1 := Aside0.mk hb1
  clear hI1 hb1
  go_wp2_with fail
  refine (newReader s _).mono ?_
  rintro e w2 ⟨g2, rfl, hg2, hI2, hb2⟩
  have hlt := HI1.out.lt
  have HN := Aside0.mk (show g1 ≠ g2 by omega)
  have HG := Aside0.mk (show W0.heap.size ≤ g2 from Nat.le_trans HB1.out.size hg2)
  have HI1 := Aside0.mk (HI1.out.keep (Fr.of_below_all hb2 (fun _ => False)) (fun h => h))
  have HI2 := Aside0.mk hI2
  have HB := Aside0.mk (HB1.out.trans (hb2.mono HB1.out.size))
  clear hI2 hb2 hlt hg2 HB1
  clear hk0' hm'
  obtain ⟨K, hK1, hK2, hKe⟩ : ∃ K : Nat, K ≤ 8 * s.size ∧ K ≤ 255 ∧ (K = 8 * s.size ∧ 8 * (s.size : Int) < k0 ∨ K = k0 ∧ ¬ 8 * (s.size : Int) < k0) := by
    by_cases h : 8 * s.size < k0
    · exact ⟨8 * s.size, by omega, by omega, Or.inl ⟨rfl, by omega⟩⟩
    · exact ⟨k0, by omega, by omega, Or.inr ⟨rfl, by omega⟩⟩
  rcases hKe with ⟨hK3, hlt⟩ | ⟨hK3, hlt⟩
  have e8 : 8 * (s.size : Int) = (K : Int) := by omega
  have E8 := Aside0.mk e8
  clear e8 hK3
  go_wp2_with fail
  rw [E8.out]
  clear hlt E8
  rotate_left
  subst hK3
  go_wp2_with fail
  clear hlt
  all_goals
    go_loopw [11] (fun v11 wr => ∃ i : Nat, v11 = .int .i64 i ∧ i ≤ K ∧ Aside0 (IsR wr g1 s i) ∧ Aside0 (IsR wr g2 s 0) ∧ Aside0 (Below W0.heap.size W0 wr)) (fun v _ => K - (intOf v).toNat)
    case atStart => exact ⟨0, rfl, Nat.zero_le _, HI1, HI2, HB⟩
    case round =>
      clear HI1 HI2 HB
      obtain ⟨i, rfl, hi, HI1, HI2, HB⟩ := hrel
      by_cases hlt : i < K
      · have HBF := Aside0.mk (show postroadref01_Bit.f s (i : Int) = some ((nb (sbit s) i 1 : Nat) : Int) from by rw [nb_one]; exact bit_f s (by omega) i (by omega))
        obtain ⟨x, hx⟩ : ∃ x, nb (sbit s) i 1 = x := ⟨_, rfl⟩
        have HX := Aside0.mk hx
        rw [hx] at HBF
        clear hx
        go_wp2_with (first | (go_at_call 16; refine (r_ok g1 s i 1 _ HI1.out (by omega) (by omega) (by omega)).mono ?_; rw [HX.out]; rintro e w3 ⟨rfl, hI, hf⟩; have HI1 := Aside0.mk hI; have HI2 := Aside0.mk (HI2.out.keep hf (fun e => HN.out e.symm)); have HB := Aside0.mk (HB.out.trans (hf.below HB.out.size (fun k hk => hk ▸ hg1))); clear hI hf) | (go_at_call 17; refine (postroadref01_Bit.calls s i _ _ HBF.out).mono ?_; rintro e w4 ⟨rfl, ⟨nq, rfl⟩⟩))
        go_roundw
        case rel => exact ⟨i + 1, by go_num, by omega, ⟨HI1.out⟩, ⟨HI2.out⟩, ⟨by first | exact HB.out | exact pw_below_drewN HB.out _⟩⟩
        case measure => simp [intOf]; omega
      · obtain rfl : i = K := by omega
        go_wp2_with fail
        go_loopw [14] (fun v14 wr => ∃ j : Nat, v14 = .int .i64 j ∧ j ≤ i ∧ Aside0 (IsR wr g1 s i) ∧ Aside0 (IsR wr g2 s j) ∧ Aside0 (Below W0.heap.size W0 wr)) (fun v _ => i - (intOf v).toNat)
        case atStart => exact ⟨0, rfl, Nat.zero_le _, HI1, HI2, HB⟩
        case round =>
          clear HI1 HI2 HB
          obtain ⟨j, rfl, hj, HI1, HI2, HB⟩ := hrel
          by_cases hlt2 : j < i
          · obtain ⟨c, hc⟩ : ∃ c : Nat, (if (i : Int) - j < 57 then (i : Int) - j else 57) = (c : Int) := ⟨min 57 (i - j), by split <;> omega⟩
            have hc0 : 0 < c := by split at hc <;> omega
            have hc1 : c ≤ 57 := by split at hc <;> omega
            have hc2 : j + c ≤ i := by split at hc <;> omega
            go_wp2_with (first | (go_at_call 16; refine (r_ok g2 s j c _ HI2.out (by omega) (by omega) (by omega)).mono ?_; rintro e w3 ⟨rfl, hI, hf⟩; have HI2 := Aside0.mk hI; have HI1 := Aside0.mk (HI1.out.keep hf HN.out); have HB := Aside0.mk (HB.out.trans (hf.below HB.out.size (fun k hk => hk ▸ HG.out))); clear hI hf))
            go_roundw
            case rel => exact ⟨j + c, by go_num, by omega, ⟨HI1.out⟩, ⟨HI2.out⟩, ⟨HB.out⟩⟩
            case measure => simp [intOf]; omega
          · obtain rfl : j = i := by omega
            go_wp2_with fail
            by_cases hfit : j + m ≤ 8 * s.size
            · refine (r_ok g1 s j m _ HI1.out (by omega) (by omega) (by omega)).mono ?_
              rintro e w3 ⟨rfl, hI, hf⟩
              have HI1 := Aside0.mk hI
              have HI2 := Aside0.mk (HI2.out.keep hf (fun e => HN.out e.symm))
              have HB := Aside0.mk (HB.out.trans (hf.below HB.out.size (fun k hk => hk ▸ hg1)))
              clear hI hf
              go_wp2_with fail
              refine (r_ok g2 s j m _ HI2.out (by omega) (by omega) (by omega)).mono ?_
              rintro e w4 ⟨rfl, hI, hf⟩
              have HI2 := Aside0.mk hI
              have HI1 := Aside0.mk (HI1.out.keep hf HN.out)
              have HB := Aside0.mk (HB.out.trans (hf.below HB.out.size (fun k hk => hk ▸ HG.out)))
              clear hI hf
              go_wp2_with fail
              refine (r_place g1 s _ _ HI1.out).mono ?_
              rintro e w5 ⟨rfl, hI, hf⟩
              have HI2 := Aside0.mk (HI2.out.keep hf (fun e => HN.out e.symm))
              have HB := Aside0.mk (HB.out.trans (hf.below HB.out.size (fun k hk => hk ▸ hg1)))
              clear hI hf
              go_wp2_with fail
              refine (r_place g2 s _ _ HI2.out).mono ?_
              rintro e w6 ⟨rfl, hI, hf⟩
              have HB := Aside0.mk (HB.out.trans (hf.below HB.out.size (fun k hk => hk ▸ HG.out)))
              clear hI hf
              go_wp2_with fail
              refine (awake_any _).mono ?_
              rintro e w7 ⟨rfl, hb⟩
              have HB := Aside0.mk (HB.out.trans (hb.mono HB.out.size))
              clear hb
              go_wp2
              go_ret
              exact ⟨rfl, HB.out⟩
            · refine (r_short g1 s j m _ HI1.out (by omega) (by omega) (by omega) (by omega)).mono ?_
              rintro e w3 ⟨rfl, hI, hf⟩
              have HI1 := Aside0.mk hI
              have HI2 := Aside0.mk (HI2.out.keep hf (fun e => HN.out e.symm))
              have HB := Aside0.mk (HB.out.trans (hf.below HB.out.size (fun k hk => hk ▸ hg1)))
              clear hI hf
              go_wp2_with fail
              refine (r_short g2 s j m _ HI2.out (by omega) (by omega) (by omega) (by omega)).mono ?_
              rintro e w4 ⟨rfl, hI, hf⟩
              have HI2 := Aside0.mk hI
              have HI1 := Aside0.mk (HI1.out.keep hf HN.out)
              have HB := Aside0.mk (HB.out.trans (hf.below HB.out.size (fun k hk => hk ▸ HG.out)))
              clear hI hf
              go_wp2_with fail
              refine (r_place g1 s _ _ HI1.out).mono ?_
              rintro e w5 ⟨rfl, hI, hf⟩
              have HI2 := Aside0.mk (HI2.out.keep hf (fun e => HN.out e.symm))
              have HB := Aside0.mk (HB.out.trans (hf.below HB.out.size (fun k hk => hk ▸ hg1)))
              clear hI hf
              go_wp2_with fail
              refine (r_place g2 s _ _ HI2.out).mono ?_
              rintro e w6 ⟨rfl, hI, hf⟩
              have HB := Aside0.mk (HB.out.trans (hf.below HB.out.size (fun k hk => hk ▸ HG.out)))
              clear hI hf
              go_wp2_with fail
              refine (awake_any _).mono ?_
              rintro e w7 ⟨rfl, hb⟩
              have HB := Aside0.mk (HB.out.trans (hb.mono HB.out.size))
              clear hb
              go_wp2
              go_ret
              exact ⟨rfl, HB.out⟩
end Go.Proofs.Ytggfahgkjdkjmaa.HW
