/- slices.symMergeCmpFunc of packs, the first part of one element: walked. (printed by hsym.py) -/
import Derived.Test.YtmmoenleldcadaaHRot
namespace Go.Proofs.Ytmmoenleldcadaa.HF
open Go.RowKit Go.Proofs.YtmmoenleldcadaaW.PrintWords Go.Proofs.YtmmoenleldcadaaW.PrintLast Go.Proofs.YtmmoenleldcadaaW.PrintMore Go.Proofs.Ytmmoenleldcadaa.HW Go.Proofs.Ytmmoenleldcadaa.MB Go.Proofs.Ytmmoenleldcadaa.Fn
attribute [local go_sem] max2_int min2_int max_two min_two max_three min_three max_four min_four   -- for this text's walks alone
set_option maxRecDepth 100000 in
set_option maxHeartbeats 16000000 in
theorem symm_one {W : World} {B g n c : Nat} (xs : List Pk) (a b : Nat) (h : SD W W B g n c xs) (h1 : a + 1 < b) (h4 : b ≤ n) (hn : n ≤ 1000000) (hs : Sorted (a + 1) b xs) :
    Calls Try.prog 59 #[.slice (some ⟨g, 0, none⟩) n c, .int .i64 a, .int .i64 ((a + 1 : Nat) : Int), .int .i64 b, .func (.func 37) #[] #[]] W (SQ W B g n c a b xs) := by
  have hu := Try.underlying63
  have HS0 := Aside0.mk h
  have HH := Aside0.mk (And.intro h1 h4)
  have HSO := Aside0.mk hs
  obtain ⟨m, hm⟩ : ∃ m, a + 1 = m := ⟨_, rfl⟩
  have HM := Aside0.mk hm
  have hlen := h.len
  have ha64 : a ≤ 1000000 := by omega
  have hb64 : b ≤ 1000000 := by omega
  have hm64 : m ≤ 1000000 := by omega
  have r1 : (((m : Int) - (a : Int)) == 1) = true := by simp; omega
  have r2 : IntKind.i64.wrap ((m : Int) - (a : Int)) = (m : Int) - (a : Int) := IntWalk.i64_in _ (by omega)
  have HL := Aside0.mk hlen
  rw [hm]
  clear h h1 h4 hs hm hlen
  go_enter Try.func59, Try.ntmps59
  go_wp2_with fail
  go_loopw [10, 11] (fun v10 v11 wr => ∃ i j : Nat, v10 = .int .i64 i ∧ v11 = .int .i64 j ∧ Aside0 (m ≤ i ∧ i ≤ j ∧ j ≤ b) ∧ Aside0 (SD W wr B g n c xs) ∧ Aside0 ((∀ q, a < q → q < i → wtP xs q < wtP xs a) ∧ (∀ q, j ≤ q → q < b → wtP xs a ≤ wtP xs q))) (fun v10 v11 _ => (intOf v11).toNat - (intOf v10).toNat)
  case atStart => exact ⟨m, b, rfl, rfl, ⟨by have := HH.out; have := HM.out; omega⟩, HS0, ⟨fun q h1 h2 => by have := HM.out; omega, fun q h1 h2 => by omega⟩⟩
  case round =>
    clear HS0
    obtain ⟨i, j, rfl, rfl, HIJ, HS, HQ⟩ := hrel
    by_cases hlt : i < j
    · have hb1 : decide (i < j) = true := by simp; omega
      have hij := HIJ.out
      have hh := HH.out
      have hm := HM.out
      obtain ⟨hf, hhf⟩ : ∃ hf, (i + j) / 2 = hf := ⟨_, rfl⟩
      have hi64 : i ≤ 1000000 := by omega
      have hj64 : j ≤ 1000000 := by omega
      have he : ((i : Int) + (j : Int)) / 2 = ((hf : Nat) : Int) := by omega
      have HHF := Aside0.mk (show i ≤ hf ∧ hf < j ∧ m ≤ hf ∧ hf < b ∧ b ≤ n from by omega)
      have hhf64 : hf ≤ 1000000 := by omega
      have q1 : (0 : Int) ≤ (hf : Int) := by omega
      have q2 : (hf : Int) < (n : Int) := by omega
      have q3 : (0 : Int) ≤ (a : Int) := by omega
      have q4 : (a : Int) < (n : Int) := by omega
      clear hij hh hm hhf hlt
      go_upto_region 5 with (fail)
      clear he
      obtain ⟨c0, c1⟩ := atP HS.out.ro hf (by have := HHF.out; omega)
      obtain ⟨d0, d1⟩ := atP HS.out.ro a (by have := HH.out; omega)
      obtain ⟨⟨x0, x1, x2, x3, x4⟩, hx⟩ : ∃ z, rdP xs hf = z := ⟨_, rfl⟩
      obtain ⟨⟨y0, y1, y2, y3, y4⟩, hy⟩ : ∃ z, rdP xs a = z := ⟨_, rfl⟩
      rw [hx] at c0 c1
      rw [hy] at d0 d1
      simp only at c0 c1 d0 d1
      have HX := Aside0.mk (And.intro hx hy)
      clear hx hy
      refine wp_region_any (by kernel_rfl) ?_
      change wpAny _ _ _ _ _ _ _ (World.drew _)
      refine wpAny_take (i := 0) (v := ?va1) rfl (by kernel_rfl) (by kernel_rfl) (by kernel_rfl) (fun _ _ _ h => h) (Or.inl ⟨by kernel_rfl, ?ya1⟩) ?_
      case ya1 => (intro w; go_simp; try with_reducible rfl)
      refine wpAny_take (i := 1) (v := ?va2) rfl (by kernel_rfl) (by kernel_rfl) (by kernel_rfl) (fun _ _ _ h => h) (Or.inl ⟨by kernel_rfl, ?ya2⟩) ?_
      case ya2 => (intro w; go_simp; try with_reducible rfl)
      refine wpAny_take (i := 2) (v := ?va3) rfl (by kernel_rfl) (by kernel_rfl) (by kernel_rfl) (fun _ _ _ h => h) (Or.inl ⟨by kernel_rfl, ?ya3⟩) ?_
      case ya3 => (intro w; go_simp; try with_reducible rfl)
      refine wpAny_take (i := 3) (v := ?va4) rfl (by kernel_rfl) (by kernel_rfl) (by kernel_rfl) (fun _ _ _ h => h) (Or.inl ⟨by kernel_rfl, ?ya4⟩) ?_
      case ya4 => (intro w; go_simp; try with_reducible rfl)
      refine wpAny_take (i := 5) (v := ?va5) rfl (by kernel_rfl) (by kernel_rfl) (by kernel_rfl) (fun _ _ _ h => h) (Or.inl ⟨by kernel_rfl, ?ya5⟩) ?_
      case ya5 => (intro w; go_simp; try with_reducible rfl)
      refine wpAny_take (i := 6) (v := ?va6) rfl (by kernel_rfl) (by kernel_rfl) (by kernel_rfl) (fun _ _ _ h => h) (Or.inl ⟨by kernel_rfl, ?ya6⟩) ?_
      case ya6 => (intro w; go_simp; try with_reducible rfl)
      refine wpAny_take (i := 7) (v := ?va7) rfl (by kernel_rfl) (by kernel_rfl) (by kernel_rfl) (fun _ _ _ h => h) (Or.inl ⟨by kernel_rfl, ?ya7⟩) ?_
      case ya7 => (intro w; go_simp; try with_reducible rfl)
      refine wpAny_ready (rs := [4, 8]) (by kernel_rfl) (by simp) ?_
      refine (AllReady.cons rfl (fun K hK => ?_) (AllReady.cons rfl (fun K hK => ?_) AllReady.nil))
      · skip
        go_simp
        refine hK _ _ ?_
        clear hK K
        refine wpAny_ready (rs := [8]) (by kernel_rfl) (by simp) ?_
        refine (AllReady.cons rfl (fun K hK => ?_) AllReady.nil)
        go_simp
        refine hK _ _ ?_
        clear hK K
        refine wpAny_ready (rs := [9]) (by kernel_rfl) (by simp) ?_
        refine (AllReady.cons rfl (fun K hK => ?_) AllReady.nil)
        go_simp
        go_wp2_with fail
        refine (pcmp_val x0 x1 x2 x3 y0 y1 y2 y3 _).mono ?_
        rintro e w3 ⟨rfl, hb⟩
        have HS3 := Aside0.mk (HS.out.drew.below hb)
        clear hb c0 c1 d0 d1
        refine hK _ _ ?_
        clear hK K
        refine wpAny_take (i := 10) (v := ?va8) rfl (by kernel_rfl) (by kernel_rfl) (by kernel_rfl) (fun _ _ _ h => h) (Or.inl ⟨by kernel_rfl, ?ya8⟩) ?_
        case ya8 => (intro w; go_simp; try with_reducible rfl)
        refine wpAny_done (by kernel_rfl) ?_ _
        by_cases hc : x0 < y0
        · have hc1 : decide (cmp3 x0 y0 < 0) = true := by rw [cmp3_lt]; simpa using hc
          have hc2 : cmp3 x0 y0 < 0 := of_decide_eq_true hc1
          have HQ2 : Aside0 ((∀ q, a < q → q < hf + 1 → wtP xs q < wtP xs a) ∧ (∀ q, j ≤ q → q < b → wtP xs a ≤ wtP xs q)) := ⟨fun q h1 h2 => by
            have y1 : wtP xs q ≤ wtP xs hf := HSO.out.le (by omega) (by omega) (by have := HHF.out; omega)
            have y2 : wtP xs hf < wtP xs a := by unfold wtP; rw [HX.out.1, HX.out.2]; exact hc
            omega, HQ.out.2⟩
          clear hc
          go_wp2_with fail
          go_roundw
          case rel => exact ⟨hf + 1, j, by simp, rfl, ⟨by have := HHF.out; have := HIJ.out; omega⟩, HS3, HQ2⟩
          case measure => simp [intOf]; have := HHF.out; omega
        · have hc1 : decide (cmp3 x0 y0 < 0) = false := by rw [cmp3_lt]; simpa using hc
          have hc2 : ¬ cmp3 x0 y0 < 0 := of_decide_eq_false hc1
          have HQ2 : Aside0 ((∀ q, a < q → q < i → wtP xs q < wtP xs a) ∧ (∀ q, hf ≤ q → q < b → wtP xs a ≤ wtP xs q)) := ⟨HQ.out.1, fun q h1 h2 => by
            have y1 : wtP xs hf ≤ wtP xs q := HSO.out.le (by have := HHF.out; have := HM.out; omega) (by omega) (by omega)
            have y2 : wtP xs a ≤ wtP xs hf := by unfold wtP; rw [HX.out.1, HX.out.2]; simp only; omega
            omega⟩
          clear hc
          go_wp2_with fail
          go_roundw
          case rel => exact ⟨i, hf, rfl, rfl, ⟨by have := HHF.out; have := HIJ.out; omega⟩, HS3, HQ2⟩
          case measure => simp [intOf]; have := HHF.out; omega
      · skip
        go_simp
        refine hK _ _ ?_
        clear hK K
        refine wpAny_ready (rs := [4]) (by kernel_rfl) (by simp) ?_
        refine (AllReady.cons rfl (fun K hK => ?_) AllReady.nil)
        go_simp
        refine hK _ _ ?_
        clear hK K
        refine wpAny_ready (rs := [9]) (by kernel_rfl) (by simp) ?_
        refine (AllReady.cons rfl (fun K hK => ?_) AllReady.nil)
        go_simp
        go_wp2_with fail
        refine (pcmp_val x0 x1 x2 x3 y0 y1 y2 y3 _).mono ?_
        rintro e w3 ⟨rfl, hb⟩
        have HS3 := Aside0.mk (HS.out.drew.below hb)
        clear hb c0 c1 d0 d1
        refine hK _ _ ?_
        clear hK K
        refine wpAny_take (i := 10) (v := ?va9) rfl (by kernel_rfl) (by kernel_rfl) (by kernel_rfl) (fun _ _ _ h => h) (Or.inl ⟨by kernel_rfl, ?ya9⟩) ?_
        case ya9 => (intro w; go_simp; try with_reducible rfl)
        refine wpAny_done (by kernel_rfl) ?_ _
        by_cases hc : x0 < y0
        · have hc1 : decide (cmp3 x0 y0 < 0) = true := by rw [cmp3_lt]; simpa using hc
          have hc2 : cmp3 x0 y0 < 0 := of_decide_eq_true hc1
          have HQ2 : Aside0 ((∀ q, a < q → q < hf + 1 → wtP xs q < wtP xs a) ∧ (∀ q, j ≤ q → q < b → wtP xs a ≤ wtP xs q)) := ⟨fun q h1 h2 => by
            have y1 : wtP xs q ≤ wtP xs hf := HSO.out.le (by omega) (by omega) (by have := HHF.out; omega)
            have y2 : wtP xs hf < wtP xs a := by unfold wtP; rw [HX.out.1, HX.out.2]; exact hc
            omega, HQ.out.2⟩
          clear hc
          go_wp2_with fail
          go_roundw
          case rel => exact ⟨hf + 1, j, by simp, rfl, ⟨by have := HHF.out; have := HIJ.out; omega⟩, HS3, HQ2⟩
          case measure => simp [intOf]; have := HHF.out; omega
        · have hc1 : decide (cmp3 x0 y0 < 0) = false := by rw [cmp3_lt]; simpa using hc
          have hc2 : ¬ cmp3 x0 y0 < 0 := of_decide_eq_false hc1
          have HQ2 : Aside0 ((∀ q, a < q → q < i → wtP xs q < wtP xs a) ∧ (∀ q, hf ≤ q → q < b → wtP xs a ≤ wtP xs q)) := ⟨HQ.out.1, fun q h1 h2 => by
            have y1 : wtP xs hf ≤ wtP xs q := HSO.out.le (by have := HHF.out; have := HM.out; omega) (by omega) (by omega)
            have y2 : wtP xs a ≤ wtP xs hf := by unfold wtP; rw [HX.out.1, HX.out.2]; simp only; omega
            omega⟩
          clear hc
          go_wp2_with fail
          go_roundw
          case rel => exact ⟨i, hf, rfl, rfl, ⟨by have := HHF.out; have := HIJ.out; omega⟩, HS3, HQ2⟩
          case measure => simp [intOf]; have := HHF.out; omega
    · have hb1 : decide (i < j) = false := by simp; omega
      have hie : i = j := by have := HIJ.out; omega
      subst hie
      have HI := Aside0.mk (show a < i ∧ i ≤ b ∧ b ≤ n from by have := HIJ.out; have := HM.out; have := HH.out; omega)
      have hi64 : i ≤ 1000000 := by have := HI.out; omega
      have hi1 : 1 ≤ i := by have := HI.out; omega
      have s1 : (i : Int) - 1 = ((i - 1 : Nat) : Int) := by omega
      have HS1 := Aside0.mk s1
      have hw : IntKind.i64.wrap ((i : Int) - 1) = (i : Int) - 1 := IntWalk.i64_in _ (by omega)
      obtain ⟨wo, hwo⟩ : ∃ wo : World, wo = wr := ⟨_, rfl⟩
      subst hwo
      clear hlt s1
      go_wp2_with fail
      go_loopw [13] (fun v13 wr => ∃ (k : Nat) (zs : List Pk), v13 = .int .i64 k ∧ Aside0 (a ≤ k ∧ k ≤ i - 1) ∧ Aside0 (SD W wr B g n c zs) ∧ Aside0 (UpR a b k xs zs)) (fun v13 _ => i - (intOf v13).toNat)
      case atStart => exact ⟨a, xs, rfl, ⟨by have := HI.out; omega⟩, HS, ⟨UpR.start _ _ _⟩⟩
      case round =>
        clear HS
        obtain ⟨k, zs, rfl, HK, HS, HR⟩ := hrel
        have hk64 : k ≤ 1000000 := by have := HK.out; omega
        have hw2 : IntKind.i64.wrap ((i : Int) - 1) = (i : Int) - 1 := IntWalk.i64_in _ (by omega)
        by_cases hlt : k < i - 1
        · have hb2 : decide ((k : Int) < (i : Int) - 1) = true := by simp; omega
          have hlen := HS.out.len
          have HJ := Aside0.mk (show a ≤ k ∧ k + 1 < i ∧ i ≤ b ∧ b ≤ n ∧ n = zs.length from by have := HK.out; have := HI.out; omega)
          have q1 : (0 : Int) ≤ (k : Int) := by omega
          have q2 : (k : Int) < (n : Int) := by have := HJ.out; omega
          have q3 : (0 : Int) ≤ (k : Int) + 1 := by omega
          have q4 : (k : Int) + 1 < (n : Int) := by have := HJ.out; omega
          have q5 : ((k : Int) + 1).toNat = k + 1 := by omega
          have q6 : IntKind.i64.wrap ((k : Int) + 1) = (k : Int) + 1 := IntWalk.i64_in _ (by omega)
          clear hlt hlen
          go_upto_region 11 with (fail)
          have HS4 := Aside0.mk HS.out.drew
          obtain ⟨c0, c1⟩ := atP HS.out.ro k (by have := HJ.out; omega)
          obtain ⟨d0, d1⟩ := atP HS.out.ro (k + 1) (by have := HJ.out; omega)
          obtain ⟨⟨x0, x1, x2, x3, x4⟩, hx⟩ : ∃ z, rdP zs k = z := ⟨_, rfl⟩
          obtain ⟨⟨y0, y1, y2, y3, y4⟩, hy⟩ : ∃ z, rdP zs (k + 1) = z := ⟨_, rfl⟩
          rw [hx] at c0 c1
          rw [hy] at d0 d1
          simp only at c0 c1 d0 d1
          have HX := Aside0.mk (And.intro hx hy)
          clear hx hy
          refine wp_region_any (by kernel_rfl) ?_
          change wpAny _ _ _ _ _ _ _ (World.drew _)
          refine wpAny_take (i := 0) (v := ?vb10) rfl (by kernel_rfl) (by kernel_rfl) (by kernel_rfl) (fun _ _ _ h => h) (Or.inl ⟨by kernel_rfl, ?yb10⟩) ?_
          case yb10 => (intro w; go_simp; try with_reducible rfl)
          refine wpAny_take (i := 1) (v := ?vb11) rfl (by kernel_rfl) (by kernel_rfl) (by kernel_rfl) (fun _ _ _ h => h) (Or.inl ⟨by kernel_rfl, ?yb11⟩) ?_
          case yb11 => (intro w; go_simp; try with_reducible rfl)
          refine wpAny_take (i := 2) (v := ?vb12) rfl (by kernel_rfl) (by kernel_rfl) (by kernel_rfl) (fun _ _ _ h => h) (Or.inl ⟨by kernel_rfl, ?yb12⟩) ?_
          case yb12 => (intro w; go_simp; try with_reducible rfl)
          refine wpAny_take (i := 3) (v := ?vb13) rfl (by kernel_rfl) (by kernel_rfl) (by kernel_rfl) (fun _ _ _ h => h) (Or.inl ⟨by kernel_rfl, ?yb13⟩) ?_
          case yb13 => (intro w; go_simp; try with_reducible rfl)
          refine wpAny_take (i := 4) (v := ?vb14) rfl (by kernel_rfl) (by kernel_rfl) (by kernel_rfl) (fun _ _ _ h => h) (Or.inl ⟨by kernel_rfl, ?yb14⟩) ?_
          case yb14 => (intro w; go_simp; try with_reducible rfl)
          refine wpAny_take (i := 5) (v := ?vb15) rfl (by kernel_rfl) (by kernel_rfl) (by kernel_rfl) (fun _ _ _ h => h) (Or.inl ⟨by kernel_rfl, ?yb15⟩) ?_
          case yb15 => (intro w; go_simp; try with_reducible rfl)
          refine wpAny_take (i := 6) (v := ?vb16) rfl (by kernel_rfl) (by kernel_rfl) (by kernel_rfl) (fun _ _ _ h => h) (Or.inl ⟨by kernel_rfl, ?yb16⟩) ?_
          case yb16 => (intro w; go_simp; try with_reducible rfl)
          refine wpAny_take (i := 7) (v := ?vb17) rfl (by kernel_rfl) (by kernel_rfl) (by kernel_rfl) (fun _ _ _ h => h) (Or.inl ⟨by kernel_rfl, ?yb17⟩) ?_
          case yb17 => (intro w; go_simp; try with_reducible rfl)
          refine wpAny_take (i := 8) (v := ?vb18) rfl (by kernel_rfl) (by kernel_rfl) (by kernel_rfl) (fun _ _ _ h => h) (Or.inl ⟨by kernel_rfl, ?yb18⟩) ?_
          case yb18 => (intro w; go_simp; try with_reducible rfl)
          refine wpAny_take (i := 10) (v := ?vb19) rfl (by kernel_rfl) (by kernel_rfl) (by kernel_rfl) (fun _ _ _ h => h) (Or.inl ⟨by kernel_rfl, ?yb19⟩) ?_
          case yb19 => (intro w; go_simp; try with_reducible rfl)
          refine wpAny_take (i := 11) (v := ?vb20) rfl (by kernel_rfl) (by kernel_rfl) (by kernel_rfl) (fun _ _ _ h => h) (Or.inl ⟨by kernel_rfl, ?yb20⟩) ?_
          case yb20 => (intro w; go_simp; try with_reducible rfl)
          refine wpAny_take (i := 12) (v := ?vb21) rfl (by kernel_rfl) (by kernel_rfl) (by kernel_rfl) (fun _ _ _ h => h) (Or.inl ⟨by kernel_rfl, ?yb21⟩) ?_
          case yb21 => (intro w; go_simp; try with_reducible rfl)
          refine wpAny_ready (rs := [9, 13]) (by kernel_rfl) (by simp) ?_
          refine (AllReady.cons rfl (fun K hK => ?_) (AllReady.cons rfl (fun K hK => ?_) AllReady.nil))
          · skip
            go_simp
            refine hK _ _ ?_
            clear hK K
            refine wpAny_ready (rs := [13]) (by kernel_rfl) (by simp) ?_
            refine (AllReady.cons rfl (fun K hK => ?_) AllReady.nil)
            go_simp
            refine hK _ _ ?_
            clear hK K
            refine wpAny_take (i := 14) (v := ?vb22) rfl (by kernel_rfl) (by kernel_rfl) (by kernel_rfl) (fun _ _ _ h => h) (Or.inl ⟨by kernel_rfl, ?yb22⟩) ?_
            case yb22 => (intro w; go_simp; try with_reducible rfl)
            refine wpAny_ready (rs := [15]) (by kernel_rfl) (by simp) ?_
            refine (AllReady.cons rfl (fun K hK => ?_) AllReady.nil)
            have hh := HJ.out
            refine store_step B (by kernel_rfl) rfl (.tmp 75) (.tmp 70) rfl (k) zs ⟨y0, y1, y2, y3, y4⟩ (by rfl) (by rfl) (by rfl) HS4.out.ro (by omega) ?_
            clear hh
            intro w5 hr5 hf5
            have HS5 := Aside0.mk (HS4.out.step hr5 hf5)
            clear hr5 hf5
            refine hK _ _ ?_
            clear hK K
            refine wpAny_take (i := 16) (v := ?vb23) rfl (by kernel_rfl) (by kernel_rfl) (by kernel_rfl) (fun _ _ _ h => h) (Or.inl ⟨by kernel_rfl, ?yb23⟩) ?_
            case yb23 => (intro w; go_simp; try with_reducible rfl)
            refine wpAny_ready (rs := [17]) (by kernel_rfl) (by simp) ?_
            refine (AllReady.cons rfl (fun K hK => ?_) AllReady.nil)
            have hh := HJ.out
            refine store_step B (by kernel_rfl) rfl (.tmp 76) (.tmp 74) rfl (k + 1) (zs.set k ⟨y0, y1, y2, y3, y4⟩) ⟨x0, x1, x2, x3, x4⟩ (by rfl) (by rfl) (by rfl) HS5.out.ro (by omega) ?_
            clear hh
            intro w6 hr6 hf6
            have HS6 := Aside0.mk (HS5.out.step hr6 hf6)
            clear hr6 hf6
            refine hK _ _ ?_
            clear hK K
            refine wpAny_done (by kernel_rfl) ?_ _
            have HR2 : Aside0 (UpR a b (k + 1) xs ((zs.set k ⟨y0, y1, y2, y3, y4⟩).set (k + 1) ⟨x0, x1, x2, x3, x4⟩)) := ⟨by have h := HR.out.step HJ.out.1 (by have := HJ.out; omega) (by have := HJ.out; omega); unfold swp at h; rw [HX.out.1, HX.out.2] at h; exact h⟩
            go_wp2_with fail
            go_roundw
            case rel => exact ⟨k + 1, _, by simp, ⟨by have := HJ.out; omega⟩, HS6, HR2⟩
            case measure => simp [intOf]; have := HJ.out; omega
          · skip
            go_simp
            refine hK _ _ ?_
            clear hK K
            refine wpAny_ready (rs := [9]) (by kernel_rfl) (by simp) ?_
            refine (AllReady.cons rfl (fun K hK => ?_) AllReady.nil)
            go_simp
            refine hK _ _ ?_
            clear hK K
            refine wpAny_take (i := 14) (v := ?vb24) rfl (by kernel_rfl) (by kernel_rfl) (by kernel_rfl) (fun _ _ _ h => h) (Or.inl ⟨by kernel_rfl, ?yb24⟩) ?_
            case yb24 => (intro w; go_simp; try with_reducible rfl)
            refine wpAny_ready (rs := [15]) (by kernel_rfl) (by simp) ?_
            refine (AllReady.cons rfl (fun K hK => ?_) AllReady.nil)
            have hh := HJ.out
            refine store_step B (by kernel_rfl) rfl (.tmp 75) (.tmp 70) rfl (k) zs ⟨y0, y1, y2, y3, y4⟩ (by rfl) (by rfl) (by rfl) HS4.out.ro (by omega) ?_
            clear hh
            intro w5 hr5 hf5
            have HS5 := Aside0.mk (HS4.out.step hr5 hf5)
            clear hr5 hf5
            refine hK _ _ ?_
            clear hK K
            refine wpAny_take (i := 16) (v := ?vb25) rfl (by kernel_rfl) (by kernel_rfl) (by kernel_rfl) (fun _ _ _ h => h) (Or.inl ⟨by kernel_rfl, ?yb25⟩) ?_
            case yb25 => (intro w; go_simp; try with_reducible rfl)
            refine wpAny_ready (rs := [17]) (by kernel_rfl) (by simp) ?_
            refine (AllReady.cons rfl (fun K hK => ?_) AllReady.nil)
            have hh := HJ.out
            refine store_step B (by kernel_rfl) rfl (.tmp 76) (.tmp 74) rfl (k + 1) (zs.set k ⟨y0, y1, y2, y3, y4⟩) ⟨x0, x1, x2, x3, x4⟩ (by rfl) (by rfl) (by rfl) HS5.out.ro (by omega) ?_
            clear hh
            intro w6 hr6 hf6
            have HS6 := Aside0.mk (HS5.out.step hr6 hf6)
            clear hr6 hf6
            refine hK _ _ ?_
            clear hK K
            refine wpAny_done (by kernel_rfl) ?_ _
            have HR2 : Aside0 (UpR a b (k + 1) xs ((zs.set k ⟨y0, y1, y2, y3, y4⟩).set (k + 1) ⟨x0, x1, x2, x3, x4⟩)) := ⟨by have h := HR.out.step HJ.out.1 (by have := HJ.out; omega) (by have := HJ.out; omega); unfold swp at h; rw [HX.out.1, HX.out.2] at h; exact h⟩
            go_wp2_with fail
            go_roundw
            case rel => exact ⟨k + 1, _, by simp, ⟨by have := HJ.out; omega⟩, HS6, HR2⟩
            case measure => simp [intOf]; have := HJ.out; omega
        · have hb2 : decide ((k : Int) < (i : Int) - 1) = false := by simp; have := HK.out; omega
          have hke : k = i - 1 := by have := HK.out; omega
          subst hke
          have HO := Aside0.mk (HR.out.sorted ⟨HI.out.1, HI.out.2.1⟩ HSO.out HQ.out.1 HQ.out.2)
          have HP := Aside0.mk (HR.out.perm ⟨HI.out.1, HI.out.2.1⟩ (by have := HL.out; have := HI.out; omega) HQ.out.1)
          clear hlt
          go_wp2_with fail
          go_end0
          exact ⟨rfl, zs, HS.out, HP.out, HO.out⟩
end Go.Proofs.Ytmmoenleldcadaa.HF
