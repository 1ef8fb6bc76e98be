/- slices.symMergeCmpFunc of packs, the second part of one element: walked. (printed by hsym.py) -/
import Derived.Test.YtmmoenleldcadaaHSym1
namespace Go.Proofs.Ytmmoenleldcadaa.HF
open Go.RowKit Go.Proofs.YtmmoenleldcadaaW.PrintWords Go.Proofs.YtmmoenleldcadaaW.PrintLast Go.Proofs.YtmmoenleldcadaaW.PrintMore Go.Proofs.Ytmmoenleldcadaa.HW Go.Proofs.Ytmmoenleldcadaa.MB Go.Proofs.Ytmmoenleldcadaa.Fn
attribute [local go_sem] max2_int min2_int max_two min_two max_three min_three max_four min_four   -- for this text's walks alone
set_option maxRecDepth 100000 in
set_option maxHeartbeats 16000000 in
theorem symm_last {W : World} {B g n c : Nat} (xs : List Pk) (a m : Nat) (h : SD W W B g n c xs) (h1 : a + 1 < m) (h4 : m + 1 ≤ n) (hn : n ≤ 1000000) (hs : Sorted a m xs) :
    Calls Try.prog 59 #[.slice (some ⟨g, 0, none⟩) n c, .int .i64 a, .int .i64 m, .int .i64 ((m + 1 : Nat) : Int), .func (.func 37) #[] #[]] W (SQ W B g n c a (m + 1) xs) := by
  have hu := Try.underlying63
  have HS0 := Aside0.mk h
  have HH := Aside0.mk (And.intro h1 h4)
  have HSO := Aside0.mk hs
  obtain ⟨b, hm⟩ : ∃ b, m + 1 = b := ⟨_, rfl⟩
  have HM := Aside0.mk hm
  have hlen := h.len
  have ha64 : a ≤ 1000000 := by omega
  have hb64 : b ≤ 1000000 := by omega
  have hm64 : m ≤ 1000000 := by omega
  have r1 : (((m : Int) - (a : Int)) == 1) = false := by simp; omega
  have r2 : IntKind.i64.wrap ((m : Int) - (a : Int)) = (m : Int) - (a : Int) := IntWalk.i64_in _ (by omega)
  have r3 : (((b : Int) - (m : Int)) == 1) = true := by simp; omega
  have r4 : IntKind.i64.wrap ((b : Int) - (m : Int)) = (b : Int) - (m : Int) := IntWalk.i64_in _ (by omega)
  have HL := Aside0.mk hlen
  rw [hm]
  clear h h1 h4 hs hm hlen
  go_enter Try.func59, Try.ntmps59
  go_wp2_with fail
  go_loopw [14, 15] (fun v10 v11 wr => ∃ i j : Nat, v10 = .int .i64 i ∧ v11 = .int .i64 j ∧ Aside0 (a ≤ i ∧ i ≤ j ∧ j ≤ m) ∧ Aside0 (SD W wr B g n c xs) ∧ Aside0 ((∀ q, a ≤ q → q < i → wtP xs q ≤ wtP xs m) ∧ (∀ q, j ≤ q → q < m → wtP xs m < wtP xs q))) (fun v10 v11 _ => (intOf v11).toNat - (intOf v10).toNat)
  case atStart => exact ⟨a, m, rfl, rfl, ⟨by have := HH.out; omega⟩, HS0, ⟨fun q h1 h2 => by omega, fun q h1 h2 => by omega⟩⟩
  case round =>
    clear HS0
    obtain ⟨i, j, rfl, rfl, HIJ, HS, HQ⟩ := hrel
    by_cases hlt : i < j
    · have hb1 : decide (i < j) = true := by simp; omega
      have hij := HIJ.out
      have hh := HH.out
      obtain ⟨hf, hhf⟩ : ∃ hf, (i + j) / 2 = hf := ⟨_, rfl⟩
      have hi64 : i ≤ 1000000 := by omega
      have hj64 : j ≤ 1000000 := by omega
      have he : ((i : Int) + (j : Int)) / 2 = ((hf : Nat) : Int) := by omega
      have HHF := Aside0.mk (show i ≤ hf ∧ hf < j ∧ a ≤ hf ∧ hf < m ∧ m < n from by omega)
      have hhf64 : hf ≤ 1000000 := by omega
      have q1 : (0 : Int) ≤ (hf : Int) := by omega
      have q2 : (hf : Int) < (n : Int) := by omega
      have q3 : (0 : Int) ≤ (m : Int) := by omega
      have q4 : (m : Int) < (n : Int) := by omega
      clear hij hh hhf hlt
      go_upto_region 17 with (fail)
      clear he
      obtain ⟨c0, c1⟩ := atP HS.out.ro m (by have := HHF.out; omega)
      obtain ⟨d0, d1⟩ := atP HS.out.ro hf (by have := HHF.out; omega)
      obtain ⟨⟨x0, x1, x2, x3, x4⟩, hx⟩ : ∃ z, rdP xs m = z := ⟨_, rfl⟩
      obtain ⟨⟨y0, y1, y2, y3, y4⟩, hy⟩ : ∃ z, rdP xs hf = z := ⟨_, rfl⟩
      rw [hx] at c0 c1
      rw [hy] at d0 d1
      simp only at c0 c1 d0 d1
      have HX := Aside0.mk (And.intro hx hy)
      clear hx hy
      refine wp_region_any (by kernel_rfl) ?_
      change wpAny _ _ _ _ _ _ _ (World.drew _)
      refine wpAny_take (i := 0) (v := ?va26) rfl (by kernel_rfl) (by kernel_rfl) (by kernel_rfl) (fun _ _ _ h => h) (Or.inl ⟨by kernel_rfl, ?ya26⟩) ?_
      case ya26 => (intro w; go_simp; try with_reducible rfl)
      refine wpAny_take (i := 1) (v := ?va27) rfl (by kernel_rfl) (by kernel_rfl) (by kernel_rfl) (fun _ _ _ h => h) (Or.inl ⟨by kernel_rfl, ?ya27⟩) ?_
      case ya27 => (intro w; go_simp; try with_reducible rfl)
      refine wpAny_take (i := 2) (v := ?va28) rfl (by kernel_rfl) (by kernel_rfl) (by kernel_rfl) (fun _ _ _ h => h) (Or.inl ⟨by kernel_rfl, ?ya28⟩) ?_
      case ya28 => (intro w; go_simp; try with_reducible rfl)
      refine wpAny_take (i := 3) (v := ?va29) rfl (by kernel_rfl) (by kernel_rfl) (by kernel_rfl) (fun _ _ _ h => h) (Or.inl ⟨by kernel_rfl, ?ya29⟩) ?_
      case ya29 => (intro w; go_simp; try with_reducible rfl)
      refine wpAny_take (i := 5) (v := ?va30) rfl (by kernel_rfl) (by kernel_rfl) (by kernel_rfl) (fun _ _ _ h => h) (Or.inl ⟨by kernel_rfl, ?ya30⟩) ?_
      case ya30 => (intro w; go_simp; try with_reducible rfl)
      refine wpAny_take (i := 6) (v := ?va31) rfl (by kernel_rfl) (by kernel_rfl) (by kernel_rfl) (fun _ _ _ h => h) (Or.inl ⟨by kernel_rfl, ?ya31⟩) ?_
      case ya31 => (intro w; go_simp; try with_reducible rfl)
      refine wpAny_take (i := 7) (v := ?va32) rfl (by kernel_rfl) (by kernel_rfl) (by kernel_rfl) (fun _ _ _ h => h) (Or.inl ⟨by kernel_rfl, ?ya32⟩) ?_
      case ya32 => (intro w; go_simp; try with_reducible rfl)
      refine wpAny_ready (rs := [4, 8]) (by kernel_rfl) (by simp) ?_
      refine (AllReady.cons rfl (fun K hK => ?_) (AllReady.cons rfl (fun K hK => ?_) AllReady.nil))
      · skip
        go_simp
        refine hK _ _ ?_
        clear hK K
        refine wpAny_ready (rs := [8]) (by kernel_rfl) (by simp) ?_
        refine (AllReady.cons rfl (fun K hK => ?_) AllReady.nil)
        go_simp
        refine hK _ _ ?_
        clear hK K
        refine wpAny_ready (rs := [9]) (by kernel_rfl) (by simp) ?_
        refine (AllReady.cons rfl (fun K hK => ?_) AllReady.nil)
        go_simp
        go_wp2_with fail
        refine (pcmp_val x0 x1 x2 x3 y0 y1 y2 y3 _).mono ?_
        rintro e w3 ⟨rfl, hb⟩
        have HS3 := Aside0.mk (HS.out.drew.below hb)
        clear hb c0 c1 d0 d1
        refine hK _ _ ?_
        clear hK K
        refine wpAny_take (i := 10) (v := ?va33) rfl (by kernel_rfl) (by kernel_rfl) (by kernel_rfl) (fun _ _ _ h => h) (Or.inl ⟨by kernel_rfl, ?ya33⟩) ?_
        case ya33 => (intro w; go_simp; try with_reducible rfl)
        refine wpAny_take (i := 11) (v := ?va34) rfl (by kernel_rfl) (by kernel_rfl) (by kernel_rfl) (fun _ _ _ h => h) (Or.inl ⟨by kernel_rfl, ?ya34⟩) ?_
        case ya34 => (intro w; go_simp; try with_reducible rfl)
        refine wpAny_done (by kernel_rfl) ?_ _
        by_cases hc : x0 < y0
        · have hc1 : decide (cmp3 x0 y0 < 0) = true := by rw [cmp3_lt]; simpa using hc
          have hc2 : cmp3 x0 y0 < 0 := of_decide_eq_true hc1
          have hc3 : ¬ (0 ≤ cmp3 x0 y0) := by omega
          have hc4 : (!decide (cmp3 x0 y0 < 0)) = false := by rw [hc1]; rfl
          have HQ2 : Aside0 ((∀ q, a ≤ q → q < i → wtP xs q ≤ wtP xs m) ∧ (∀ q, hf ≤ q → q < m → wtP xs m < wtP xs q)) := ⟨HQ.out.1, fun q h1 h2 => by
            have y1 : wtP xs hf ≤ wtP xs q := HSO.out.le (by have := HHF.out; omega) (by omega) (by omega)
            have y2 : wtP xs m < wtP xs hf := by unfold wtP; rw [HX.out.1, HX.out.2]; exact hc
            omega⟩
          clear hc
          rw [hc1]
          go_wp2_with fail
          go_roundw
          case rel => exact ⟨i, hf, rfl, rfl, ⟨by have := HHF.out; have := HIJ.out; omega⟩, HS3, HQ2⟩
          case measure => simp [intOf]; have := HHF.out; omega
        · have hc1 : decide (cmp3 x0 y0 < 0) = false := by rw [cmp3_lt]; simpa using hc
          have hc2 : ¬ cmp3 x0 y0 < 0 := of_decide_eq_false hc1
          have hc3 : 0 ≤ cmp3 x0 y0 := by omega
          have hc4 : (!decide (cmp3 x0 y0 < 0)) = true := by rw [hc1]; rfl
          have HQ2 : Aside0 ((∀ q, a ≤ q → q < hf + 1 → wtP xs q ≤ wtP xs m) ∧ (∀ q, j ≤ q → q < m → wtP xs m < wtP xs q)) := ⟨fun q h1 h2 => by
            have y1 : wtP xs q ≤ wtP xs hf := HSO.out.le h1 (by omega) (by have := HHF.out; omega)
            have y2 : wtP xs hf ≤ wtP xs m := by unfold wtP; rw [HX.out.1, HX.out.2]; simp only; omega
            omega, HQ.out.2⟩
          clear hc
          rw [hc1]
          go_wp2_with fail
          go_roundw
          case rel => exact ⟨hf + 1, j, by simp, rfl, ⟨by have := HHF.out; have := HIJ.out; omega⟩, HS3, HQ2⟩
          case measure => simp [intOf]; have := HHF.out; omega
      · skip
        go_simp
        refine hK _ _ ?_
        clear hK K
        refine wpAny_ready (rs := [4]) (by kernel_rfl) (by simp) ?_
        refine (AllReady.cons rfl (fun K hK => ?_) AllReady.nil)
        go_simp
        refine hK _ _ ?_
        clear hK K
        refine wpAny_ready (rs := [9]) (by kernel_rfl) (by simp) ?_
        refine (AllReady.cons rfl (fun K hK => ?_) AllReady.nil)
        go_simp
        go_wp2_with fail
        refine (pcmp_val x0 x1 x2 x3 y0 y1 y2 y3 _).mono ?_
        rintro e w3 ⟨rfl, hb⟩
        have HS3 := Aside0.mk (HS.out.drew.below hb)
        clear hb c0 c1 d0 d1
        refine hK _ _ ?_
        clear hK K
        refine wpAny_take (i := 10) (v := ?va35) rfl (by kernel_rfl) (by kernel_rfl) (by kernel_rfl) (fun _ _ _ h => h) (Or.inl ⟨by kernel_rfl, ?ya35⟩) ?_
        case ya35 => (intro w; go_simp; try with_reducible rfl)
        refine wpAny_take (i := 11) (v := ?va36) rfl (by kernel_rfl) (by kernel_rfl) (by kernel_rfl) (fun _ _ _ h => h) (Or.inl ⟨by kernel_rfl, ?ya36⟩) ?_
        case ya36 => (intro w; go_simp; try with_reducible rfl)
        refine wpAny_done (by kernel_rfl) ?_ _
        by_cases hc : x0 < y0
        · have hc1 : decide (cmp3 x0 y0 < 0) = true := by rw [cmp3_lt]; simpa using hc
          have hc2 : cmp3 x0 y0 < 0 := of_decide_eq_true hc1
          have hc3 : ¬ (0 ≤ cmp3 x0 y0) := by omega
          have hc4 : (!decide (cmp3 x0 y0 < 0)) = false := by rw [hc1]; rfl
          have HQ2 : Aside0 ((∀ q, a ≤ q → q < i → wtP xs q ≤ wtP xs m) ∧ (∀ q, hf ≤ q → q < m → wtP xs m < wtP xs q)) := ⟨HQ.out.1, fun q h1 h2 => by
            have y1 : wtP xs hf ≤ wtP xs q := HSO.out.le (by have := HHF.out; omega) (by omega) (by omega)
            have y2 : wtP xs m < wtP xs hf := by unfold wtP; rw [HX.out.1, HX.out.2]; exact hc
            omega⟩
          clear hc
          rw [hc1]
          go_wp2_with fail
          go_roundw
          case rel => exact ⟨i, hf, rfl, rfl, ⟨by have := HHF.out; have := HIJ.out; omega⟩, HS3, HQ2⟩
          case measure => simp [intOf]; have := HHF.out; omega
        · have hc1 : decide (cmp3 x0 y0 < 0) = false := by rw [cmp3_lt]; simpa using hc
          have hc2 : ¬ cmp3 x0 y0 < 0 := of_decide_eq_false hc1
          have hc3 : 0 ≤ cmp3 x0 y0 := by omega
          have hc4 : (!decide (cmp3 x0 y0 < 0)) = true := by rw [hc1]; rfl
          have HQ2 : Aside0 ((∀ q, a ≤ q → q < hf + 1 → wtP xs q ≤ wtP xs m) ∧ (∀ q, j ≤ q → q < m → wtP xs m < wtP xs q)) := ⟨fun q h1 h2 => by
            have y1 : wtP xs q ≤ wtP xs hf := HSO.out.le h1 (by omega) (by have := HHF.out; omega)
            have y2 : wtP xs hf ≤ wtP xs m := by unfold wtP; rw [HX.out.1, HX.out.2]; simp only; omega
            omega, HQ.out.2⟩
          clear hc
          rw [hc1]
          go_wp2_with fail
          go_roundw
          case rel => exact ⟨hf + 1, j, by simp, rfl, ⟨by have := HHF.out; have := HIJ.out; omega⟩, HS3, HQ2⟩
          case measure => simp [intOf]; have := HHF.out; omega
    · have hb1 : decide (i < j) = false := by simp; omega
      have hie : i = j := by have := HIJ.out; omega
      subst hie
      have HI := Aside0.mk (show a ≤ i ∧ i ≤ m ∧ m < n from by have := HIJ.out; have := HH.out; omega)
      have hi64 : i ≤ 1000000 := by have := HI.out; omega
      obtain ⟨wo, hwo⟩ : ∃ wo : World, wo = wr := ⟨_, rfl⟩
      subst hwo
      clear hlt
      go_wp2_with fail
      go_loopw [17] (fun v13 wr => ∃ (k : Nat) (zs : List Pk), v13 = .int .i64 k ∧ Aside0 (i ≤ k ∧ k ≤ m) ∧ Aside0 (SD W wr B g n c zs) ∧ Aside0 (DnR a b m k xs zs)) (fun v13 _ => (intOf v13).toNat)
      case atStart => exact ⟨m, xs, rfl, ⟨by have := HI.out; omega⟩, HS, ⟨DnR.start _ _ _ _⟩⟩
      case round =>
        clear HS
        obtain ⟨k, zs, rfl, HK, HS, HR⟩ := hrel
        have hk64 : k ≤ 1000000 := by have := HK.out; omega
        by_cases hlt : i < k
        · have hb2 : decide (i < k) = true := by simp; omega
          have hlen := HS.out.len
          have HJ := Aside0.mk (show i < k ∧ k ≤ m ∧ m + 1 = b ∧ b ≤ n ∧ n = zs.length ∧ a ≤ i from by have := HK.out; have := HI.out; have := HM.out; omega)
          have q1 : (0 : Int) ≤ (k : Int) := by omega
          have q2 : (k : Int) < (n : Int) := by have := HJ.out; omega
          have q3 : (0 : Int) ≤ (k : Int) - 1 := by omega
          have q0 : 1 ≤ k := by omega
          have q7 : 1 ≤ (k : Int) := by omega
          have q4 : (k : Int) - 1 < (n : Int) := by have := HJ.out; omega
          have q5 : ((k : Int) - 1).toNat = k - 1 := by omega
          have q6 : IntKind.i64.wrap ((k : Int) - 1) = (k : Int) - 1 := IntWalk.i64_in _ (by omega)
          clear hlt hlen
          go_upto_region 23 with (fail)
          have HS4 := Aside0.mk HS.out.drew
          obtain ⟨c0, c1⟩ := atP HS.out.ro k (by have := HJ.out; omega)
          obtain ⟨d0, d1⟩ := atP HS.out.ro (k - 1) (by have := HJ.out; omega)
          obtain ⟨⟨x0, x1, x2, x3, x4⟩, hx⟩ : ∃ z, rdP zs k = z := ⟨_, rfl⟩
          obtain ⟨⟨y0, y1, y2, y3, y4⟩, hy⟩ : ∃ z, rdP zs (k - 1) = z := ⟨_, rfl⟩
          rw [hx] at c0 c1
          rw [hy] at d0 d1
          simp only at c0 c1 d0 d1
          have HX := Aside0.mk (And.intro hx hy)
          clear hx hy
          refine wp_region_any (by kernel_rfl) ?_
          change wpAny _ _ _ _ _ _ _ (World.drew _)
          refine wpAny_take (i := 0) (v := ?vb37) rfl (by kernel_rfl) (by kernel_rfl) (by kernel_rfl) (fun _ _ _ h => h) (Or.inl ⟨by kernel_rfl, ?yb37⟩) ?_
          case yb37 => (intro w; go_simp; try with_reducible rfl)
          refine wpAny_take (i := 1) (v := ?vb38) rfl (by kernel_rfl) (by kernel_rfl) (by kernel_rfl) (fun _ _ _ h => h) (Or.inl ⟨by kernel_rfl, ?yb38⟩) ?_
          case yb38 => (intro w; go_simp; try with_reducible rfl)
          refine wpAny_take (i := 2) (v := ?vb39) rfl (by kernel_rfl) (by kernel_rfl) (by kernel_rfl) (fun _ _ _ h => h) (Or.inl ⟨by kernel_rfl, ?yb39⟩) ?_
          case yb39 => (intro w; go_simp; try with_reducible rfl)
          refine wpAny_take (i := 3) (v := ?vb40) rfl (by kernel_rfl) (by kernel_rfl) (by kernel_rfl) (fun _ _ _ h => h) (Or.inl ⟨by kernel_rfl, ?yb40⟩) ?_
          case yb40 => (intro w; go_simp; try with_reducible rfl)
          refine wpAny_take (i := 4) (v := ?vb41) rfl (by kernel_rfl) (by kernel_rfl) (by kernel_rfl) (fun _ _ _ h => h) (Or.inl ⟨by kernel_rfl, ?yb41⟩) ?_
          case yb41 => (intro w; go_simp; try with_reducible rfl)
          refine wpAny_take (i := 5) (v := ?vb42) rfl (by kernel_rfl) (by kernel_rfl) (by kernel_rfl) (fun _ _ _ h => h) (Or.inl ⟨by kernel_rfl, ?yb42⟩) ?_
          case yb42 => (intro w; go_simp; try with_reducible rfl)
          refine wpAny_take (i := 6) (v := ?vb43) rfl (by kernel_rfl) (by kernel_rfl) (by kernel_rfl) (fun _ _ _ h => h) (Or.inl ⟨by kernel_rfl, ?yb43⟩) ?_
          case yb43 => (intro w; go_simp; try with_reducible rfl)
          refine wpAny_take (i := 7) (v := ?vb44) rfl (by kernel_rfl) (by kernel_rfl) (by kernel_rfl) (fun _ _ _ h => h) (Or.inl ⟨by kernel_rfl, ?yb44⟩) ?_
          case yb44 => (intro w; go_simp; try with_reducible rfl)
          refine wpAny_take (i := 8) (v := ?vb45) rfl (by kernel_rfl) (by kernel_rfl) (by kernel_rfl) (fun _ _ _ h => h) (Or.inl ⟨by kernel_rfl, ?yb45⟩) ?_
          case yb45 => (intro w; go_simp; try with_reducible rfl)
          refine wpAny_take (i := 10) (v := ?vb46) rfl (by kernel_rfl) (by kernel_rfl) (by kernel_rfl) (fun _ _ _ h => h) (Or.inl ⟨by kernel_rfl, ?yb46⟩) ?_
          case yb46 => (intro w; go_simp; try with_reducible rfl)
          refine wpAny_take (i := 11) (v := ?vb47) rfl (by kernel_rfl) (by kernel_rfl) (by kernel_rfl) (fun _ _ _ h => h) (Or.inl ⟨by kernel_rfl, ?yb47⟩) ?_
          case yb47 => (intro w; go_simp; try with_reducible rfl)
          refine wpAny_take (i := 12) (v := ?vb48) rfl (by kernel_rfl) (by kernel_rfl) (by kernel_rfl) (fun _ _ _ h => h) (Or.inl ⟨by kernel_rfl, ?yb48⟩) ?_
          case yb48 => (intro w; go_simp; try with_reducible rfl)
          refine wpAny_ready (rs := [9, 13]) (by kernel_rfl) (by simp) ?_
          refine (AllReady.cons rfl (fun K hK => ?_) (AllReady.cons rfl (fun K hK => ?_) AllReady.nil))
          · skip
            go_simp
            refine hK _ _ ?_
            clear hK K
            refine wpAny_ready (rs := [13]) (by kernel_rfl) (by simp) ?_
            refine (AllReady.cons rfl (fun K hK => ?_) AllReady.nil)
            go_simp
            refine hK _ _ ?_
            clear hK K
            refine wpAny_take (i := 14) (v := ?vb49) rfl (by kernel_rfl) (by kernel_rfl) (by kernel_rfl) (fun _ _ _ h => h) (Or.inl ⟨by kernel_rfl, ?yb49⟩) ?_
            case yb49 => (intro w; go_simp; try with_reducible rfl)
            refine wpAny_ready (rs := [15]) (by kernel_rfl) (by simp) ?_
            refine (AllReady.cons rfl (fun K hK => ?_) AllReady.nil)
            have hh := HJ.out
            refine store_step B (by kernel_rfl) rfl (.tmp 127) (.tmp 122) rfl (k) zs ⟨y0, y1, y2, y3, y4⟩ (by rfl) (by rfl) (by rfl) HS4.out.ro (by omega) ?_
            clear hh
            intro w5 hr5 hf5
            have HS5 := Aside0.mk (HS4.out.step hr5 hf5)
            clear hr5 hf5
            refine hK _ _ ?_
            clear hK K
            refine wpAny_take (i := 16) (v := ?vb50) rfl (by kernel_rfl) (by kernel_rfl) (by kernel_rfl) (fun _ _ _ h => h) (Or.inl ⟨by kernel_rfl, ?yb50⟩) ?_
            case yb50 => (intro w; go_simp; try with_reducible rfl)
            refine wpAny_ready (rs := [17]) (by kernel_rfl) (by simp) ?_
            refine (AllReady.cons rfl (fun K hK => ?_) AllReady.nil)
            have hh := HJ.out
            refine store_step B (by kernel_rfl) rfl (.tmp 128) (.tmp 126) rfl (k - 1) (zs.set k ⟨y0, y1, y2, y3, y4⟩) ⟨x0, x1, x2, x3, x4⟩ (by rfl) (by rfl) (by rfl) HS5.out.ro (by omega) ?_
            clear hh
            intro w6 hr6 hf6
            have HS6 := Aside0.mk (HS5.out.step hr6 hf6)
            clear hr6 hf6
            refine hK _ _ ?_
            clear hK K
            refine wpAny_done (by kernel_rfl) ?_ _
            have HR2 : Aside0 (DnR a b m (k - 1) xs ((zs.set k ⟨y0, y1, y2, y3, y4⟩).set (k - 1) ⟨x0, x1, x2, x3, x4⟩)) := ⟨by have h := HR.out.step (by have := HJ.out; omega) (by have := HJ.out; omega) (by have := HJ.out; omega) (by have := HJ.out; omega); unfold swp at h; rw [HX.out.1, HX.out.2] at h; exact h⟩
            have s9 : (k : Int) - 1 = ((k - 1 : Nat) : Int) := by have := HJ.out; omega
            have HS9 := Aside0.mk s9
            clear s9
            go_wp2_with fail
            go_roundw
            case rel => exact ⟨k - 1, _, by rw [← HS9.out], ⟨by have := HJ.out; omega⟩, HS6, HR2⟩
            case measure => simp [intOf]; have := HJ.out; omega
          · skip
            go_simp
            refine hK _ _ ?_
            clear hK K
            refine wpAny_ready (rs := [9]) (by kernel_rfl) (by simp) ?_
            refine (AllReady.cons rfl (fun K hK => ?_) AllReady.nil)
            go_simp
            refine hK _ _ ?_
            clear hK K
            refine wpAny_take (i := 14) (v := ?vb51) rfl (by kernel_rfl) (by kernel_rfl) (by kernel_rfl) (fun _ _ _ h => h) (Or.inl ⟨by kernel_rfl, ?yb51⟩) ?_
            case yb51 => (intro w; go_simp; try with_reducible rfl)
            refine wpAny_ready (rs := [15]) (by kernel_rfl) (by simp) ?_
            refine (AllReady.cons rfl (fun K hK => ?_) AllReady.nil)
            have hh := HJ.out
            refine store_step B (by kernel_rfl) rfl (.tmp 127) (.tmp 122) rfl (k) zs ⟨y0, y1, y2, y3, y4⟩ (by rfl) (by rfl) (by rfl) HS4.out.ro (by omega) ?_
            clear hh
            intro w5 hr5 hf5
            have HS5 := Aside0.mk (HS4.out.step hr5 hf5)
            clear hr5 hf5
            refine hK _ _ ?_
            clear hK K
            refine wpAny_take (i := 16) (v := ?vb52) rfl (by kernel_rfl) (by kernel_rfl) (by kernel_rfl) (fun _ _ _ h => h) (Or.inl ⟨by kernel_rfl, ?yb52⟩) ?_
            case yb52 => (intro w; go_simp; try with_reducible rfl)
            refine wpAny_ready (rs := [17]) (by kernel_rfl) (by simp) ?_
            refine (AllReady.cons rfl (fun K hK => ?_) AllReady.nil)
            have hh := HJ.out
            refine store_step B (by kernel_rfl) rfl (.tmp 128) (.tmp 126) rfl (k - 1) (zs.set k ⟨y0, y1, y2, y3, y4⟩) ⟨x0, x1, x2, x3, x4⟩ (by rfl) (by rfl) (by rfl) HS5.out.ro (by omega) ?_
            clear hh
            intro w6 hr6 hf6
            have HS6 := Aside0.mk (HS5.out.step hr6 hf6)
            clear hr6 hf6
            refine hK _ _ ?_
            clear hK K
            refine wpAny_done (by kernel_rfl) ?_ _
            have HR2 : Aside0 (DnR a b m (k - 1) xs ((zs.set k ⟨y0, y1, y2, y3, y4⟩).set (k - 1) ⟨x0, x1, x2, x3, x4⟩)) := ⟨by have h := HR.out.step (by have := HJ.out; omega) (by have := HJ.out; omega) (by have := HJ.out; omega) (by have := HJ.out; omega); unfold swp at h; rw [HX.out.1, HX.out.2] at h; exact h⟩
            have s9 : (k : Int) - 1 = ((k - 1 : Nat) : Int) := by have := HJ.out; omega
            have HS9 := Aside0.mk s9
            clear s9
            go_wp2_with fail
            go_roundw
            case rel => exact ⟨k - 1, _, by rw [← HS9.out], ⟨by have := HJ.out; omega⟩, HS6, HR2⟩
            case measure => simp [intOf]; have := HJ.out; omega
        · have hb2 : decide (i < k) = false := by simp; omega
          have hke : k = i := by have := HK.out; omega
          subst hke
          have HO := Aside0.mk (HR.out.sorted ⟨HI.out.1, HI.out.2.1⟩ HM.out.symm HSO.out HQ.out.1 HQ.out.2)
          have HP := Aside0.mk (HR.out.perm ⟨HI.out.1, HI.out.2.1⟩ (by have := HL.out; have := HI.out; omega) HQ.out.2)
          clear hlt
          go_wp2_with fail
          go_end0
          exact ⟨rfl, zs, HS.out, HP.out, HO.out⟩
end Go.Proofs.Ytmmoenleldcadaa.HF
