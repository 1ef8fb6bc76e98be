/- slices.insertionSortCmpFunc of packs: walked. (printed by hins.py) -/
import Derived.Test.YtmmoenleldcadaaGS
import Derived.Deep.QuietTactic
import Derived.BigQuiet
namespace Go.Proofs.Ytmmoenleldcadaa.HF
open Go.RowKit Go.Proofs.YtmmoenleldcadaaW.PrintWords Go.Proofs.YtmmoenleldcadaaW.PrintLast Go.Proofs.YtmmoenleldcadaaW.PrintMore Go.Proofs.Ytmmoenleldcadaa.HW Go.Proofs.Ytmmoenleldcadaa.MB Go.Proofs.Ytmmoenleldcadaa.Fn
attribute [local go_sem] max2_int min2_int max_two min_two max_three min_three max_four min_four   -- for this text's walks alone
/-- A row of packs that is being sorted. -/
structure SD (W w : World) (B g n c : Nat) (xs : List Pk) : Prop where
  fr : Fr (fun k => k = g) W w
  ro : kP.R 63 w B (fun _ => True) (.slice (some ⟨g, 0, none⟩) n c) xs
theorem SD.below {W w w' : World} {B g n c : Nat} {xs : List Pk} (h : SD W w B g n c xs) (hb : Below w.heap.size w w') : SD W w' B g n c xs := ⟨h.fr.add hb, Kd.R_below h.ro hb⟩
theorem SD.drew {W w : World} {B g n c : Nat} {xs : List Pk} (h : SD W w B g n c xs) : SD W w.drew B g n c xs := h.below (below_drew (Below.refl _ _))
theorem SD.drewN {W w : World} {B g n c : Nat} {xs : List Pk} (h : SD W w B g n c xs) (m : Nat) : SD W (w.drewN m) B g n c xs := ⟨h.fr.drewN m, Kd.R_drewN h.ro m⟩
theorem SD.step {W w w' : World} {B g n c : Nat} {xs ys : List Pk} (h : SD W w B g n c xs) (hr : kP.R 63 w' B (fun _ => True) (.slice (some ⟨g, 0, none⟩) n c) ys) (hf : Fr (fun k => k = g) w w') : SD W w' B g n c ys := ⟨h.fr.then_ hf (fun _ hk => Or.inl hk), hr⟩
theorem SD.len {W w : World} {B g n c : Nat} {xs : List Pk} (h : SD W w B g n c xs) : n = xs.length ∧ n ≤ c := ⟨(Kd.R_reads' h.ro).1, (Kd.R_reads' h.ro).2.1⟩
/-- What a sort of a part leaves. -/
def SQ (W : World) (B g n c a b : Nat) (xs : List Pk) (e : Ending) (w' : World) : Prop := e = .returned (.tuple #[]) ∧ ∃ ys, SD W w' B g n c ys ∧ PermS a b xs ys ∧ Sorted a b ys
set_option maxRecDepth 100000 in
set_option maxHeartbeats 8000000 in
theorem insert_ok {W : World} {B g n c : Nat} (xs : List Pk) (a b : Nat) (h : SD W W B g n c xs) (hb : b ≤ n) (hn : n ≤ 1000000) (ha : a ≤ 1000000) :
    Calls Try.prog 58 #[.slice (some ⟨g, 0, none⟩) n c, .int .i64 a, .int .i64 b, .func (.func 37) #[] #[]] W (SQ W B g n c a b xs) := by
  have hu := Try.underlying63
  have HS0 := Aside0.mk h
  have hb64 : b ≤ 1000000 := by omega
  have HBN := Aside0.mk hb
  clear h hb
  go_enter Try.func58, Try.ntmps58
  go_wp2_with fail
  go_loopw [8] (fun v8 wr => ∃ (i : Nat) (ys : List Pk), v8 = .int .i64 i ∧ a + 1 ≤ i ∧ (i ≤ b ∨ i = a + 1) ∧ Aside0 (SD W wr B g n c ys) ∧ Aside0 (PermS a b xs ys) ∧ Aside0 (Sorted a i ys)) (fun v8 _ => b - (intOf v8).toNat)
  case atStart => exact ⟨a + 1, xs, by simp, Nat.le_refl _, Or.inr rfl, HS0, ⟨PermS.refl _ _ _⟩, ⟨fun p q h1 h2 h3 => by omega⟩⟩
  case round =>
    obtain ⟨i, ys, rfl, hi1, hi2, HS, HP, HO⟩ := hrel
    by_cases hlt : i < b
    · have hb1 : decide (i < b) = true := by simp; omega
      have HI := Aside0.mk (And.intro hlt hi1)
      have hi64 : i ≤ 1000000 := by omega
      have HIN := Aside0.mk (InsI.start HP.out HO.out (by omega))
      obtain ⟨wo, hwo⟩ : ∃ wo : World, wo = wr := ⟨_, rfl⟩
      subst hwo
      clear hlt hi1 hi2 HP HO HS0
      go_wp2_with fail
      go_loopw [9] (fun v9 wr => ∃ (j : Nat) (zs : List Pk), v9 = .int .i64 j ∧ Aside0 (SD W wr B g n c zs) ∧ Aside0 (InsI a b i j xs zs)) (fun v9 _ => (intOf v9).toNat)
      case atStart => exact ⟨i, ys, rfl, HS, HIN⟩
      case round =>
        clear HS HIN
        obtain ⟨j, zs, rfl, HS, HIN⟩ := hrel
        have hjr := HIN.out.rg
        have hbn := HBN.out
        have hlen := HS.out.len
        by_cases hja : a < j
        · have hb2 : decide (a < j) = true := by simp; omega
          have hb2i : decide ((a : Int) < (j : Int)) = true := by simp; omega
          obtain ⟨c0, c1⟩ := atP HS.out.ro j (by omega)
          obtain ⟨d0, d1⟩ := atP HS.out.ro (j - 1) (by omega)
          obtain ⟨⟨x0, x1, x2, x3, x4⟩, hx⟩ : ∃ z, rdP zs j = z := ⟨_, rfl⟩
          obtain ⟨⟨y0, y1, y2, y3, y4⟩, hy⟩ : ∃ z, rdP zs (j - 1) = z := ⟨_, rfl⟩
          rw [hx] at c0 c1
          rw [hy] at d0 d1
          simp only at c0 c1 d0 d1
          have HX := Aside0.mk (And.intro hx hy)
          have q1 : (0 : Int) ≤ (j : Int) := by omega
          have q2 : (j : Int) < (n : Int) := by omega
          have q3 : (0 : Int) ≤ (j : Int) - 1 := by omega
          have q4 : (j : Int) - 1 < (n : Int) := by omega
          have q5 : ((j : Int) - 1).toNat = j - 1 := by omega
          have q6 : IntKind.i64.wrap ((j : Int) - 1) = (j : Int) - 1 := IntWalk.i64_in _ (by omega)
          have q7 : (j : Int).toNat = j := Int.toNat_natCast j
          have q8 : wrap64 ((j : Int) - 1) = (j : Int) - 1 := wrap64_id _ (by omega) (by omega)
          have HJ := Aside0.mk (And.intro hja (And.intro hjr hbn))
          have hj1 : 1 ≤ j := by omega
          have q9 : (1 : Int) ≤ (j : Int) := by omega
          clear hx hy hja hjr hbn hlen
          go_upto_region 4 with (fail)
          refine wp_region_any (by kernel_rfl) ?_
          change wpAny _ _ _ _ _ _ _ (World.drew _)
          refine wpAny_take (i := 0) (v := ?vp1) rfl (by kernel_rfl) (by kernel_rfl) (by kernel_rfl) (fun _ _ _ h => h) (Or.inl ⟨by kernel_rfl, ?yp1⟩) ?_
          case yp1 => (intro w; go_simp; try with_reducible rfl)
          refine wpAny_take (i := 1) (v := ?vp2) rfl (by kernel_rfl) (by kernel_rfl) (by kernel_rfl) (fun _ _ _ h => h) (Or.inl ⟨by kernel_rfl, ?yp2⟩) ?_
          case yp2 => (intro w; go_simp; try with_reducible rfl)
          refine wpAny_take (i := 2) (v := ?vp3) rfl (by kernel_rfl) (by kernel_rfl) (by kernel_rfl) (fun _ _ _ h => h) (Or.inl ⟨by kernel_rfl, ?yp3⟩) ?_
          case yp3 => (intro w; go_simp; try with_reducible rfl)
          refine wpAny_take (i := 3) (v := ?vp4) rfl (by kernel_rfl) (by kernel_rfl) (by kernel_rfl) (fun _ _ _ h => h) (Or.inl ⟨by kernel_rfl, ?yp4⟩) ?_
          case yp4 => (intro w; go_simp; try with_reducible rfl)
          refine wpAny_take (i := 4) (v := ?vp5) rfl (by kernel_rfl) (by kernel_rfl) (by kernel_rfl) (fun _ _ _ h => h) (Or.inl ⟨by kernel_rfl, ?yp5⟩) ?_
          case yp5 => (intro w; go_simp; try with_reducible rfl)
          refine wpAny_take (i := 5) (v := ?vp6) rfl (by kernel_rfl) (by kernel_rfl) (by kernel_rfl) (fun _ _ _ h => h) (Or.inl ⟨by kernel_rfl, ?yp6⟩) ?_
          case yp6 => (intro w; go_simp; try with_reducible rfl)
          refine wpAny_take (i := 6) (v := ?vp7) rfl (by kernel_rfl) (by kernel_rfl) (by kernel_rfl) (fun _ _ _ h => h) (Or.inl ⟨by kernel_rfl, ?yp7⟩) ?_
          case yp7 => (intro w; go_simp; try with_reducible rfl)
          refine wpAny_take (i := 7) (v := ?vp8) rfl (by kernel_rfl) (by kernel_rfl) (by kernel_rfl) (fun _ _ _ h => h) (Or.inl ⟨by kernel_rfl, ?yp8⟩) ?_
          case yp8 => (intro w; go_simp; try with_reducible rfl)
          refine wpAny_take (i := 9) (v := ?vp9) rfl (by kernel_rfl) (by kernel_rfl) (by kernel_rfl) (fun _ _ _ h => h) (Or.inl ⟨by kernel_rfl, ?yp9⟩) ?_
          case yp9 => (intro w; go_simp; try with_reducible rfl)
          refine wpAny_take (i := 10) (v := ?vp10) rfl (by kernel_rfl) (by kernel_rfl) (by kernel_rfl) (fun _ _ _ h => h) (Or.inl ⟨by kernel_rfl, ?yp10⟩) ?_
          case yp10 => (intro w; go_simp; try with_reducible rfl)
          refine wpAny_take (i := 11) (v := ?vp11) rfl (by kernel_rfl) (by kernel_rfl) (by kernel_rfl) (fun _ _ _ h => h) (Or.inl ⟨by kernel_rfl, ?yp11⟩) ?_
          case yp11 => (intro w; go_simp; try with_reducible rfl)
          refine wpAny_take (i := 12) (v := ?vp12) rfl (by kernel_rfl) (by kernel_rfl) (by kernel_rfl) (fun _ _ _ h => h) (Or.inl ⟨by kernel_rfl, ?yp12⟩) ?_
          case yp12 => (intro w; go_simp; try with_reducible rfl)
          refine wpAny_ready (rs := [8, 13]) (by kernel_rfl) (by simp) ?_
          refine (AllReady.cons rfl (fun K hK => ?_) (AllReady.cons rfl (fun K hK => ?_) AllReady.nil))
          · skip
            go_simp
            refine hK _ _ ?_
            clear hK K
            refine wpAny_ready (rs := [13]) (by kernel_rfl) (by simp) ?_
            refine (AllReady.cons rfl (fun K hK => ?_) AllReady.nil)
            go_simp
            refine hK _ _ ?_
            clear hK K
            refine wpAny_ready (rs := [14]) (by kernel_rfl) (by simp) ?_
            refine (AllReady.cons rfl (fun K hK => ?_) AllReady.nil)
            go_simp
            go_wp2_with fail
            refine (pcmp_val x0 x1 x2 x3 y0 y1 y2 y3 _).mono ?_
            rintro e w3 ⟨rfl, hb⟩
            have HS3 := Aside0.mk (HS.out.drew.below hb)
            clear hb c0 c1 d0 d1
            refine hK _ _ ?_
            clear hK K
            refine wpAny_take (i := 15) (v := ?vp13) rfl (by kernel_rfl) (by kernel_rfl) (by kernel_rfl) (fun _ _ _ h => h) (Or.inl ⟨by kernel_rfl, ?yp13⟩) ?_
            case yp13 => (intro w; go_simp; try with_reducible rfl)
            refine wpAny_take (i := 16) (v := ?vp14) rfl (by kernel_rfl) (by kernel_rfl) (by kernel_rfl) (fun _ _ _ h => h) (Or.inl ⟨by kernel_rfl, ?yp14⟩) ?_
            case yp14 => (intro w; go_simp; try with_reducible rfl)
            refine wpAny_done (by kernel_rfl) ?_ _
            by_cases hc : x0 < y0
            · have hc1 : decide (cmp3 x0 y0 < 0) = true := by rw [cmp3_lt]; simpa using hc
              have hc2 : cmp3 x0 y0 < 0 := of_decide_eq_true hc1
              have HS3b := HS3
              obtain ⟨c0, c1⟩ := atP HS3.out.ro j (by omega)
              obtain ⟨d0, d1⟩ := atP HS3.out.ro (j - 1) (by omega)
              rw [HX.out.1] at c0 c1
              rw [HX.out.2] at d0 d1
              simp only at c0 c1 d0 d1
              go_upto_region 6 with (fail)
              have HS4 := Aside0.mk HS3.out.drew
              refine wp_region_any (by kernel_rfl) ?_
              change wpAny _ _ _ _ _ _ _ (World.drew _)
              refine wpAny_take (i := 0) (v := ?vs1_15) rfl (by kernel_rfl) (by kernel_rfl) (by kernel_rfl) (fun _ _ _ h => h) (Or.inl ⟨by kernel_rfl, ?ys1_15⟩) ?_
              case ys1_15 => (intro w; go_simp; try with_reducible rfl)
              refine wpAny_take (i := 1) (v := ?vs1_16) rfl (by kernel_rfl) (by kernel_rfl) (by kernel_rfl) (fun _ _ _ h => h) (Or.inl ⟨by kernel_rfl, ?ys1_16⟩) ?_
              case ys1_16 => (intro w; go_simp; try with_reducible rfl)
              refine wpAny_take (i := 2) (v := ?vs1_17) rfl (by kernel_rfl) (by kernel_rfl) (by kernel_rfl) (fun _ _ _ h => h) (Or.inl ⟨by kernel_rfl, ?ys1_17⟩) ?_
              case ys1_17 => (intro w; go_simp; try with_reducible rfl)
              refine wpAny_take (i := 3) (v := ?vs1_18) rfl (by kernel_rfl) (by kernel_rfl) (by kernel_rfl) (fun _ _ _ h => h) (Or.inl ⟨by kernel_rfl, ?ys1_18⟩) ?_
              case ys1_18 => (intro w; go_simp; try with_reducible rfl)
              refine wpAny_take (i := 4) (v := ?vs1_19) rfl (by kernel_rfl) (by kernel_rfl) (by kernel_rfl) (fun _ _ _ h => h) (Or.inl ⟨by kernel_rfl, ?ys1_19⟩) ?_
              case ys1_19 => (intro w; go_simp; try with_reducible rfl)
              refine wpAny_take (i := 5) (v := ?vs1_20) rfl (by kernel_rfl) (by kernel_rfl) (by kernel_rfl) (fun _ _ _ h => h) (Or.inl ⟨by kernel_rfl, ?ys1_20⟩) ?_
              case ys1_20 => (intro w; go_simp; try with_reducible rfl)
              refine wpAny_take (i := 6) (v := ?vs1_21) rfl (by kernel_rfl) (by kernel_rfl) (by kernel_rfl) (fun _ _ _ h => h) (Or.inl ⟨by kernel_rfl, ?ys1_21⟩) ?_
              case ys1_21 => (intro w; go_simp; try with_reducible rfl)
              refine wpAny_take (i := 7) (v := ?vs1_22) rfl (by kernel_rfl) (by kernel_rfl) (by kernel_rfl) (fun _ _ _ h => h) (Or.inl ⟨by kernel_rfl, ?ys1_22⟩) ?_
              case ys1_22 => (intro w; go_simp; try with_reducible rfl)
              refine wpAny_take (i := 8) (v := ?vs1_23) rfl (by kernel_rfl) (by kernel_rfl) (by kernel_rfl) (fun _ _ _ h => h) (Or.inl ⟨by kernel_rfl, ?ys1_23⟩) ?_
              case ys1_23 => (intro w; go_simp; try with_reducible rfl)
              refine wpAny_take (i := 10) (v := ?vs1_24) rfl (by kernel_rfl) (by kernel_rfl) (by kernel_rfl) (fun _ _ _ h => h) (Or.inl ⟨by kernel_rfl, ?ys1_24⟩) ?_
              case ys1_24 => (intro w; go_simp; try with_reducible rfl)
              refine wpAny_take (i := 11) (v := ?vs1_25) rfl (by kernel_rfl) (by kernel_rfl) (by kernel_rfl) (fun _ _ _ h => h) (Or.inl ⟨by kernel_rfl, ?ys1_25⟩) ?_
              case ys1_25 => (intro w; go_simp; try with_reducible rfl)
              refine wpAny_take (i := 12) (v := ?vs1_26) rfl (by kernel_rfl) (by kernel_rfl) (by kernel_rfl) (fun _ _ _ h => h) (Or.inl ⟨by kernel_rfl, ?ys1_26⟩) ?_
              case ys1_26 => (intro w; go_simp; try with_reducible rfl)
              refine wpAny_ready (rs := [9, 13]) (by kernel_rfl) (by simp) ?_
              refine (AllReady.cons rfl (fun K hK => ?_) (AllReady.cons rfl (fun K hK => ?_) AllReady.nil))
              · skip
                go_simp
                refine hK _ _ ?_
                clear hK K
                refine wpAny_ready (rs := [13]) (by kernel_rfl) (by simp) ?_
                refine (AllReady.cons rfl (fun K hK => ?_) AllReady.nil)
                go_simp
                refine hK _ _ ?_
                clear hK K
                refine wpAny_take (i := 14) (v := ?vs1_27) rfl (by kernel_rfl) (by kernel_rfl) (by kernel_rfl) (fun _ _ _ h => h) (Or.inl ⟨by kernel_rfl, ?ys1_27⟩) ?_
                case ys1_27 => (intro w; go_simp; try with_reducible rfl)
                refine wpAny_ready (rs := [15]) (by kernel_rfl) (by simp) ?_
                refine (AllReady.cons rfl (fun K hK => ?_) AllReady.nil)
                refine store_step B (by kernel_rfl) rfl (.tmp 51) (.tmp 46) rfl (j) zs ⟨y0, y1, y2, y3, y4⟩ (by rfl) (by rfl) (by rfl) HS4.out.ro (by omega) ?_
                intro w5 hr5 hf5
                have HS5 := Aside0.mk (HS4.out.step hr5 hf5)
                clear hr5 hf5
                refine hK _ _ ?_
                clear hK K
                refine wpAny_take (i := 16) (v := ?vs1_28) rfl (by kernel_rfl) (by kernel_rfl) (by kernel_rfl) (fun _ _ _ h => h) (Or.inl ⟨by kernel_rfl, ?ys1_28⟩) ?_
                case ys1_28 => (intro w; go_simp; try with_reducible rfl)
                refine wpAny_ready (rs := [17]) (by kernel_rfl) (by simp) ?_
                refine (AllReady.cons rfl (fun K hK => ?_) AllReady.nil)
                refine store_step B (by kernel_rfl) rfl (.tmp 52) (.tmp 50) rfl (j - 1) (zs.set j ⟨y0, y1, y2, y3, y4⟩) ⟨x0, x1, x2, x3, x4⟩ (by rfl) (by rfl) (by rfl) HS5.out.ro (by omega) ?_
                intro w6 hr6 hf6
                have HS6 := Aside0.mk (HS5.out.step hr6 hf6)
                clear hr6 hf6
                refine hK _ _ ?_
                clear hK K
                refine wpAny_done (by kernel_rfl) ?_ _
                have HI2 : Aside0 (InsI a b i (j - 1) xs ((zs.set j ⟨y0, y1, y2, y3, y4⟩).set (j - 1) ⟨x0, x1, x2, x3, x4⟩)) := ⟨by have h := HIN.out.step HJ.out.1 (by have h6 := HS6.out.len; have h7 := HJ.out; simp only [List.length_set] at h6; omega) (by unfold wtP; rw [HX.out.1, HX.out.2]; exact hc); unfold swp at h; rw [HX.out.1, HX.out.2] at h; exact h⟩
                go_wp2_with fail
                go_roundw
                case rel => exact ⟨j - 1, _, by simp; omega, HS6, HI2⟩
                case measure => simp [intOf]; omega
              · skip
                go_simp
                refine hK _ _ ?_
                clear hK K
                refine wpAny_ready (rs := [9]) (by kernel_rfl) (by simp) ?_
                refine (AllReady.cons rfl (fun K hK => ?_) AllReady.nil)
                go_simp
                refine hK _ _ ?_
                clear hK K
                refine wpAny_take (i := 14) (v := ?vs1_29) rfl (by kernel_rfl) (by kernel_rfl) (by kernel_rfl) (fun _ _ _ h => h) (Or.inl ⟨by kernel_rfl, ?ys1_29⟩) ?_
                case ys1_29 => (intro w; go_simp; try with_reducible rfl)
                refine wpAny_ready (rs := [15]) (by kernel_rfl) (by simp) ?_
                refine (AllReady.cons rfl (fun K hK => ?_) AllReady.nil)
                refine store_step B (by kernel_rfl) rfl (.tmp 51) (.tmp 46) rfl (j) zs ⟨y0, y1, y2, y3, y4⟩ (by rfl) (by rfl) (by rfl) HS4.out.ro (by omega) ?_
                intro w5 hr5 hf5
                have HS5 := Aside0.mk (HS4.out.step hr5 hf5)
                clear hr5 hf5
                refine hK _ _ ?_
                clear hK K
                refine wpAny_take (i := 16) (v := ?vs1_30) rfl (by kernel_rfl) (by kernel_rfl) (by kernel_rfl) (fun _ _ _ h => h) (Or.inl ⟨by kernel_rfl, ?ys1_30⟩) ?_
                case ys1_30 => (intro w; go_simp; try with_reducible rfl)
                refine wpAny_ready (rs := [17]) (by kernel_rfl) (by simp) ?_
                refine (AllReady.cons rfl (fun K hK => ?_) AllReady.nil)
                refine store_step B (by kernel_rfl) rfl (.tmp 52) (.tmp 50) rfl (j - 1) (zs.set j ⟨y0, y1, y2, y3, y4⟩) ⟨x0, x1, x2, x3, x4⟩ (by rfl) (by rfl) (by rfl) HS5.out.ro (by omega) ?_
                intro w6 hr6 hf6
                have HS6 := Aside0.mk (HS5.out.step hr6 hf6)
                clear hr6 hf6
                refine hK _ _ ?_
                clear hK K
                refine wpAny_done (by kernel_rfl) ?_ _
                have HI2 : Aside0 (InsI a b i (j - 1) xs ((zs.set j ⟨y0, y1, y2, y3, y4⟩).set (j - 1) ⟨x0, x1, x2, x3, x4⟩)) := ⟨by have h := HIN.out.step HJ.out.1 (by have h6 := HS6.out.len; have h7 := HJ.out; simp only [List.length_set] at h6; omega) (by unfold wtP; rw [HX.out.1, HX.out.2]; exact hc); unfold swp at h; rw [HX.out.1, HX.out.2] at h; exact h⟩
                go_wp2_with fail
                go_roundw
                case rel => exact ⟨j - 1, _, by simp; omega, HS6, HI2⟩
                case measure => simp [intOf]; omega
            · have hc1 : decide (cmp3 x0 y0 < 0) = false := by rw [cmp3_lt]; simpa using hc
              have hc2 : ¬ cmp3 x0 y0 < 0 := of_decide_eq_false hc1
              have HO2 := Aside0.mk (HIN.out.done (Or.inr (by unfold wtP; rw [HX.out.1, HX.out.2]; simp only; omega)))
              have HP2 := Aside0.mk HIN.out.pm
              go_wp2_with fail
              go_roundw
              case rel => exact ⟨i + 1, zs, by simp, by have := HI.out; omega, by have := HI.out; omega, HS3, HP2, HO2⟩
              case measure => simp [intOf]; have := HI.out; omega
          · skip
            go_simp
            refine hK _ _ ?_
            clear hK K
            refine wpAny_ready (rs := [8]) (by kernel_rfl) (by simp) ?_
            refine (AllReady.cons rfl (fun K hK => ?_) AllReady.nil)
            go_simp
            refine hK _ _ ?_
            clear hK K
            refine wpAny_ready (rs := [14]) (by kernel_rfl) (by simp) ?_
            refine (AllReady.cons rfl (fun K hK => ?_) AllReady.nil)
            go_simp
            go_wp2_with fail
            refine (pcmp_val x0 x1 x2 x3 y0 y1 y2 y3 _).mono ?_
            rintro e w3 ⟨rfl, hb⟩
            have HS3 := Aside0.mk (HS.out.drew.below hb)
            clear hb c0 c1 d0 d1
            refine hK _ _ ?_
            clear hK K
            refine wpAny_take (i := 15) (v := ?vp31) rfl (by kernel_rfl) (by kernel_rfl) (by kernel_rfl) (fun _ _ _ h => h) (Or.inl ⟨by kernel_rfl, ?yp31⟩) ?_
            case yp31 => (intro w; go_simp; try with_reducible rfl)
            refine wpAny_take (i := 16) (v := ?vp32) rfl (by kernel_rfl) (by kernel_rfl) (by kernel_rfl) (fun _ _ _ h => h) (Or.inl ⟨by kernel_rfl, ?yp32⟩) ?_
            case yp32 => (intro w; go_simp; try with_reducible rfl)
            refine wpAny_done (by kernel_rfl) ?_ _
            by_cases hc : x0 < y0
            · have hc1 : decide (cmp3 x0 y0 < 0) = true := by rw [cmp3_lt]; simpa using hc
              have hc2 : cmp3 x0 y0 < 0 := of_decide_eq_true hc1
              have HS3b := HS3
              obtain ⟨c0, c1⟩ := atP HS3.out.ro j (by omega)
              obtain ⟨d0, d1⟩ := atP HS3.out.ro (j - 1) (by omega)
              rw [HX.out.1] at c0 c1
              rw [HX.out.2] at d0 d1
              simp only at c0 c1 d0 d1
              go_upto_region 6 with (fail)
              have HS4 := Aside0.mk HS3.out.drew
              refine wp_region_any (by kernel_rfl) ?_
              change wpAny _ _ _ _ _ _ _ (World.drew _)
              refine wpAny_take (i := 0) (v := ?vs2_33) rfl (by kernel_rfl) (by kernel_rfl) (by kernel_rfl) (fun _ _ _ h => h) (Or.inl ⟨by kernel_rfl, ?ys2_33⟩) ?_
              case ys2_33 => (intro w; go_simp; try with_reducible rfl)
              refine wpAny_take (i := 1) (v := ?vs2_34) rfl (by kernel_rfl) (by kernel_rfl) (by kernel_rfl) (fun _ _ _ h => h) (Or.inl ⟨by kernel_rfl, ?ys2_34⟩) ?_
              case ys2_34 => (intro w; go_simp; try with_reducible rfl)
              refine wpAny_take (i := 2) (v := ?vs2_35) rfl (by kernel_rfl) (by kernel_rfl) (by kernel_rfl) (fun _ _ _ h => h) (Or.inl ⟨by kernel_rfl, ?ys2_35⟩) ?_
              case ys2_35 => (intro w; go_simp; try with_reducible rfl)
              refine wpAny_take (i := 3) (v := ?vs2_36) rfl (by kernel_rfl) (by kernel_rfl) (by kernel_rfl) (fun _ _ _ h => h) (Or.inl ⟨by kernel_rfl, ?ys2_36⟩) ?_
              case ys2_36 => (intro w; go_simp; try with_reducible rfl)
              refine wpAny_take (i := 4) (v := ?vs2_37) rfl (by kernel_rfl) (by kernel_rfl) (by kernel_rfl) (fun _ _ _ h => h) (Or.inl ⟨by kernel_rfl, ?ys2_37⟩) ?_
              case ys2_37 => (intro w; go_simp; try with_reducible rfl)
              refine wpAny_take (i := 5) (v := ?vs2_38) rfl (by kernel_rfl) (by kernel_rfl) (by kernel_rfl) (fun _ _ _ h => h) (Or.inl ⟨by kernel_rfl, ?ys2_38⟩) ?_
              case ys2_38 => (intro w; go_simp; try with_reducible rfl)
              refine wpAny_take (i := 6) (v := ?vs2_39) rfl (by kernel_rfl) (by kernel_rfl) (by kernel_rfl) (fun _ _ _ h => h) (Or.inl ⟨by kernel_rfl, ?ys2_39⟩) ?_
              case ys2_39 => (intro w; go_simp; try with_reducible rfl)
              refine wpAny_take (i := 7) (v := ?vs2_40) rfl (by kernel_rfl) (by kernel_rfl) (by kernel_rfl) (fun _ _ _ h => h) (Or.inl ⟨by kernel_rfl, ?ys2_40⟩) ?_
              case ys2_40 => (intro w; go_simp; try with_reducible rfl)
              refine wpAny_take (i := 8) (v := ?vs2_41) rfl (by kernel_rfl) (by kernel_rfl) (by kernel_rfl) (fun _ _ _ h => h) (Or.inl ⟨by kernel_rfl, ?ys2_41⟩) ?_
              case ys2_41 => (intro w; go_simp; try with_reducible rfl)
              refine wpAny_take (i := 10) (v := ?vs2_42) rfl (by kernel_rfl) (by kernel_rfl) (by kernel_rfl) (fun _ _ _ h => h) (Or.inl ⟨by kernel_rfl, ?ys2_42⟩) ?_
              case ys2_42 => (intro w; go_simp; try with_reducible rfl)
              refine wpAny_take (i := 11) (v := ?vs2_43) rfl (by kernel_rfl) (by kernel_rfl) (by kernel_rfl) (fun _ _ _ h => h) (Or.inl ⟨by kernel_rfl, ?ys2_43⟩) ?_
              case ys2_43 => (intro w; go_simp; try with_reducible rfl)
              refine wpAny_take (i := 12) (v := ?vs2_44) rfl (by kernel_rfl) (by kernel_rfl) (by kernel_rfl) (fun _ _ _ h => h) (Or.inl ⟨by kernel_rfl, ?ys2_44⟩) ?_
              case ys2_44 => (intro w; go_simp; try with_reducible rfl)
              refine wpAny_ready (rs := [9, 13]) (by kernel_rfl) (by simp) ?_
              refine (AllReady.cons rfl (fun K hK => ?_) (AllReady.cons rfl (fun K hK => ?_) AllReady.nil))
              · skip
                go_simp
                refine hK _ _ ?_
                clear hK K
                refine wpAny_ready (rs := [13]) (by kernel_rfl) (by simp) ?_
                refine (AllReady.cons rfl (fun K hK => ?_) AllReady.nil)
                go_simp
                refine hK _ _ ?_
                clear hK K
                refine wpAny_take (i := 14) (v := ?vs2_45) rfl (by kernel_rfl) (by kernel_rfl) (by kernel_rfl) (fun _ _ _ h => h) (Or.inl ⟨by kernel_rfl, ?ys2_45⟩) ?_
                case ys2_45 => (intro w; go_simp; try with_reducible rfl)
                refine wpAny_ready (rs := [15]) (by kernel_rfl) (by simp) ?_
                refine (AllReady.cons rfl (fun K hK => ?_) AllReady.nil)
                refine store_step B (by kernel_rfl) rfl (.tmp 51) (.tmp 46) rfl (j) zs ⟨y0, y1, y2, y3, y4⟩ (by rfl) (by rfl) (by rfl) HS4.out.ro (by omega) ?_
                intro w5 hr5 hf5
                have HS5 := Aside0.mk (HS4.out.step hr5 hf5)
                clear hr5 hf5
                refine hK _ _ ?_
                clear hK K
                refine wpAny_take (i := 16) (v := ?vs2_46) rfl (by kernel_rfl) (by kernel_rfl) (by kernel_rfl) (fun _ _ _ h => h) (Or.inl ⟨by kernel_rfl, ?ys2_46⟩) ?_
                case ys2_46 => (intro w; go_simp; try with_reducible rfl)
                refine wpAny_ready (rs := [17]) (by kernel_rfl) (by simp) ?_
                refine (AllReady.cons rfl (fun K hK => ?_) AllReady.nil)
                refine store_step B (by kernel_rfl) rfl (.tmp 52) (.tmp 50) rfl (j - 1) (zs.set j ⟨y0, y1, y2, y3, y4⟩) ⟨x0, x1, x2, x3, x4⟩ (by rfl) (by rfl) (by rfl) HS5.out.ro (by omega) ?_
                intro w6 hr6 hf6
                have HS6 := Aside0.mk (HS5.out.step hr6 hf6)
                clear hr6 hf6
                refine hK _ _ ?_
                clear hK K
                refine wpAny_done (by kernel_rfl) ?_ _
                have HI2 : Aside0 (InsI a b i (j - 1) xs ((zs.set j ⟨y0, y1, y2, y3, y4⟩).set (j - 1) ⟨x0, x1, x2, x3, x4⟩)) := ⟨by have h := HIN.out.step HJ.out.1 (by have h6 := HS6.out.len; have h7 := HJ.out; simp only [List.length_set] at h6; omega) (by unfold wtP; rw [HX.out.1, HX.out.2]; exact hc); unfold swp at h; rw [HX.out.1, HX.out.2] at h; exact h⟩
                go_wp2_with fail
                go_roundw
                case rel => exact ⟨j - 1, _, by simp; omega, HS6, HI2⟩
                case measure => simp [intOf]; omega
              · skip
                go_simp
                refine hK _ _ ?_
                clear hK K
                refine wpAny_ready (rs := [9]) (by kernel_rfl) (by simp) ?_
                refine (AllReady.cons rfl (fun K hK => ?_) AllReady.nil)
                go_simp
                refine hK _ _ ?_
                clear hK K
                refine wpAny_take (i := 14) (v := ?vs2_47) rfl (by kernel_rfl) (by kernel_rfl) (by kernel_rfl) (fun _ _ _ h => h) (Or.inl ⟨by kernel_rfl, ?ys2_47⟩) ?_
                case ys2_47 => (intro w; go_simp; try with_reducible rfl)
                refine wpAny_ready (rs := [15]) (by kernel_rfl) (by simp) ?_
                refine (AllReady.cons rfl (fun K hK => ?_) AllReady.nil)
                refine store_step B (by kernel_rfl) rfl (.tmp 51) (.tmp 46) rfl (j) zs ⟨y0, y1, y2, y3, y4⟩ (by rfl) (by rfl) (by rfl) HS4.out.ro (by omega) ?_
                intro w5 hr5 hf5
                have HS5 := Aside0.mk (HS4.out.step hr5 hf5)
                clear hr5 hf5
                refine hK _ _ ?_
                clear hK K
                refine wpAny_take (i := 16) (v := ?vs2_48) rfl (by kernel_rfl) (by kernel_rfl) (by kernel_rfl) (fun _ _ _ h => h) (Or.inl ⟨by kernel_rfl, ?ys2_48⟩) ?_
                case ys2_48 => (intro w; go_simp; try with_reducible rfl)
                refine wpAny_ready (rs := [17]) (by kernel_rfl) (by simp) ?_
                refine (AllReady.cons rfl (fun K hK => ?_) AllReady.nil)
                refine store_step B (by kernel_rfl) rfl (.tmp 52) (.tmp 50) rfl (j - 1) (zs.set j ⟨y0, y1, y2, y3, y4⟩) ⟨x0, x1, x2, x3, x4⟩ (by rfl) (by rfl) (by rfl) HS5.out.ro (by omega) ?_
                intro w6 hr6 hf6
                have HS6 := Aside0.mk (HS5.out.step hr6 hf6)
                clear hr6 hf6
                refine hK _ _ ?_
                clear hK K
                refine wpAny_done (by kernel_rfl) ?_ _
                have HI2 : Aside0 (InsI a b i (j - 1) xs ((zs.set j ⟨y0, y1, y2, y3, y4⟩).set (j - 1) ⟨x0, x1, x2, x3, x4⟩)) := ⟨by have h := HIN.out.step HJ.out.1 (by have h6 := HS6.out.len; have h7 := HJ.out; simp only [List.length_set] at h6; omega) (by unfold wtP; rw [HX.out.1, HX.out.2]; exact hc); unfold swp at h; rw [HX.out.1, HX.out.2] at h; exact h⟩
                go_wp2_with fail
                go_roundw
                case rel => exact ⟨j - 1, _, by simp; omega, HS6, HI2⟩
                case measure => simp [intOf]; omega
            · have hc1 : decide (cmp3 x0 y0 < 0) = false := by rw [cmp3_lt]; simpa using hc
              have hc2 : ¬ cmp3 x0 y0 < 0 := of_decide_eq_false hc1
              have HO2 := Aside0.mk (HIN.out.done (Or.inr (by unfold wtP; rw [HX.out.1, HX.out.2]; simp only; omega)))
              have HP2 := Aside0.mk HIN.out.pm
              go_wp2_with fail
              go_roundw
              case rel => exact ⟨i + 1, zs, by simp, by have := HI.out; omega, by have := HI.out; omega, HS3, HP2, HO2⟩
              case measure => simp [intOf]; have := HI.out; omega
        · have hje : j = a := by omega
          have hb2 : decide (a < j) = false := by simp; omega
          have hb2i : decide ((a : Int) < (j : Int)) = false := by simp; omega
          have HO2 := Aside0.mk (HIN.out.done (Or.inl hje))
          have HP2 := Aside0.mk HIN.out.pm
          clear hje hja hjr hbn hlen
          go_upto_region 4 with (fail)
          go_quiet (fail)
          go_wp2_with fail
          go_roundw
          case rel => exact ⟨i + 1, zs, by simp, by have := HI.out; omega, by have := HI.out; omega, ⟨HS.out.drewN _⟩, HP2, HO2⟩
          case measure => simp [intOf]; have := HI.out; omega
    · have hb1 : decide (i < b) = false := by simp; omega
      have HO2 : Aside0 (Sorted a b ys) := ⟨fun p q h1 h2 h3 => HO.out p q h1 h2 (by omega)⟩
      clear hlt
      go_wp2_with fail
      go_end0
      exact ⟨rfl, ys, HS.out, HP.out, HO2.out⟩
end Go.Proofs.Ytmmoenleldcadaa.HF
