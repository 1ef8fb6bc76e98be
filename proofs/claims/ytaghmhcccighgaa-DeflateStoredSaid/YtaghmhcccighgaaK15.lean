/- Parts: HRot HSym1 HSym2 -/
import Derived.Test.YtaghmhcccighgaaK14
set_option linter.unusedVariables false
set_option linter.unusedSimpArgs false
section
/- slices.swapRangeCmpFunc, rotateCmpFunc of packs: walked. (printed by hrot.py) -/
namespace Go.Proofs.Ytaghmhcccighgaa.HF
open Go.RowKit Go.Proofs.YtaghmhcccighgaaW.PrintWords Go.Proofs.YtaghmhcccighgaaW.PrintLast Go.Proofs.YtaghmhcccighgaaW.PrintMore Go.Proofs.Ytaghmhcccighgaa.HW Go.Proofs.Ytaghmhcccighgaa.MB Go.Proofs.Ytaghmhcccighgaa.Fn
attribute [local go_sem] max2_int min2_int max_two min_two max_three min_three max_four min_four   -- for this text's walks alone
/-- What an exchange leaves. -/
def SWQ (W : World) (B g n c lo hi a b k : Nat) (xs : List Pk) (e : Ending) (w' : World) : Prop := e = .returned (.tuple #[]) ∧ ∃ ys, SD W w' B g n c ys ∧ SwR lo hi a b k xs ys
set_option maxRecDepth 100000 in
set_option maxHeartbeats 8000000 in
theorem swapr_ok {W : World} {B g n c : Nat} (xs : List Pk) (lo hi a b k : Nat) (h : SD W W B g n c xs) (h1 : lo ≤ a) (h2 : a + k ≤ b) (h3 : b + k ≤ hi) (h4 : hi ≤ n) (hn : n ≤ 1000000) :
    Calls Try.prog 78 #[.slice (some ⟨g, 0, none⟩) n c, .int .i64 a, .int .i64 b, .int .i64 k, .func (.func 63) #[] #[]] W (SWQ W B g n c lo hi a b k xs) := by
  have hu := Try.underlying108
  have HS0 := Aside0.mk h
  have HH := Aside0.mk (And.intro h1 (And.intro h2 (And.intro h3 h4)))
  have ha64 : a ≤ 1000000 := by omega
  have hb64 : b ≤ 1000000 := by omega
  have hk64 : k ≤ 1000000 := by omega
  clear h h1 h2 h3 h4
  go_enter Try.func78, Try.ntmps78
  go_wp2_with fail
  go_loopw [10] (fun v10 wr => ∃ (i : Nat) (zs : List Pk), v10 = .int .i64 i ∧ i ≤ k ∧ Aside0 (SD W wr B g n c zs) ∧ Aside0 (SwR lo hi a b i xs zs)) (fun v10 _ => k - (intOf v10).toNat)
  case atStart => exact ⟨0, xs, rfl, Nat.zero_le _, HS0, ⟨SwR.start _ _ _ _ _⟩⟩
  case round =>
    clear HS0
    obtain ⟨i, zs, rfl, hik, HS, HR⟩ := hrel
    by_cases hlt : i < k
    · have hb1 : decide (i < k) = true := by simp; omega
      have hh := HH.out
      have hlen := HS.out.len
      obtain ⟨c0, c1⟩ := atP HS.out.ro (a + i) (by omega)
      obtain ⟨d0, d1⟩ := atP HS.out.ro (b + i) (by omega)
      obtain ⟨⟨x0, x1, x2, x3, x4⟩, hx⟩ : ∃ z, rdP zs (a + i) = z := ⟨_, rfl⟩
      obtain ⟨⟨y0, y1, y2, y3, y4⟩, hy⟩ : ∃ z, rdP zs (b + i) = z := ⟨_, rfl⟩
      rw [hx] at c0 c1
      rw [hy] at d0 d1
      simp only at c0 c1 d0 d1
      have HX := Aside0.mk (And.intro hx hy)
      have q1 : (0 : Int) ≤ (a : Int) + (i : Int) := by omega
      have q2 : (a : Int) + (i : Int) < (n : Int) := by omega
      have q3 : (0 : Int) ≤ (b : Int) + (i : Int) := by omega
      have q4 : (b : Int) + (i : Int) < (n : Int) := by omega
      have q5 : ((a : Int) + (i : Int)).toNat = a + i := by omega
      have q6 : ((b : Int) + (i : Int)).toNat = b + i := by omega
      have q7 : IntKind.i64.wrap ((a : Int) + (i : Int)) = (a : Int) + (i : Int) := IntWalk.i64_in _ (by omega)
      have q8 : IntKind.i64.wrap ((b : Int) + (i : Int)) = (b : Int) + (i : Int) := IntWalk.i64_in _ (by omega)
      have HJ := Aside0.mk (And.intro hlt hlen)
      clear hx hy hlt hh hlen
      go_upto_region 3 with (fail)
      have HS4 := Aside0.mk HS.out.drew
      refine wp_region_any (by kernel_rfl) ?_
      change wpAny _ _ _ _ _ _ _ (World.drew _)
      refine wpAny_take (i := 0) (v := ?vr1) rfl (by kernel_rfl) (by kernel_rfl) (by kernel_rfl) (fun _ _ _ h => h) (Or.inl ⟨by kernel_rfl, ?yr1⟩) ?_
      case yr1 => (intro w; go_simp; try with_reducible rfl)
      refine wpAny_take (i := 1) (v := ?vr2) rfl (by kernel_rfl) (by kernel_rfl) (by kernel_rfl) (fun _ _ _ h => h) (Or.inl ⟨by kernel_rfl, ?yr2⟩) ?_
      case yr2 => (intro w; go_simp; try with_reducible rfl)
      refine wpAny_take (i := 2) (v := ?vr3) rfl (by kernel_rfl) (by kernel_rfl) (by kernel_rfl) (fun _ _ _ h => h) (Or.inl ⟨by kernel_rfl, ?yr3⟩) ?_
      case yr3 => (intro w; go_simp; try with_reducible rfl)
      refine wpAny_take (i := 3) (v := ?vr4) rfl (by kernel_rfl) (by kernel_rfl) (by kernel_rfl) (fun _ _ _ h => h) (Or.inl ⟨by kernel_rfl, ?yr4⟩) ?_
      case yr4 => (intro w; go_simp; try with_reducible rfl)
      refine wpAny_take (i := 4) (v := ?vr5) rfl (by kernel_rfl) (by kernel_rfl) (by kernel_rfl) (fun _ _ _ h => h) (Or.inl ⟨by kernel_rfl, ?yr5⟩) ?_
      case yr5 => (intro w; go_simp; try with_reducible rfl)
      refine wpAny_take (i := 5) (v := ?vr6) rfl (by kernel_rfl) (by kernel_rfl) (by kernel_rfl) (fun _ _ _ h => h) (Or.inl ⟨by kernel_rfl, ?yr6⟩) ?_
      case yr6 => (intro w; go_simp; try with_reducible rfl)
      refine wpAny_take (i := 6) (v := ?vr7) rfl (by kernel_rfl) (by kernel_rfl) (by kernel_rfl) (fun _ _ _ h => h) (Or.inl ⟨by kernel_rfl, ?yr7⟩) ?_
      case yr7 => (intro w; go_simp; try with_reducible rfl)
      refine wpAny_take (i := 7) (v := ?vr8) rfl (by kernel_rfl) (by kernel_rfl) (by kernel_rfl) (fun _ _ _ h => h) (Or.inl ⟨by kernel_rfl, ?yr8⟩) ?_
      case yr8 => (intro w; go_simp; try with_reducible rfl)
      refine wpAny_take (i := 8) (v := ?vr9) rfl (by kernel_rfl) (by kernel_rfl) (by kernel_rfl) (fun _ _ _ h => h) (Or.inl ⟨by kernel_rfl, ?yr9⟩) ?_
      case yr9 => (intro w; go_simp; try with_reducible rfl)
      refine wpAny_take (i := 9) (v := ?vr10) rfl (by kernel_rfl) (by kernel_rfl) (by kernel_rfl) (fun _ _ _ h => h) (Or.inl ⟨by kernel_rfl, ?yr10⟩) ?_
      case yr10 => (intro w; go_simp; try with_reducible rfl)
      refine wpAny_take (i := 10) (v := ?vr11) rfl (by kernel_rfl) (by kernel_rfl) (by kernel_rfl) (fun _ _ _ h => h) (Or.inl ⟨by kernel_rfl, ?yr11⟩) ?_
      case yr11 => (intro w; go_simp; try with_reducible rfl)
      refine wpAny_take (i := 11) (v := ?vr12) rfl (by kernel_rfl) (by kernel_rfl) (by kernel_rfl) (fun _ _ _ h => h) (Or.inl ⟨by kernel_rfl, ?yr12⟩) ?_
      case yr12 => (intro w; go_simp; try with_reducible rfl)
      refine wpAny_take (i := 12) (v := ?vr13) rfl (by kernel_rfl) (by kernel_rfl) (by kernel_rfl) (fun _ _ _ h => h) (Or.inl ⟨by kernel_rfl, ?yr13⟩) ?_
      case yr13 => (intro w; go_simp; try with_reducible rfl)
      refine wpAny_take (i := 14) (v := ?vr14) rfl (by kernel_rfl) (by kernel_rfl) (by kernel_rfl) (fun _ _ _ h => h) (Or.inl ⟨by kernel_rfl, ?yr14⟩) ?_
      case yr14 => (intro w; go_simp; try with_reducible rfl)
      refine wpAny_take (i := 15) (v := ?vr15) rfl (by kernel_rfl) (by kernel_rfl) (by kernel_rfl) (fun _ _ _ h => h) (Or.inl ⟨by kernel_rfl, ?yr15⟩) ?_
      case yr15 => (intro w; go_simp; try with_reducible rfl)
      refine wpAny_take (i := 16) (v := ?vr16) rfl (by kernel_rfl) (by kernel_rfl) (by kernel_rfl) (fun _ _ _ h => h) (Or.inl ⟨by kernel_rfl, ?yr16⟩) ?_
      case yr16 => (intro w; go_simp; try with_reducible rfl)
      refine wpAny_take (i := 17) (v := ?vr17) rfl (by kernel_rfl) (by kernel_rfl) (by kernel_rfl) (fun _ _ _ h => h) (Or.inl ⟨by kernel_rfl, ?yr17⟩) ?_
      case yr17 => (intro w; go_simp; try with_reducible rfl)
      refine wpAny_take (i := 18) (v := ?vr18) rfl (by kernel_rfl) (by kernel_rfl) (by kernel_rfl) (fun _ _ _ h => h) (Or.inl ⟨by kernel_rfl, ?yr18⟩) ?_
      case yr18 => (intro w; go_simp; try with_reducible rfl)
      refine wpAny_ready (rs := [13, 19]) (by kernel_rfl) (by simp) ?_
      refine (AllReady.cons rfl (fun K hK => ?_) (AllReady.cons rfl (fun K hK => ?_) AllReady.nil))
      · skip
        go_simp
        refine hK _ _ ?_
        clear hK K
        refine wpAny_ready (rs := [19]) (by kernel_rfl) (by simp) ?_
        refine (AllReady.cons rfl (fun K hK => ?_) AllReady.nil)
        go_simp
        refine hK _ _ ?_
        clear hK K
        refine wpAny_take (i := 20) (v := ?vr19) rfl (by kernel_rfl) (by kernel_rfl) (by kernel_rfl) (fun _ _ _ h => h) (Or.inl ⟨by kernel_rfl, ?yr19⟩) ?_
        case yr19 => (intro w; go_simp; try with_reducible rfl)
        refine wpAny_ready (rs := [21]) (by kernel_rfl) (by simp) ?_
        refine (AllReady.cons rfl (fun K hK => ?_) AllReady.nil)
        have hh := HH.out
        have hj := HJ.out
        refine store_step B (by kernel_rfl) rfl (.tmp 36) (.tmp 29) rfl (a + i) zs ⟨y0, y1, y2, y3, y4⟩ (by rfl) (by rfl) (by rfl) HS4.out.ro (by omega) ?_
        clear hh hj
        intro w5 hr5 hf5
        have HS5 := Aside0.mk (HS4.out.step hr5 hf5)
        clear hr5 hf5
        refine hK _ _ ?_
        clear hK K
        refine wpAny_take (i := 22) (v := ?vr20) rfl (by kernel_rfl) (by kernel_rfl) (by kernel_rfl) (fun _ _ _ h => h) (Or.inl ⟨by kernel_rfl, ?yr20⟩) ?_
        case yr20 => (intro w; go_simp; try with_reducible rfl)
        refine wpAny_ready (rs := [23]) (by kernel_rfl) (by simp) ?_
        refine (AllReady.cons rfl (fun K hK => ?_) AllReady.nil)
        have hh := HH.out
        have hj := HJ.out
        refine store_step B (by kernel_rfl) rfl (.tmp 37) (.tmp 35) rfl (b + i) (zs.set (a + i) ⟨y0, y1, y2, y3, y4⟩) ⟨x0, x1, x2, x3, x4⟩ (by rfl) (by rfl) (by rfl) HS5.out.ro (by omega) ?_
        clear hh hj
        intro w6 hr6 hf6
        have HS6 := Aside0.mk (HS5.out.step hr6 hf6)
        clear hr6 hf6
        refine hK _ _ ?_
        clear hK K
        refine wpAny_done (by kernel_rfl) ?_ _
        have HR2 : Aside0 (SwR lo hi a b (i + 1) xs ((zs.set (a + i) ⟨y0, y1, y2, y3, y4⟩).set (b + i) ⟨x0, x1, x2, x3, x4⟩)) := ⟨by have h := HR.out.step HH.out.1 (by have := HH.out; have := HJ.out.1; omega) (by have := HH.out; have := HJ.out.1; omega) (by have := HH.out; have := HJ.out.2; omega); unfold swp at h; rw [HX.out.1, HX.out.2] at h; exact h⟩
        go_wp2_with fail
        go_roundw
        case rel => exact ⟨i + 1, _, by simp, HJ.out.1, HS6, HR2⟩
        case measure => simp [intOf]; have := HJ.out.1; omega
      · skip
        go_simp
        refine hK _ _ ?_
        clear hK K
        refine wpAny_ready (rs := [13]) (by kernel_rfl) (by simp) ?_
        refine (AllReady.cons rfl (fun K hK => ?_) AllReady.nil)
        go_simp
        refine hK _ _ ?_
        clear hK K
        refine wpAny_take (i := 20) (v := ?vr21) rfl (by kernel_rfl) (by kernel_rfl) (by kernel_rfl) (fun _ _ _ h => h) (Or.inl ⟨by kernel_rfl, ?yr21⟩) ?_
        case yr21 => (intro w; go_simp; try with_reducible rfl)
        refine wpAny_ready (rs := [21]) (by kernel_rfl) (by simp) ?_
        refine (AllReady.cons rfl (fun K hK => ?_) AllReady.nil)
        have hh := HH.out
        have hj := HJ.out
        refine store_step B (by kernel_rfl) rfl (.tmp 36) (.tmp 29) rfl (a + i) zs ⟨y0, y1, y2, y3, y4⟩ (by rfl) (by rfl) (by rfl) HS4.out.ro (by omega) ?_
        clear hh hj
        intro w5 hr5 hf5
        have HS5 := Aside0.mk (HS4.out.step hr5 hf5)
        clear hr5 hf5
        refine hK _ _ ?_
        clear hK K
        refine wpAny_take (i := 22) (v := ?vr22) rfl (by kernel_rfl) (by kernel_rfl) (by kernel_rfl) (fun _ _ _ h => h) (Or.inl ⟨by kernel_rfl, ?yr22⟩) ?_
        case yr22 => (intro w; go_simp; try with_reducible rfl)
        refine wpAny_ready (rs := [23]) (by kernel_rfl) (by simp) ?_
        refine (AllReady.cons rfl (fun K hK => ?_) AllReady.nil)
        have hh := HH.out
        have hj := HJ.out
        refine store_step B (by kernel_rfl) rfl (.tmp 37) (.tmp 35) rfl (b + i) (zs.set (a + i) ⟨y0, y1, y2, y3, y4⟩) ⟨x0, x1, x2, x3, x4⟩ (by rfl) (by rfl) (by rfl) HS5.out.ro (by omega) ?_
        clear hh hj
        intro w6 hr6 hf6
        have HS6 := Aside0.mk (HS5.out.step hr6 hf6)
        clear hr6 hf6
        refine hK _ _ ?_
        clear hK K
        refine wpAny_done (by kernel_rfl) ?_ _
        have HR2 : Aside0 (SwR lo hi a b (i + 1) xs ((zs.set (a + i) ⟨y0, y1, y2, y3, y4⟩).set (b + i) ⟨x0, x1, x2, x3, x4⟩)) := ⟨by have h := HR.out.step HH.out.1 (by have := HH.out; have := HJ.out.1; omega) (by have := HH.out; have := HJ.out.1; omega) (by have := HH.out; have := HJ.out.2; omega); unfold swp at h; rw [HX.out.1, HX.out.2] at h; exact h⟩
        go_wp2_with fail
        go_roundw
        case rel => exact ⟨i + 1, _, by simp, HJ.out.1, HS6, HR2⟩
        case measure => simp [intOf]; have := HJ.out.1; omega
    · have hb1 : decide (i < k) = false := by simp; omega
      have hie : i = k := by omega
      subst hie
      clear hlt
      go_wp2_with fail
      go_end0
      exact ⟨rfl, zs, HS.out, HR.out⟩
/-- What a turn leaves. -/
def ROQ (W : World) (B g n c a m b : Nat) (xs : List Pk) (e : Ending) (w' : World) : Prop := e = .returned (.tuple #[]) ∧ ∃ ys, SD W w' B g n c ys ∧ PermIn a b xs ys ∧ ∀ k, rdP ys k = rdP xs (rotI a m b k)
theorem SD.again {W w w' : World} {B g n c : Nat} {xs ys : List Pk} (h : SD W w B g n c xs) (k : SD w w' B g n c ys) : SD W w' B g n c ys := ⟨h.fr.then_ k.fr (fun _ hk => Or.inl hk), k.ro⟩
theorem SD.self {W w : World} {B g n c : Nat} {xs : List Pk} (h : SD W w B g n c xs) : SD w w B g n c xs := ⟨Fr.refl _ _, h.ro⟩
set_option maxRecDepth 100000 in
set_option maxHeartbeats 8000000 in
theorem rotate_ok {W : World} {B g n c : Nat} (xs : List Pk) (a m b : Nat) (h : SD W W B g n c xs) (h1 : a < m) (h2 : m < b) (h4 : b ≤ n) (hn : n ≤ 1000000) :
    Calls Try.prog 77 #[.slice (some ⟨g, 0, none⟩) n c, .int .i64 a, .int .i64 m, .int .i64 b, .func (.func 63) #[] #[]] W (ROQ W B g n c a m b xs) := by
  have HS0 := Aside0.mk h
  have HH := Aside0.mk (And.intro h1 (And.intro h2 h4))
  have e1 : (m : Int) - (a : Int) = ((m - a : Nat) : Int) := by omega
  have e2 : (b : Int) - (m : Int) = ((b - m : Nat) : Int) := by omega
  have hm64 : m ≤ 1000000 := by omega
  have ha64 : a ≤ 1000000 := by omega
  have hb64 : b ≤ 1000000 := by omega
  have HE := Aside0.mk (And.intro e1 e2)
  clear h h1 h2 h4 e1 e2
  go_enter Try.func77, Try.ntmps77
  go_wp2_with fail
  rw [HE.out.1, HE.out.2]
  go_loopw [10, 11] (fun v10 v11 wr => ∃ (i j : Nat) (zs : List Pk), v10 = .int .i64 i ∧ v11 = .int .i64 j ∧ Aside0 (0 < i ∧ i ≤ m - a ∧ 0 < j ∧ j ≤ b - m) ∧ Aside0 (SD W wr B g n c zs) ∧ Aside0 (PermIn a b xs zs) ∧ Aside0 (∀ k, rdP xs (rotI a m b k) = rdP zs (rotI (m - i) m (m + j) k))) (fun v10 v11 _ => (intOf v10).toNat + (intOf v11).toNat)
  case atStart => exact ⟨m - a, b - m, xs, rfl, rfl, ⟨by have := HH.out; omega⟩, HS0, ⟨PermIn.refl _ _ _⟩, ⟨fun k => by have := HH.out; rw [show m - (m - a) = a by omega, show m + (b - m) = b by omega]⟩⟩
  case round =>
    clear HS0
    obtain ⟨i, j, zs, rfl, rfl, HIJ, HS, HP, HR⟩ := hrel
    have hij := HIJ.out
    have hh := HH.out
    have s1 : (m : Int) - (i : Int) = ((m - i : Nat) : Int) := by omega
    have hi64 : i ≤ 1000000 := by omega
    have hj64 : j ≤ 1000000 := by omega
    have hmi : i ≤ m := by omega
    by_cases hne : i = j
    · subst hne
      have hb1 : ((i : Int) != (i : Int)) = false := by simp
      have hR := swapr_ok (W := wr) zs a b (m - i) m i HS.out.self (by omega) (by omega) (by omega) (by omega) hn
      have HRR := Aside0.mk hR
      have HS1 := Aside0.mk s1
      clear hR hij hh s1
      go_wp2_with fail
      rw [HS1.out]
      refine HRR.out.mono ?_
      rintro e w2 ⟨rfl, ys, hs, hsw⟩
      have HS2 := Aside0.mk (HS.out.again hs)
      have HP2 := Aside0.mk (HP.out.trans hsw.pm)
      have HR2 := Aside0.mk (show ∀ k, rdP ys k = rdP xs (rotI a m b k) from fun k => by rw [HR.out k, rot_eq hmi k, ← hsw.rd])
      clear hs hsw
      go_wp2_with fail
      go_end0
      exact ⟨rfl, ys, HS2.out, HP2.out, HR2.out⟩
    · have hb1 : ((i : Int) != (j : Int)) = true := by simp; omega
      have hb1' : (i != j) = true := by simp; omega
      by_cases hgt : j < i
      · have hb2 : decide ((j : Int) < (i : Int)) = true := by simp; omega
        have hb2' : decide (j < i) = true := by simp; omega
        have hR := swapr_ok (W := wr) zs a b (m - i) m j HS.out.self (by omega) (by omega) (by omega) (by omega) hn
        have HRR := Aside0.mk hR
        have HS1 := Aside0.mk s1
        have HD := Aside0.mk (show ((i : Int) - (j : Int)) = ((i - j : Nat) : Int) by omega)
        have HC := Aside0.mk hgt
        clear hR hij hh s1 hne hgt
        go_wp2_with fail
        rw [HS1.out]
        refine HRR.out.mono ?_
        rintro e w2 ⟨rfl, ys, hs, hsw⟩
        have HS2 := Aside0.mk (HS.out.again hs)
        have HP2 := Aside0.mk (HP.out.trans hsw.pm)
        have HR2 := Aside0.mk (show ∀ k, rdP xs (rotI a m b k) = rdP ys (rotI (m - (i - j)) m (m + j) k) from fun k => by rw [HR.out k, rot_gt hmi HC.out HIJ.out.2.2.1 k, ← hsw.rd])
        clear hs hsw
        go_wp2_with fail
        go_roundw
        case rel => exact ⟨i - j, j, ys, by rw [HD.out], rfl, ⟨by have := HIJ.out; have := HC.out; omega⟩, HS2, HP2, HR2⟩
        case measure => simp [intOf]; have := HIJ.out; have := HC.out; omega
      · have hb2 : decide ((j : Int) < (i : Int)) = false := by simp; omega
        have hb2' : decide (j < i) = false := by simp; omega
        have hR := swapr_ok (W := wr) zs a b (m - i) (m + j - i) i HS.out.self (by omega) (by omega) (by omega) (by omega) hn
        have HRR := Aside0.mk hR
        have HS1 := Aside0.mk (And.intro s1 (show (m : Int) + (j : Int) - (i : Int) = ((m + j - i : Nat) : Int) by omega))
        have HD := Aside0.mk (show ((j : Int) - (i : Int)) = ((j - i : Nat) : Int) by omega)
        have HC := Aside0.mk (show i < j by omega)
        have hw : IntKind.i64.wrap ((m : Int) + (j : Int) - (i : Int)) = (m : Int) + (j : Int) - (i : Int) := IntWalk.i64_in _ (by omega)
        clear hR hij hh s1 hne hgt
        go_wp2_with fail
        rw [HS1.out.1, HS1.out.2]
        refine HRR.out.mono ?_
        rintro e w2 ⟨rfl, ys, hs, hsw⟩
        have HS2 := Aside0.mk (HS.out.again hs)
        have HP2 := Aside0.mk (HP.out.trans hsw.pm)
        have HR2 := Aside0.mk (show ∀ k, rdP xs (rotI a m b k) = rdP ys (rotI (m - i) m (m + (j - i)) k) from fun k => by rw [HR.out k, rot_lt hmi HC.out HIJ.out.1 k, ← hsw.rd])
        clear hs hsw
        go_wp2_with fail
        go_roundw
        case rel => exact ⟨i, j - i, ys, rfl, by rw [HD.out], ⟨by have := HIJ.out; have := HC.out; omega⟩, HS2, HP2, HR2⟩
        case measure => simp [intOf]; have := HIJ.out; have := HC.out; omega
end Go.Proofs.Ytaghmhcccighgaa.HF
end
section
/- slices.symMergeCmpFunc of packs, the first part of one element: walked. (printed by hsym.py) -/
namespace Go.Proofs.Ytaghmhcccighgaa.HF
open Go.RowKit Go.Proofs.YtaghmhcccighgaaW.PrintWords Go.Proofs.YtaghmhcccighgaaW.PrintLast Go.Proofs.YtaghmhcccighgaaW.PrintMore Go.Proofs.Ytaghmhcccighgaa.HW Go.Proofs.Ytaghmhcccighgaa.MB Go.Proofs.Ytaghmhcccighgaa.Fn
attribute [local go_sem] max2_int min2_int max_two min_two max_three min_three max_four min_four   -- for this text's walks alone
set_option maxRecDepth 100000 in
set_option maxHeartbeats 16000000 in
theorem symm_one {W : World} {B g n c : Nat} (xs : List Pk) (a b : Nat) (h : SD W W B g n c xs) (h1 : a + 1 < b) (h4 : b ≤ n) (hn : n ≤ 1000000) (hs : Sorted (a + 1) b xs) :
    Calls Try.prog 76 #[.slice (some ⟨g, 0, none⟩) n c, .int .i64 a, .int .i64 ((a + 1 : Nat) : Int), .int .i64 b, .func (.func 63) #[] #[]] W (SQ W B g n c a b xs) := by
  have hu := Try.underlying108
  have HS0 := Aside0.mk h
  have HH := Aside0.mk (And.intro h1 h4)
  have HSO := Aside0.mk hs
  obtain ⟨m, hm⟩ : ∃ m, a + 1 = m := ⟨_, rfl⟩
  have HM := Aside0.mk hm
  have hlen := h.len
  have ha64 : a ≤ 1000000 := by omega
  have hb64 : b ≤ 1000000 := by omega
  have hm64 : m ≤ 1000000 := by omega
  have r1 : (((m : Int) - (a : Int)) == 1) = true := by simp; omega
  have r2 : IntKind.i64.wrap ((m : Int) - (a : Int)) = (m : Int) - (a : Int) := IntWalk.i64_in _ (by omega)
  have HL := Aside0.mk hlen
  rw [hm]
  clear h h1 h4 hs hm hlen
  go_enter Try.func76, Try.ntmps76
  go_wp2_with fail
  go_loopw [10, 11] (fun v10 v11 wr => ∃ i j : Nat, v10 = .int .i64 i ∧ v11 = .int .i64 j ∧ Aside0 (m ≤ i ∧ i ≤ j ∧ j ≤ b) ∧ Aside0 (SD W wr B g n c xs) ∧ Aside0 ((∀ q, a < q → q < i → wtP xs q < wtP xs a) ∧ (∀ q, j ≤ q → q < b → wtP xs a ≤ wtP xs q))) (fun v10 v11 _ => (intOf v11).toNat - (intOf v10).toNat)
  case atStart => exact ⟨m, b, rfl, rfl, ⟨by have := HH.out; have := HM.out; omega⟩, HS0, ⟨fun q h1 h2 => by have := HM.out; omega, fun q h1 h2 => by omega⟩⟩
  case round =>
    clear HS0
    obtain ⟨i, j, rfl, rfl, HIJ, HS, HQ⟩ := hrel
    by_cases hlt : i < j
    · have hb1 : decide (i < j) = true := by simp; omega
      have hij := HIJ.out
      have hh := HH.out
      have hm := HM.out
      obtain ⟨hf, hhf⟩ : ∃ hf, (i + j) / 2 = hf := ⟨_, rfl⟩
      have hi64 : i ≤ 1000000 := by omega
      have hj64 : j ≤ 1000000 := by omega
      have he : ((i : Int) + (j : Int)) / 2 = ((hf : Nat) : Int) := by omega
      have HHF := Aside0.mk (show i ≤ hf ∧ hf < j ∧ m ≤ hf ∧ hf < b ∧ b ≤ n from by omega)
      have hhf64 : hf ≤ 1000000 := by omega
      have q1 : (0 : Int) ≤ (hf : Int) := by omega
      have q2 : (hf : Int) < (n : Int) := by omega
      have q3 : (0 : Int) ≤ (a : Int) := by omega
      have q4 : (a : Int) < (n : Int) := by omega
      clear hij hh hm hhf hlt
      go_upto_region 5 with (fail)
      clear he
      obtain ⟨c0, c1⟩ := atP HS.out.ro hf (by have := HHF.out; omega)
      obtain ⟨d0, d1⟩ := atP HS.out.ro a (by have := HH.out; omega)
      obtain ⟨⟨x0, x1, x2, x3, x4⟩, hx⟩ : ∃ z, rdP xs hf = z := ⟨_, rfl⟩
      obtain ⟨⟨y0, y1, y2, y3, y4⟩, hy⟩ : ∃ z, rdP xs a = z := ⟨_, rfl⟩
      rw [hx] at c0 c1
      rw [hy] at d0 d1
      simp only at c0 c1 d0 d1
      have HX := Aside0.mk (And.intro hx hy)
      clear hx hy
      refine wp_region_any (by kernel_rfl) ?_
      change wpAny _ _ _ _ _ _ _ (World.drew _)
      refine wpAny_take (i := 0) (v := ?va1) rfl (by kernel_rfl) (by kernel_rfl) (by kernel_rfl) (fun _ _ _ h => h) (Or.inl ⟨by kernel_rfl, ?ya1⟩) ?_
      case ya1 => (intro w; go_simp; try with_reducible rfl)
      refine wpAny_take (i := 1) (v := ?va2) rfl (by kernel_rfl) (by kernel_rfl) (by kernel_rfl) (fun _ _ _ h => h) (Or.inl ⟨by kernel_rfl, ?ya2⟩) ?_
      case ya2 => (intro w; go_simp; try with_reducible rfl)
      refine wpAny_take (i := 2) (v := ?va3) rfl (by kernel_rfl) (by kernel_rfl) (by kernel_rfl) (fun _ _ _ h => h) (Or.inl ⟨by kernel_rfl, ?ya3⟩) ?_
      case ya3 => (intro w; go_simp; try with_reducible rfl)
      refine wpAny_take (i := 3) (v := ?va4) rfl (by kernel_rfl) (by kernel_rfl) (by kernel_rfl) (fun _ _ _ h => h) (Or.inl ⟨by kernel_rfl, ?ya4⟩) ?_
      case ya4 => (intro w; go_simp; try with_reducible rfl)
      refine wpAny_take (i := 5) (v := ?va5) rfl (by kernel_rfl) (by kernel_rfl) (by kernel_rfl) (fun _ _ _ h => h) (Or.inl ⟨by kernel_rfl, ?ya5⟩) ?_
      case ya5 => (intro w; go_simp; try with_reducible rfl)
      refine wpAny_take (i := 6) (v := ?va6) rfl (by kernel_rfl) (by kernel_rfl) (by kernel_rfl) (fun _ _ _ h => h) (Or.inl ⟨by kernel_rfl, ?ya6⟩) ?_
      case ya6 => (intro w; go_simp; try with_reducible rfl)
      refine wpAny_take (i := 7) (v := ?va7) rfl (by kernel_rfl) (by kernel_rfl) (by kernel_rfl) (fun _ _ _ h => h) (Or.inl ⟨by kernel_rfl, ?ya7⟩) ?_
      case ya7 => (intro w; go_simp; try with_reducible rfl)
      refine wpAny_ready (rs := [4, 8]) (by kernel_rfl) (by simp) ?_
      refine (AllReady.cons rfl (fun K hK => ?_) (AllReady.cons rfl (fun K hK => ?_) AllReady.nil))
      · skip
        go_simp
        refine hK _ _ ?_
        clear hK K
        refine wpAny_ready (rs := [8]) (by kernel_rfl) (by simp) ?_
        refine (AllReady.cons rfl (fun K hK => ?_) AllReady.nil)
        go_simp
        refine hK _ _ ?_
        clear hK K
        refine wpAny_ready (rs := [9]) (by kernel_rfl) (by simp) ?_
        refine (AllReady.cons rfl (fun K hK => ?_) AllReady.nil)
        go_simp
        go_wp2_with fail
        refine (pcmp_val x0 x1 x2 x3 y0 y1 y2 y3 _).mono ?_
        rintro e w3 ⟨rfl, hb⟩
        have HS3 := Aside0.mk (HS.out.drew.below hb)
        clear hb c0 c1 d0 d1
        refine hK _ _ ?_
        clear hK K
        refine wpAny_take (i := 10) (v := ?va8) rfl (by kernel_rfl) (by kernel_rfl) (by kernel_rfl) (fun _ _ _ h => h) (Or.inl ⟨by kernel_rfl, ?ya8⟩) ?_
        case ya8 => (intro w; go_simp; try with_reducible rfl)
        refine wpAny_done (by kernel_rfl) ?_ _
        by_cases hc : x0 < y0
        · have hc1 : decide (cmp3 x0 y0 < 0) = true := by rw [cmp3_lt]; simpa using hc
          have hc2 : cmp3 x0 y0 < 0 := of_decide_eq_true hc1
          have HQ2 : Aside0 ((∀ q, a < q → q < hf + 1 → wtP xs q < wtP xs a) ∧ (∀ q, j ≤ q → q < b → wtP xs a ≤ wtP xs q)) := ⟨fun q h1 h2 => by
            have y1 : wtP xs q ≤ wtP xs hf := HSO.out.le (by omega) (by omega) (by have := HHF.out; omega)
            have y2 : wtP xs hf < wtP xs a := by unfold wtP; rw [HX.out.1, HX.out.2]; exact hc
            omega, HQ.out.2⟩
          clear hc
          go_wp2_with fail
          go_roundw
          case rel => exact ⟨hf + 1, j, by simp, rfl, ⟨by have := HHF.out; have := HIJ.out; omega⟩, HS3, HQ2⟩
          case measure => simp [intOf]; have := HHF.out; omega
        · have hc1 : decide (cmp3 x0 y0 < 0) = false := by rw [cmp3_lt]; simpa using hc
          have hc2 : ¬ cmp3 x0 y0 < 0 := of_decide_eq_false hc1
          have HQ2 : Aside0 ((∀ q, a < q → q < i → wtP xs q < wtP xs a) ∧ (∀ q, hf ≤ q → q < b → wtP xs a ≤ wtP xs q)) := ⟨HQ.out.1, fun q h1 h2 => by
            have y1 : wtP xs hf ≤ wtP xs q := HSO.out.le (by have := HHF.out; have := HM.out; omega) (by omega) (by omega)
            have y2 : wtP xs a ≤ wtP xs hf := by unfold wtP; rw [HX.out.1, HX.out.2]; simp only; omega
            omega⟩
          clear hc
          go_wp2_with fail
          go_roundw
          case rel => exact ⟨i, hf, rfl, rfl, ⟨by have := HHF.out; have := HIJ.out; omega⟩, HS3, HQ2⟩
          case measure => simp [intOf]; have := HHF.out; omega
      · skip
        go_simp
        refine hK _ _ ?_
        clear hK K
        refine wpAny_ready (rs := [4]) (by kernel_rfl) (by simp) ?_
        refine (AllReady.cons rfl (fun K hK => ?_) AllReady.nil)
        go_simp
        refine hK _ _ ?_
        clear hK K
        refine wpAny_ready (rs := [9]) (by kernel_rfl) (by simp) ?_
        refine (AllReady.cons rfl (fun K hK => ?_) AllReady.nil)
        go_simp
        go_wp2_with fail
        refine (pcmp_val x0 x1 x2 x3 y0 y1 y2 y3 _).mono ?_
        rintro e w3 ⟨rfl, hb⟩
        have HS3 := Aside0.mk (HS.out.drew.below hb)
        clear hb c0 c1 d0 d1
        refine hK _ _ ?_
        clear hK K
        refine wpAny_take (i := 10) (v := ?va9) rfl (by kernel_rfl) (by kernel_rfl) (by kernel_rfl) (fun _ _ _ h => h) (Or.inl ⟨by kernel_rfl, ?ya9⟩) ?_
        case ya9 => (intro w; go_simp; try with_reducible rfl)
        refine wpAny_done (by kernel_rfl) ?_ _
        by_cases hc : x0 < y0
        · have hc1 : decide (cmp3 x0 y0 < 0) = true := by rw [cmp3_lt]; simpa using hc
          have hc2 : cmp3 x0 y0 < 0 := of_decide_eq_true hc1
          have HQ2 : Aside0 ((∀ q, a < q → q < hf + 1 → wtP xs q < wtP xs a) ∧ (∀ q, j ≤ q → q < b → wtP xs a ≤ wtP xs q)) := ⟨fun q h1 h2 => by
            have y1 : wtP xs q ≤ wtP xs hf := HSO.out.le (by omega) (by omega) (by have := HHF.out; omega)
            have y2 : wtP xs hf < wtP xs a := by unfold wtP; rw [HX.out.1, HX.out.2]; exact hc
            omega, HQ.out.2⟩
          clear hc
          go_wp2_with fail
          go_roundw
          case rel => exact ⟨hf + 1, j, by simp, rfl, ⟨by have := HHF.out; have := HIJ.out; omega⟩, HS3, HQ2⟩
          case measure => simp [intOf]; have := HHF.out; omega
        · have hc1 : decide (cmp3 x0 y0 < 0) = false := by rw [cmp3_lt]; simpa using hc
          have hc2 : ¬ cmp3 x0 y0 < 0 := of_decide_eq_false hc1
          have HQ2 : Aside0 ((∀ q, a < q → q < i → wtP xs q < wtP xs a) ∧ (∀ q, hf ≤ q → q < b → wtP xs a ≤ wtP xs q)) := ⟨HQ.out.1, fun q h1 h2 => by
            have y1 : wtP xs hf ≤ wtP xs q := HSO.out.le (by have := HHF.out; have := HM.out; omega) (by omega) (by omega)
            have y2 : wtP xs a ≤ wtP xs hf := by unfold wtP; rw [HX.out.1, HX.out.2]; simp only; omega
            omega⟩
          clear hc
          go_wp2_with fail
          go_roundw
          case rel => exact ⟨i, hf, rfl, rfl, ⟨by have := HHF.out; have := HIJ.out; omega⟩, HS3, HQ2⟩
          case measure => simp [intOf]; have := HHF.out; omega
    · have hb1 : decide (i < j) = false := by simp; omega
      have hie : i = j := by have := HIJ.out; omega
      subst hie
      have HI := Aside0.mk (show a < i ∧ i ≤ b ∧ b ≤ n from by have := HIJ.out; have := HM.out; have := HH.out; omega)
      have hi64 : i ≤ 1000000 := by have := HI.out; omega
      have hi1 : 1 ≤ i := by have := HI.out; omega
      have s1 : (i : Int) - 1 = ((i - 1 : Nat) : Int) := by omega
      have HS1 := Aside0.mk s1
      have hw : IntKind.i64.wrap ((i : Int) - 1) = (i : Int) - 1 := IntWalk.i64_in _ (by omega)
      obtain ⟨wo, hwo⟩ : ∃ wo : World, wo = wr := ⟨_, rfl⟩
      subst hwo
      clear hlt s1
      go_wp2_with fail
      go_loopw [13] (fun v13 wr => ∃ (k : Nat) (zs : List Pk), v13 = .int .i64 k ∧ Aside0 (a ≤ k ∧ k ≤ i - 1) ∧ Aside0 (SD W wr B g n c zs) ∧ Aside0 (UpR a b k xs zs)) (fun v13 _ => i - (intOf v13).toNat)
      case atStart => exact ⟨a, xs, rfl, ⟨by have := HI.out; omega⟩, HS, ⟨UpR.start _ _ _⟩⟩
      case round =>
        clear HS
        obtain ⟨k, zs, rfl, HK, HS, HR⟩ := hrel
        have hk64 : k ≤ 1000000 := by have := HK.out; omega
        have hw2 : IntKind.i64.wrap ((i : Int) - 1) = (i : Int) - 1 := IntWalk.i64_in _ (by omega)
        by_cases hlt : k < i - 1
        · have hb2 : decide ((k : Int) < (i : Int) - 1) = true := by simp; omega
          have hlen := HS.out.len
          have HJ := Aside0.mk (show a ≤ k ∧ k + 1 < i ∧ i ≤ b ∧ b ≤ n ∧ n = zs.length from by have := HK.out; have := HI.out; omega)
          have q1 : (0 : Int) ≤ (k : Int) := by omega
          have q2 : (k : Int) < (n : Int) := by have := HJ.out; omega
          have q3 : (0 : Int) ≤ (k : Int) + 1 := by omega
          have q4 : (k : Int) + 1 < (n : Int) := by have := HJ.out; omega
          have q5 : ((k : Int) + 1).toNat = k + 1 := by omega
          have q6 : IntKind.i64.wrap ((k : Int) + 1) = (k : Int) + 1 := IntWalk.i64_in _ (by omega)
          clear hlt hlen
          go_upto_region 11 with (fail)
          have HS4 := Aside0.mk HS.out.drew
          obtain ⟨c0, c1⟩ := atP HS.out.ro k (by have := HJ.out; omega)
          obtain ⟨d0, d1⟩ := atP HS.out.ro (k + 1) (by have := HJ.out; omega)
          obtain ⟨⟨x0, x1, x2, x3, x4⟩, hx⟩ : ∃ z, rdP zs k = z := ⟨_, rfl⟩
          obtain ⟨⟨y0, y1, y2, y3, y4⟩, hy⟩ : ∃ z, rdP zs (k + 1) = z := ⟨_, rfl⟩
          rw [hx] at c0 c1
          rw [hy] at d0 d1
          simp only at c0 c1 d0 d1
          have HX := Aside0.mk (And.intro hx hy)
          clear hx hy
          refine wp_region_any (by kernel_rfl) ?_
          change wpAny _ _ _ _ _ _ _ (World.drew _)
          refine wpAny_take (i := 0) (v := ?vb10) rfl (by kernel_rfl) (by kernel_rfl) (by kernel_rfl) (fun _ _ _ h => h) (Or.inl ⟨by kernel_rfl, ?yb10⟩) ?_
          case yb10 => (intro w; go_simp; try with_reducible rfl)
          refine wpAny_take (i := 1) (v := ?vb11) rfl (by kernel_rfl) (by kernel_rfl) (by kernel_rfl) (fun _ _ _ h => h) (Or.inl ⟨by kernel_rfl, ?yb11⟩) ?_
          case yb11 => (intro w; go_simp; try with_reducible rfl)
          refine wpAny_take (i := 2) (v := ?vb12) rfl (by kernel_rfl) (by kernel_rfl) (by kernel_rfl) (fun _ _ _ h => h) (Or.inl ⟨by kernel_rfl, ?yb12⟩) ?_
          case yb12 => (intro w; go_simp; try with_reducible rfl)
          refine wpAny_take (i := 3) (v := ?vb13) rfl (by kernel_rfl) (by kernel_rfl) (by kernel_rfl) (fun _ _ _ h => h) (Or.inl ⟨by kernel_rfl, ?yb13⟩) ?_
          case yb13 => (intro w; go_simp; try with_reducible rfl)
          refine wpAny_take (i := 4) (v := ?vb14) rfl (by kernel_rfl) (by kernel_rfl) (by kernel_rfl) (fun _ _ _ h => h) (Or.inl ⟨by kernel_rfl, ?yb14⟩) ?_
          case yb14 => (intro w; go_simp; try with_reducible rfl)
          refine wpAny_take (i := 5) (v := ?vb15) rfl (by kernel_rfl) (by kernel_rfl) (by kernel_rfl) (fun _ _ _ h => h) (Or.inl ⟨by kernel_rfl, ?yb15⟩) ?_
          case yb15 => (intro w; go_simp; try with_reducible rfl)
          refine wpAny_take (i := 6) (v := ?vb16) rfl (by kernel_rfl) (by kernel_rfl) (by kernel_rfl) (fun _ _ _ h => h) (Or.inl ⟨by kernel_rfl, ?yb16⟩) ?_
          case yb16 => (intro w; go_simp; try with_reducible rfl)
          refine wpAny_take (i := 7) (v := ?vb17) rfl (by kernel_rfl) (by kernel_rfl) (by kernel_rfl) (fun _ _ _ h => h) (Or.inl ⟨by kernel_rfl, ?yb17⟩) ?_
          case yb17 => (intro w; go_simp; try with_reducible rfl)
          refine wpAny_take (i := 8) (v := ?vb18) rfl (by kernel_rfl) (by kernel_rfl) (by kernel_rfl) (fun _ _ _ h => h) (Or.inl ⟨by kernel_rfl, ?yb18⟩) ?_
          case yb18 => (intro w; go_simp; try with_reducible rfl)
          refine wpAny_take (i := 10) (v := ?vb19) rfl (by kernel_rfl) (by kernel_rfl) (by kernel_rfl) (fun _ _ _ h => h) (Or.inl ⟨by kernel_rfl, ?yb19⟩) ?_
          case yb19 => (intro w; go_simp; try with_reducible rfl)
          refine wpAny_take (i := 11) (v := ?vb20) rfl (by kernel_rfl) (by kernel_rfl) (by kernel_rfl) (fun _ _ _ h => h) (Or.inl ⟨by kernel_rfl, ?yb20⟩) ?_
          case yb20 => (intro w; go_simp; try with_reducible rfl)
          refine wpAny_take (i := 12) (v := ?vb21) rfl (by kernel_rfl) (by kernel_rfl) (by kernel_rfl) (fun _ _ _ h => h) (Or.inl ⟨by kernel_rfl, ?yb21⟩) ?_
          case yb21 => (intro w; go_simp; try with_reducible rfl)
          refine wpAny_ready (rs := [9, 13]) (by kernel_rfl) (by simp) ?_
          refine (AllReady.cons rfl (fun K hK => ?_) (AllReady.cons rfl (fun K hK => ?_) AllReady.nil))
          · skip
            go_simp
            refine hK _ _ ?_
            clear hK K
            refine wpAny_ready (rs := [13]) (by kernel_rfl) (by simp) ?_
            refine (AllReady.cons rfl (fun K hK => ?_) AllReady.nil)
            go_simp
            refine hK _ _ ?_
            clear hK K
            refine wpAny_take (i := 14) (v := ?vb22) rfl (by kernel_rfl) (by kernel_rfl) (by kernel_rfl) (fun _ _ _ h => h) (Or.inl ⟨by kernel_rfl, ?yb22⟩) ?_
            case yb22 => (intro w; go_simp; try with_reducible rfl)
            refine wpAny_ready (rs := [15]) (by kernel_rfl) (by simp) ?_
            refine (AllReady.cons rfl (fun K hK => ?_) AllReady.nil)
            have hh := HJ.out
            refine store_step B (by kernel_rfl) rfl (.tmp 75) (.tmp 70) rfl (k) zs ⟨y0, y1, y2, y3, y4⟩ (by rfl) (by rfl) (by rfl) HS4.out.ro (by omega) ?_
            clear hh
            intro w5 hr5 hf5
            have HS5 := Aside0.mk (HS4.out.step hr5 hf5)
            clear hr5 hf5
            refine hK _ _ ?_
            clear hK K
            refine wpAny_take (i := 16) (v := ?vb23) rfl (by kernel_rfl) (by kernel_rfl) (by kernel_rfl) (fun _ _ _ h => h) (Or.inl ⟨by kernel_rfl, ?yb23⟩) ?_
            case yb23 => (intro w; go_simp; try with_reducible rfl)
            refine wpAny_ready (rs := [17]) (by kernel_rfl) (by simp) ?_
            refine (AllReady.cons rfl (fun K hK => ?_) AllReady.nil)
            have hh := HJ.out
            refine store_step B (by kernel_rfl) rfl (.tmp 76) (.tmp 74) rfl (k + 1) (zs.set k ⟨y0, y1, y2, y3, y4⟩) ⟨x0, x1, x2, x3, x4⟩ (by rfl) (by rfl) (by rfl) HS5.out.ro (by omega) ?_
            clear hh
            intro w6 hr6 hf6
            have HS6 := Aside0.mk (HS5.out.step hr6 hf6)
            clear hr6 hf6
            refine hK _ _ ?_
            clear hK K
            refine wpAny_done (by kernel_rfl) ?_ _
            have HR2 : Aside0 (UpR a b (k + 1) xs ((zs.set k ⟨y0, y1, y2, y3, y4⟩).set (k + 1) ⟨x0, x1, x2, x3, x4⟩)) := ⟨by have h := HR.out.step HJ.out.1 (by have := HJ.out; omega) (by have := HJ.out; omega); unfold swp at h; rw [HX.out.1, HX.out.2] at h; exact h⟩
            go_wp2_with fail
            go_roundw
            case rel => exact ⟨k + 1, _, by simp, ⟨by have := HJ.out; omega⟩, HS6, HR2⟩
            case measure => simp [intOf]; have := HJ.out; omega
          · skip
            go_simp
            refine hK _ _ ?_
            clear hK K
            refine wpAny_ready (rs := [9]) (by kernel_rfl) (by simp) ?_
            refine (AllReady.cons rfl (fun K hK => ?_) AllReady.nil)
            go_simp
            refine hK _ _ ?_
            clear hK K
            refine wpAny_take (i := 14) (v := ?vb24) rfl (by kernel_rfl) (by kernel_rfl) (by kernel_rfl) (fun _ _ _ h => h) (Or.inl ⟨by kernel_rfl, ?yb24⟩) ?_
            case yb24 => (intro w; go_simp; try with_reducible rfl)
            refine wpAny_ready (rs := [15]) (by kernel_rfl) (by simp) ?_
            refine (AllReady.cons rfl (fun K hK => ?_) AllReady.nil)
            have hh := HJ.out
            refine store_step B (by kernel_rfl) rfl (.tmp 75) (.tmp 70) rfl (k) zs ⟨y0, y1, y2, y3, y4⟩ (by rfl) (by rfl) (by rfl) HS4.out.ro (by omega) ?_
            clear hh
            intro w5 hr5 hf5
            have HS5 := Aside0.mk (HS4.out.step hr5 hf5)
            clear hr5 hf5
            refine hK _ _ ?_
            clear hK K
            refine wpAny_take (i := 16) (v := ?vb25) rfl (by kernel_rfl) (by kernel_rfl) (by kernel_rfl) (fun _ _ _ h => h) (Or.inl ⟨by kernel_rfl, ?yb25⟩) ?_
            case yb25 => (intro w; go_simp; try with_reducible rfl)
            refine wpAny_ready (rs := [17]) (by kernel_rfl) (by simp) ?_
            refine (AllReady.cons rfl (fun K hK => ?_) AllReady.nil)
            have hh := HJ.out
            refine store_step B (by kernel_rfl) rfl (.tmp 76) (.tmp 74) rfl (k + 1) (zs.set k ⟨y0, y1, y2, y3, y4⟩) ⟨x0, x1, x2, x3, x4⟩ (by rfl) (by rfl) (by rfl) HS5.out.ro (by omega) ?_
            clear hh
            intro w6 hr6 hf6
            have HS6 := Aside0.mk (HS5.out.step hr6 hf6)
            clear hr6 hf6
            refine hK _ _ ?_
            clear hK K
            refine wpAny_done (by kernel_rfl) ?_ _
            have HR2 : Aside0 (UpR a b (k + 1) xs ((zs.set k ⟨y0, y1, y2, y3, y4⟩).set (k + 1) ⟨x0, x1, x2, x3, x4⟩)) := ⟨by have h := HR.out.step HJ.out.1 (by have := HJ.out; omega) (by have := HJ.out; omega); unfold swp at h; rw [HX.out.1, HX.out.2] at h; exact h⟩
            go_wp2_with fail
            go_roundw
            case rel => exact ⟨k + 1, _, by simp, ⟨by have := HJ.out; omega⟩, HS6, HR2⟩
            case measure => simp [intOf]; have := HJ.out; omega
        · have hb2 : decide ((k : Int) < (i : Int) - 1) = false := by simp; have := HK.out; omega
          have hke : k = i - 1 := by have := HK.out; omega
          subst hke
          have HO := Aside0.mk (HR.out.sorted ⟨HI.out.1, HI.out.2.1⟩ HSO.out HQ.out.1 HQ.out.2)
          have HP := Aside0.mk (HR.out.perm ⟨HI.out.1, HI.out.2.1⟩ (by have := HL.out; have := HI.out; omega) HQ.out.1)
          clear hlt
          go_wp2_with fail
          go_end0
          exact ⟨rfl, zs, HS.out, HP.out, HO.out⟩
end Go.Proofs.Ytaghmhcccighgaa.HF
end
section
/- slices.symMergeCmpFunc of packs, the second part of one element: walked. (printed by hsym.py) -/
namespace Go.Proofs.Ytaghmhcccighgaa.HF
open Go.RowKit Go.Proofs.YtaghmhcccighgaaW.PrintWords Go.Proofs.YtaghmhcccighgaaW.PrintLast Go.Proofs.YtaghmhcccighgaaW.PrintMore Go.Proofs.Ytaghmhcccighgaa.HW Go.Proofs.Ytaghmhcccighgaa.MB Go.Proofs.Ytaghmhcccighgaa.Fn
attribute [local go_sem] max2_int min2_int max_two min_two max_three min_three max_four min_four   -- for this text's walks alone
set_option maxRecDepth 100000 in
set_option maxHeartbeats 16000000 in
theorem symm_last {W : World} {B g n c : Nat} (xs : List Pk) (a m : Nat) (h : SD W W B g n c xs) (h1 : a + 1 < m) (h4 : m + 1 ≤ n) (hn : n ≤ 1000000) (hs : Sorted a m xs) :
    Calls Try.prog 76 #[.slice (some ⟨g, 0, none⟩) n c, .int .i64 a, .int .i64 m, .int .i64 ((m + 1 : Nat) : Int), .func (.func 63) #[] #[]] W (SQ W B g n c a (m + 1) xs) := by
  have hu := Try.underlying108
  have HS0 := Aside0.mk h
  have HH := Aside0.mk (And.intro h1 h4)
  have HSO := Aside0.mk hs
  obtain ⟨b, hm⟩ : ∃ b, m + 1 = b := ⟨_, rfl⟩
  have HM := Aside0.mk hm
  have hlen := h.len
  have ha64 : a ≤ 1000000 := by omega
  have hb64 : b ≤ 1000000 := by omega
  have hm64 : m ≤ 1000000 := by omega
  have r1 : (((m : Int) - (a : Int)) == 1) = false := by simp; omega
  have r2 : IntKind.i64.wrap ((m : Int) - (a : Int)) = (m : Int) - (a : Int) := IntWalk.i64_in _ (by omega)
  have r3 : (((b : Int) - (m : Int)) == 1) = true := by simp; omega
  have r4 : IntKind.i64.wrap ((b : Int) - (m : Int)) = (b : Int) - (m : Int) := IntWalk.i64_in _ (by omega)
  have HL := Aside0.mk hlen
  rw [hm]
  clear h h1 h4 hs hm hlen
  go_enter Try.func76, Try.ntmps76
  go_wp2_with fail
  go_loopw [14, 15] (fun v10 v11 wr => ∃ i j : Nat, v10 = .int .i64 i ∧ v11 = .int .i64 j ∧ Aside0 (a ≤ i ∧ i ≤ j ∧ j ≤ m) ∧ Aside0 (SD W wr B g n c xs) ∧ Aside0 ((∀ q, a ≤ q → q < i → wtP xs q ≤ wtP xs m) ∧ (∀ q, j ≤ q → q < m → wtP xs m < wtP xs q))) (fun v10 v11 _ => (intOf v11).toNat - (intOf v10).toNat)
  case atStart => exact ⟨a, m, rfl, rfl, ⟨by have := HH.out; omega⟩, HS0, ⟨fun q h1 h2 => by omega, fun q h1 h2 => by omega⟩⟩
  case round =>
    clear HS0
    obtain ⟨i, j, rfl, rfl, HIJ, HS, HQ⟩ := hrel
    by_cases hlt : i < j
    · have hb1 : decide (i < j) = true := by simp; omega
      have hij := HIJ.out
      have hh := HH.out
      obtain ⟨hf, hhf⟩ : ∃ hf, (i + j) / 2 = hf := ⟨_, rfl⟩
      have hi64 : i ≤ 1000000 := by omega
      have hj64 : j ≤ 1000000 := by omega
      have he : ((i : Int) + (j : Int)) / 2 = ((hf : Nat) : Int) := by omega
      have HHF := Aside0.mk (show i ≤ hf ∧ hf < j ∧ a ≤ hf ∧ hf < m ∧ m < n from by omega)
      have hhf64 : hf ≤ 1000000 := by omega
      have q1 : (0 : Int) ≤ (hf : Int) := by omega
      have q2 : (hf : Int) < (n : Int) := by omega
      have q3 : (0 : Int) ≤ (m : Int) := by omega
      have q4 : (m : Int) < (n : Int) := by omega
      clear hij hh hhf hlt
      go_upto_region 17 with (fail)
      clear he
      obtain ⟨c0, c1⟩ := atP HS.out.ro m (by have := HHF.out; omega)
      obtain ⟨d0, d1⟩ := atP HS.out.ro hf (by have := HHF.out; omega)
      obtain ⟨⟨x0, x1, x2, x3, x4⟩, hx⟩ : ∃ z, rdP xs m = z := ⟨_, rfl⟩
      obtain ⟨⟨y0, y1, y2, y3, y4⟩, hy⟩ : ∃ z, rdP xs hf = z := ⟨_, rfl⟩
      rw [hx] at c0 c1
      rw [hy] at d0 d1
      simp only at c0 c1 d0 d1
      have HX := Aside0.mk (And.intro hx hy)
      clear hx hy
      refine wp_region_any (by kernel_rfl) ?_
      change wpAny _ _ _ _ _ _ _ (World.drew _)
      refine wpAny_take (i := 0) (v := ?va26) rfl (by kernel_rfl) (by kernel_rfl) (by kernel_rfl) (fun _ _ _ h => h) (Or.inl ⟨by kernel_rfl, ?ya26⟩) ?_
      case ya26 => (intro w; go_simp; try with_reducible rfl)
      refine wpAny_take (i := 1) (v := ?va27) rfl (by kernel_rfl) (by kernel_rfl) (by kernel_rfl) (fun _ _ _ h => h) (Or.inl ⟨by kernel_rfl, ?ya27⟩) ?_
      case ya27 => (intro w; go_simp; try with_reducible rfl)
      refine wpAny_take (i := 2) (v := ?va28) rfl (by kernel_rfl) (by kernel_rfl) (by kernel_rfl) (fun _ _ _ h => h) (Or.inl ⟨by kernel_rfl, ?ya28⟩) ?_
      case ya28 => (intro w; go_simp; try with_reducible rfl)
      refine wpAny_take (i := 3) (v := ?va29) rfl (by kernel_rfl) (by kernel_rfl) (by kernel_rfl) (fun _ _ _ h => h) (Or.inl ⟨by kernel_rfl, ?ya29⟩) ?_
      case ya29 => (intro w; go_simp; try with_reducible rfl)
      refine wpAny_take (i := 5) (v := ?va30) rfl (by kernel_rfl) (by kernel_rfl) (by kernel_rfl) (fun _ _ _ h => h) (Or.inl ⟨by kernel_rfl, ?ya30⟩) ?_
      case ya30 => (intro w; go_simp; try with_reducible rfl)
      refine wpAny_take (i := 6) (v := ?va31) rfl (by kernel_rfl) (by kernel_rfl) (by kernel_rfl) (fun _ _ _ h => h) (Or.inl ⟨by kernel_rfl, ?ya31⟩) ?_
      case ya31 => (intro w; go_simp; try with_reducible rfl)
      refine wpAny_take (i := 7) (v := ?va32) rfl (by kernel_rfl) (by kernel_rfl) (by kernel_rfl) (fun _ _ _ h => h) (Or.inl ⟨by kernel_rfl, ?ya32⟩) ?_
      case ya32 => (intro w; go_simp; try with_reducible rfl)
      refine wpAny_ready (rs := [4, 8]) (by kernel_rfl) (by simp) ?_
      refine (AllReady.cons rfl (fun K hK => ?_) (AllReady.cons rfl (fun K hK => ?_) AllReady.nil))
      · skip
        go_simp
        refine hK _ _ ?_
        clear hK K
        refine wpAny_ready (rs := [8]) (by kernel_rfl) (by simp) ?_
        refine (AllReady.cons rfl (fun K hK => ?_) AllReady.nil)
        go_simp
        refine hK _ _ ?_
        clear hK K
        refine wpAny_ready (rs := [9]) (by kernel_rfl) (by simp) ?_
        refine (AllReady.cons rfl (fun K hK => ?_) AllReady.nil)
        go_simp
        go_wp2_with fail
        refine (pcmp_val x0 x1 x2 x3 y0 y1 y2 y3 _).mono ?_
        rintro e w3 ⟨rfl, hb⟩
        have HS3 := Aside0.mk (HS.out.drew.below hb)
        clear hb c0 c1 d0 d1
        refine hK _ _ ?_
        clear hK K
        refine wpAny_take (i := 10) (v := ?va33) rfl (by kernel_rfl) (by kernel_rfl) (by kernel_rfl) (fun _ _ _ h => h) (Or.inl ⟨by kernel_rfl, ?ya33⟩) ?_
        case ya33 => (intro w; go_simp; try with_reducible rfl)
        refine wpAny_take (i := 11) (v := ?va34) rfl (by kernel_rfl) (by kernel_rfl) (by kernel_rfl) (fun _ _ _ h => h) (Or.inl ⟨by kernel_rfl, ?ya34⟩) ?_
        case ya34 => (intro w; go_simp; try with_reducible rfl)
        refine wpAny_done (by kernel_rfl) ?_ _
        by_cases hc : x0 < y0
        · have hc1 : decide (cmp3 x0 y0 < 0) = true := by rw [cmp3_lt]; simpa using hc
          have hc2 : cmp3 x0 y0 < 0 := of_decide_eq_true hc1
          have hc3 : ¬ (0 ≤ cmp3 x0 y0) := by omega
          have hc4 : (!decide (cmp3 x0 y0 < 0)) = false := by rw [hc1]; rfl
          have HQ2 : Aside0 ((∀ q, a ≤ q → q < i → wtP xs q ≤ wtP xs m) ∧ (∀ q, hf ≤ q → q < m → wtP xs m < wtP xs q)) := ⟨HQ.out.1, fun q h1 h2 => by
            have y1 : wtP xs hf ≤ wtP xs q := HSO.out.le (by have := HHF.out; omega) (by omega) (by omega)
            have y2 : wtP xs m < wtP xs hf := by unfold wtP; rw [HX.out.1, HX.out.2]; exact hc
            omega⟩
          clear hc
          rw [hc1]
          go_wp2_with fail
          go_roundw
          case rel => exact ⟨i, hf, rfl, rfl, ⟨by have := HHF.out; have := HIJ.out; omega⟩, HS3, HQ2⟩
          case measure => simp [intOf]; have := HHF.out; omega
        · have hc1 : decide (cmp3 x0 y0 < 0) = false := by rw [cmp3_lt]; simpa using hc
          have hc2 : ¬ cmp3 x0 y0 < 0 := of_decide_eq_false hc1
          have hc3 : 0 ≤ cmp3 x0 y0 := by omega
          have hc4 : (!decide (cmp3 x0 y0 < 0)) = true := by rw [hc1]; rfl
          have HQ2 : Aside0 ((∀ q, a ≤ q → q < hf + 1 → wtP xs q ≤ wtP xs m) ∧ (∀ q, j ≤ q → q < m → wtP xs m < wtP xs q)) := ⟨fun q h1 h2 => by
            have y1 : wtP xs q ≤ wtP xs hf := HSO.out.le h1 (by omega) (by have := HHF.out; omega)
            have y2 : wtP xs hf ≤ wtP xs m := by unfold wtP; rw [HX.out.1, HX.out.2]; simp only; omega
            omega, HQ.out.2⟩
          clear hc
          rw [hc1]
          go_wp2_with fail
          go_roundw
          case rel => exact ⟨hf + 1, j, by simp, rfl, ⟨by have := HHF.out; have := HIJ.out; omega⟩, HS3, HQ2⟩
          case measure => simp [intOf]; have := HHF.out; omega
      · skip
        go_simp
        refine hK _ _ ?_
        clear hK K
        refine wpAny_ready (rs := [4]) (by kernel_rfl) (by simp) ?_
        refine (AllReady.cons rfl (fun K hK => ?_) AllReady.nil)
        go_simp
        refine hK _ _ ?_
        clear hK K
        refine wpAny_ready (rs := [9]) (by kernel_rfl) (by simp) ?_
        refine (AllReady.cons rfl (fun K hK => ?_) AllReady.nil)
        go_simp
        go_wp2_with fail
        refine (pcmp_val x0 x1 x2 x3 y0 y1 y2 y3 _).mono ?_
        rintro e w3 ⟨rfl, hb⟩
        have HS3 := Aside0.mk (HS.out.drew.below hb)
        clear hb c0 c1 d0 d1
        refine hK _ _ ?_
        clear hK K
        refine wpAny_take (i := 10) (v := ?va35) rfl (by kernel_rfl) (by kernel_rfl) (by kernel_rfl) (fun _ _ _ h => h) (Or.inl ⟨by kernel_rfl, ?ya35⟩) ?_
        case ya35 => (intro w; go_simp; try with_reducible rfl)
        refine wpAny_take (i := 11) (v := ?va36) rfl (by kernel_rfl) (by kernel_rfl) (by kernel_rfl) (fun _ _ _ h => h) (Or.inl ⟨by kernel_rfl, ?ya36⟩) ?_
        case ya36 => (intro w; go_simp; try with_reducible rfl)
        refine wpAny_done (by kernel_rfl) ?_ _
        by_cases hc : x0 < y0
        · have hc1 : decide (cmp3 x0 y0 < 0) = true := by rw [cmp3_lt]; simpa using hc
          have hc2 : cmp3 x0 y0 < 0 := of_decide_eq_true hc1
          have hc3 : ¬ (0 ≤ cmp3 x0 y0) := by omega
          have hc4 : (!decide (cmp3 x0 y0 < 0)) = false := by rw [hc1]; rfl
          have HQ2 : Aside0 ((∀ q, a ≤ q → q < i → wtP xs q ≤ wtP xs m) ∧ (∀ q, hf ≤ q → q < m → wtP xs m < wtP xs q)) := ⟨HQ.out.1, fun q h1 h2 => by
            have y1 : wtP xs hf ≤ wtP xs q := HSO.out.le (by have := HHF.out; omega) (by omega) (by omega)
            have y2 : wtP xs m < wtP xs hf := by unfold wtP; rw [HX.out.1, HX.out.2]; exact hc
            omega⟩
          clear hc
          rw [hc1]
          go_wp2_with fail
          go_roundw
          case rel => exact ⟨i, hf, rfl, rfl, ⟨by have := HHF.out; have := HIJ.out; omega⟩, HS3, HQ2⟩
          case measure => simp [intOf]; have := HHF.out; omega
        · have hc1 : decide (cmp3 x0 y0 < 0) = false := by rw [cmp3_lt]; simpa using hc
          have hc2 : ¬ cmp3 x0 y0 < 0 := of_decide_eq_false hc1
          have hc3 : 0 ≤ cmp3 x0 y0 := by omega
          have hc4 : (!decide (cmp3 x0 y0 < 0)) = true := by rw [hc1]; rfl
          have HQ2 : Aside0 ((∀ q, a ≤ q → q < hf + 1 → wtP xs q ≤ wtP xs m) ∧ (∀ q, j ≤ q → q < m → wtP xs m < wtP xs q)) := ⟨fun q h1 h2 => by
            have y1 : wtP xs q ≤ wtP xs hf := HSO.out.le h1 (by omega) (by have := HHF.out; omega)
            have y2 : wtP xs hf ≤ wtP xs m := by unfold wtP; rw [HX.out.1, HX.out.2]; simp only; omega
            omega, HQ.out.2⟩
          clear hc
          rw [hc1]
          go_wp2_with fail
          go_roundw
          case rel => exact ⟨hf + 1, j, by simp, rfl, ⟨by have := HHF.out; have := HIJ.out; omega⟩, HS3, HQ2⟩
          case measure => simp [intOf]; have := HHF.out; omega
    · have hb1 : decide (i < j) = false := by simp; omega
      have hie : i = j := by have := HIJ.out; omega
      subst hie
      have HI := Aside0.mk (show a ≤ i ∧ i ≤ m ∧ m < n from by have := HIJ.out; have := HH.out; omega)
      have hi64 : i ≤ 1000000 := by have := HI.out; omega
      obtain ⟨wo, hwo⟩ : ∃ wo : World, wo = wr := ⟨_, rfl⟩
      subst hwo
      clear hlt
      go_wp2_with fail
      go_loopw [17] (fun v13 wr => ∃ (k : Nat) (zs : List Pk), v13 = .int .i64 k ∧ Aside0 (i ≤ k ∧ k ≤ m) ∧ Aside0 (SD W wr B g n c zs) ∧ Aside0 (DnR a b m k xs zs)) (fun v13 _ => (intOf v13).toNat)
      case atStart => exact ⟨m, xs, rfl, ⟨by have := HI.out; omega⟩, HS, ⟨DnR.start _ _ _ _⟩⟩
      case round =>
        clear HS
        obtain ⟨k, zs, rfl, HK, HS, HR⟩ := hrel
        have hk64 : k ≤ 1000000 := by have := HK.out; omega
        by_cases hlt : i < k
        · have hb2 : decide (i < k) = true := by simp; omega
          have hlen := HS.out.len
          have HJ := Aside0.mk (show i < k ∧ k ≤ m ∧ m + 1 = b ∧ b ≤ n ∧ n = zs.length ∧ a ≤ i from by have := HK.out; have := HI.out; have := HM.out; omega)
          have q1 : (0 : Int) ≤ (k : Int) := by omega
          have q2 : (k : Int) < (n : Int) := by have := HJ.out; omega
          have q3 : (0 : Int) ≤ (k : Int) - 1 := by omega
          have q0 : 1 ≤ k := by omega
          have q7 : 1 ≤ (k : Int) := by omega
          have q4 : (k : Int) - 1 < (n : Int) := by have := HJ.out; omega
          have q5 : ((k : Int) - 1).toNat = k - 1 := by omega
          have q6 : IntKind.i64.wrap ((k : Int) - 1) = (k : Int) - 1 := IntWalk.i64_in _ (by omega)
          clear hlt hlen
          go_upto_region 23 with (fail)
          have HS4 := Aside0.mk HS.out.drew
          obtain ⟨c0, c1⟩ := atP HS.out.ro k (by have := HJ.out; omega)
          obtain ⟨d0, d1⟩ := atP HS.out.ro (k - 1) (by have := HJ.out; omega)
          obtain ⟨⟨x0, x1, x2, x3, x4⟩, hx⟩ : ∃ z, rdP zs k = z := ⟨_, rfl⟩
          obtain ⟨⟨y0, y1, y2, y3, y4⟩, hy⟩ : ∃ z, rdP zs (k - 1) = z := ⟨_, rfl⟩
          rw [hx] at c0 c1
          rw [hy] at d0 d1
          simp only at c0 c1 d0 d1
          have HX := Aside0.mk (And.intro hx hy)
          clear hx hy
          refine wp_region_any (by kernel_rfl) ?_
          change wpAny _ _ _ _ _ _ _ (World.drew _)
          refine wpAny_take (i := 0) (v := ?vb37) rfl (by kernel_rfl) (by kernel_rfl) (by kernel_rfl) (fun _ _ _ h => h) (Or.inl ⟨by kernel_rfl, ?yb37⟩) ?_
          case yb37 => (intro w; go_simp; try with_reducible rfl)
          refine wpAny_take (i := 1) (v := ?vb38) rfl (by kernel_rfl) (by kernel_rfl) (by kernel_rfl) (fun _ _ _ h => h) (Or.inl ⟨by kernel_rfl, ?yb38⟩) ?_
          case yb38 => (intro w; go_simp; try with_reducible rfl)
          refine wpAny_take (i := 2) (v := ?vb39) rfl (by kernel_rfl) (by kernel_rfl) (by kernel_rfl) (fun _ _ _ h => h) (Or.inl ⟨by kernel_rfl, ?yb39⟩) ?_
          case yb39 => (intro w; go_simp; try with_reducible rfl)
          refine wpAny_take (i := 3) (v := ?vb40) rfl (by kernel_rfl) (by kernel_rfl) (by kernel_rfl) (fun _ _ _ h => h) (Or.inl ⟨by kernel_rfl, ?yb40⟩) ?_
          case yb40 => (intro w; go_simp; try with_reducible rfl)
          refine wpAny_take (i := 4) (v := ?vb41) rfl (by kernel_rfl) (by kernel_rfl) (by kernel_rfl) (fun _ _ _ h => h) (Or.inl ⟨by kernel_rfl, ?yb41⟩) ?_
          case yb41 => (intro w; go_simp; try with_reducible rfl)
          refine wpAny_take (i := 5) (v := ?vb42) rfl (by kernel_rfl) (by kernel_rfl) (by kernel_rfl) (fun _ _ _ h => h) (Or.inl ⟨by kernel_rfl, ?yb42⟩) ?_
          case yb42 => (intro w; go_simp; try with_reducible rfl)
          refine wpAny_take (i := 6) (v := ?vb43) rfl (by kernel_rfl) (by kernel_rfl) (by kernel_rfl) (fun _ _ _ h => h) (Or.inl ⟨by kernel_rfl, ?yb43⟩) ?_
          case yb43 => (intro w; go_simp; try with_reducible rfl)
          refine wpAny_take (i := 7) (v := ?vb44) rfl (by kernel_rfl) (by kernel_rfl) (by kernel_rfl) (fun _ _ _ h => h) (Or.inl ⟨by kernel_rfl, ?yb44⟩) ?_
          case yb44 => (intro w; go_simp; try with_reducible rfl)
          refine wpAny_take (i := 8) (v := ?vb45) rfl (by kernel_rfl) (by kernel_rfl) (by kernel_rfl) (fun _ _ _ h => h) (Or.inl ⟨by kernel_rfl, ?yb45⟩) ?_
          case yb45 => (intro w; go_simp; try with_reducible rfl)
          refine wpAny_take (i := 10) (v := ?vb46) rfl (by kernel_rfl) (by kernel_rfl) (by kernel_rfl) (fun _ _ _ h => h) (Or.inl ⟨by kernel_rfl, ?yb46⟩) ?_
          case yb46 => (intro w; go_simp; try with_reducible rfl)
          refine wpAny_take (i := 11) (v := ?vb47) rfl (by kernel_rfl) (by kernel_rfl) (by kernel_rfl) (fun _ _ _ h => h) (Or.inl ⟨by kernel_rfl, ?yb47⟩) ?_
          case yb47 => (intro w; go_simp; try with_reducible rfl)
          refine wpAny_take (i := 12) (v := ?vb48) rfl (by kernel_rfl) (by kernel_rfl) (by kernel_rfl) (fun _ _ _ h => h) (Or.inl ⟨by kernel_rfl, ?yb48⟩) ?_
          case yb48 => (intro w; go_simp; try with_reducible rfl)
          refine wpAny_ready (rs := [9, 13]) (by kernel_rfl) (by simp) ?_
          refine (AllReady.cons rfl (fun K hK => ?_) (AllReady.cons rfl (fun K hK => ?_) AllReady.nil))
          · skip
            go_simp
            refine hK _ _ ?_
            clear hK K
            refine wpAny_ready (rs := [13]) (by kernel_rfl) (by simp) ?_
            refine (AllReady.cons rfl (fun K hK => ?_) AllReady.nil)
            go_simp
            refine hK _ _ ?_
            clear hK K
            refine wpAny_take (i := 14) (v := ?vb49) rfl (by kernel_rfl) (by kernel_rfl) (by kernel_rfl) (fun _ _ _ h => h) (Or.inl ⟨by kernel_rfl, ?yb49⟩) ?_
            case yb49 => (intro w; go_simp; try with_reducible rfl)
            refine wpAny_ready (rs := [15]) (by kernel_rfl) (by simp) ?_
            refine (AllReady.cons rfl (fun K hK => ?_) AllReady.nil)
            have hh := HJ.out
            refine store_step B (by kernel_rfl) rfl (.tmp 127) (.tmp 122) rfl (k) zs ⟨y0, y1, y2, y3, y4⟩ (by rfl) (by rfl) (by rfl) HS4.out.ro (by omega) ?_
            clear hh
            intro w5 hr5 hf5
            have HS5 := Aside0.mk (HS4.out.step hr5 hf5)
            clear hr5 hf5
            refine hK _ _ ?_
            clear hK K
            refine wpAny_take (i := 16) (v := ?vb50) rfl (by kernel_rfl) (by kernel_rfl) (by kernel_rfl) (fun _ _ _ h => h) (Or.inl ⟨by kernel_rfl, ?yb50⟩) ?_
            case yb50 => (intro w; go_simp; try with_reducible rfl)
            refine wpAny_ready (rs := [17]) (by kernel_rfl) (by simp) ?_
            refine (AllReady.cons rfl (fun K hK => ?_) AllReady.nil)
            have hh := HJ.out
            refine store_step B (by kernel_rfl) rfl (.tmp 128) (.tmp 126) rfl (k - 1) (zs.set k ⟨y0, y1, y2, y3, y4⟩) ⟨x0, x1, x2, x3, x4⟩ (by rfl) (by rfl) (by rfl) HS5.out.ro (by omega) ?_
            clear hh
            intro w6 hr6 hf6
            have HS6 := Aside0.mk (HS5.out.step hr6 hf6)
            clear hr6 hf6
            refine hK _ _ ?_
            clear hK K
            refine wpAny_done (by kernel_rfl) ?_ _
            have HR2 : Aside0 (DnR a b m (k - 1) xs ((zs.set k ⟨y0, y1, y2, y3, y4⟩).set (k - 1) ⟨x0, x1, x2, x3, x4⟩)) := ⟨by have h := HR.out.step (by have := HJ.out; omega) (by have := HJ.out; omega) (by have := HJ.out; omega) (by have := HJ.out; omega); unfold swp at h; rw [HX.out.1, HX.out.2] at h; exact h⟩
            have s9 : (k : Int) - 1 = ((k - 1 : Nat) : Int) := by have := HJ.out; omega
            have HS9 := Aside0.mk s9
            clear s9
            go_wp2_with fail
            go_roundw
            case rel => exact ⟨k - 1, _, by rw [← HS9.out], ⟨by have := HJ.out; omega⟩, HS6, HR2⟩
            case measure => simp [intOf]; have := HJ.out; omega
          · skip
            go_simp
            refine hK _ _ ?_
            clear hK K
            refine wpAny_ready (rs := [9]) (by kernel_rfl) (by simp) ?_
            refine (AllReady.cons rfl (fun K hK => ?_) AllReady.nil)
            go_simp
            refine hK _ _ ?_
            clear hK K
            refine wpAny_take (i := 14) (v := ?vb51) rfl (by kernel_rfl) (by kernel_rfl) (by kernel_rfl) (fun _ _ _ h => h) (Or.inl ⟨by kernel_rfl, ?yb51⟩) ?_
            case yb51 => (intro w; go_simp; try with_reducible rfl)
            refine wpAny_ready (rs := [15]) (by kernel_rfl) (by simp) ?_
            refine (AllReady.cons rfl (fun K hK => ?_) AllReady.nil)
            have hh := HJ.out
            refine store_step B (by kernel_rfl) rfl (.tmp 127) (.tmp 122) rfl (k) zs ⟨y0, y1, y2, y3, y4⟩ (by rfl) (by rfl) (by rfl) HS4.out.ro (by omega) ?_
            clear hh
            intro w5 hr5 hf5
            have HS5 := Aside0.mk (HS4.out.step hr5 hf5)
            clear hr5 hf5
            refine hK _ _ ?_
            clear hK K
            refine wpAny_take (i := 16) (v := ?vb52) rfl (by kernel_rfl) (by kernel_rfl) (by kernel_rfl) (fun _ _ _ h => h) (Or.inl ⟨by kernel_rfl, ?yb52⟩) ?_
            case yb52 => (intro w; go_simp; try with_reducible rfl)
            refine wpAny_ready (rs := [17]) (by kernel_rfl) (by simp) ?_
            refine (AllReady.cons rfl (fun K hK => ?_) AllReady.nil)
            have hh := HJ.out
            refine store_step B (by kernel_rfl) rfl (.tmp 128) (.tmp 126) rfl (k - 1) (zs.set k ⟨y0, y1, y2, y3, y4⟩) ⟨x0, x1, x2, x3, x4⟩ (by rfl) (by rfl) (by rfl) HS5.out.ro (by omega) ?_
            clear hh
            intro w6 hr6 hf6
            have HS6 := Aside0.mk (HS5.out.step hr6 hf6)
            clear hr6 hf6
            refine hK _ _ ?_
            clear hK K
            refine wpAny_done (by kernel_rfl) ?_ _
            have HR2 : Aside0 (DnR a b m (k - 1) xs ((zs.set k ⟨y0, y1, y2, y3, y4⟩).set (k - 1) ⟨x0, x1, x2, x3, x4⟩)) := ⟨by have h := HR.out.step (by have := HJ.out; omega) (by have := HJ.out; omega) (by have := HJ.out; omega) (by have := HJ.out; omega); unfold swp at h; rw [HX.out.1, HX.out.2] at h; exact h⟩
            have s9 : (k : Int) - 1 = ((k - 1 : Nat) : Int) := by have := HJ.out; omega
            have HS9 := Aside0.mk s9
            clear s9
            go_wp2_with fail
            go_roundw
            case rel => exact ⟨k - 1, _, by rw [← HS9.out], ⟨by have := HJ.out; omega⟩, HS6, HR2⟩
            case measure => simp [intOf]; have := HJ.out; omega
        · have hb2 : decide (i < k) = false := by simp; omega
          have hke : k = i := by have := HK.out; omega
          subst hke
          have HO := Aside0.mk (HR.out.sorted ⟨HI.out.1, HI.out.2.1⟩ HM.out.symm HSO.out HQ.out.1 HQ.out.2)
          have HP := Aside0.mk (HR.out.perm ⟨HI.out.1, HI.out.2.1⟩ (by have := HL.out; have := HI.out; omega) HQ.out.2)
          clear hlt
          go_wp2_with fail
          go_end0
          exact ⟨rfl, zs, HS.out, HP.out, HO.out⟩
end Go.Proofs.Ytaghmhcccighgaa.HF
end
