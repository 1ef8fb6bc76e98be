/- slices.swapRangeCmpFunc, rotateCmpFunc of packs: walked. (printed by hrot.py) -/
import Derived.Test.YtmmoenleldcadaaGS
import Derived.Test.YtmmoenleldcadaaHIns
namespace Go.Proofs.Ytmmoenleldcadaa.HF
open Go.RowKit Go.Proofs.YtmmoenleldcadaaW.PrintWords Go.Proofs.YtmmoenleldcadaaW.PrintLast Go.Proofs.YtmmoenleldcadaaW.PrintMore Go.Proofs.Ytmmoenleldcadaa.HW Go.Proofs.Ytmmoenleldcadaa.MB Go.Proofs.Ytmmoenleldcadaa.Fn
attribute [local go_sem] max2_int min2_int max_two min_two max_three min_three max_four min_four   -- for this text's walks alone
/-- What an exchange leaves. -/
def SWQ (W : World) (B g n c lo hi a b k : Nat) (xs : List Pk) (e : Ending) (w' : World) : Prop := e = .returned (.tuple #[]) ∧ ∃ ys, SD W w' B g n c ys ∧ SwR lo hi a b k xs ys
set_option maxRecDepth 100000 in
set_option maxHeartbeats 8000000 in
theorem swapr_ok {W : World} {B g n c : Nat} (xs : List Pk) (lo hi a b k : Nat) (h : SD W W B g n c xs) (h1 : lo ≤ a) (h2 : a + k ≤ b) (h3 : b + k ≤ hi) (h4 : hi ≤ n) (hn : n ≤ 1000000) :
    Calls Try.prog 61 #[.slice (some ⟨g, 0, none⟩) n c, .int .i64 a, .int .i64 b, .int .i64 k, .func (.func 37) #[] #[]] W (SWQ W B g n c lo hi a b k xs) := by
  have hu := Try.underlying63
  have HS0 := Aside0.mk h
  have HH := Aside0.mk (And.intro h1 (And.intro h2 (And.intro h3 h4)))
  have ha64 : a ≤ 1000000 := by omega
  have hb64 : b ≤ 1000000 := by omega
  have hk64 : k ≤ 1000000 := by omega
  clear h h1 h2 h3 h4
  go_enter Try.func61, Try.ntmps61
  go_wp2_with fail
  go_loopw [10] (fun v10 wr => ∃ (i : Nat) (zs : List Pk), v10 = .int .i64 i ∧ i ≤ k ∧ Aside0 (SD W wr B g n c zs) ∧ Aside0 (SwR lo hi a b i xs zs)) (fun v10 _ => k - (intOf v10).toNat)
  case atStart => exact ⟨0, xs, rfl, Nat.zero_le _, HS0, ⟨SwR.start _ _ _ _ _⟩⟩
  case round =>
    clear HS0
    obtain ⟨i, zs, rfl, hik, HS, HR⟩ := hrel
    by_cases hlt : i < k
    · have hb1 : decide (i < k) = true := by simp; omega
      have hh := HH.out
      have hlen := HS.out.len
      obtain ⟨c0, c1⟩ := atP HS.out.ro (a + i) (by omega)
      obtain ⟨d0, d1⟩ := atP HS.out.ro (b + i) (by omega)
      obtain ⟨⟨x0, x1, x2, x3, x4⟩, hx⟩ : ∃ z, rdP zs (a + i) = z := ⟨_, rfl⟩
      obtain ⟨⟨y0, y1, y2, y3, y4⟩, hy⟩ : ∃ z, rdP zs (b + i) = z := ⟨_, rfl⟩
      rw [hx] at c0 c1
      rw [hy] at d0 d1
      simp only at c0 c1 d0 d1
      have HX := Aside0.mk (And.intro hx hy)
      have q1 : (0 : Int) ≤ (a : Int) + (i : Int) := by omega
      have q2 : (a : Int) + (i : Int) < (n : Int) := by omega
      have q3 : (0 : Int) ≤ (b : Int) + (i : Int) := by omega
      have q4 : (b : Int) + (i : Int) < (n : Int) := by omega
      have q5 : ((a : Int) + (i : Int)).toNat = a + i := by omega
      have q6 : ((b : Int) + (i : Int)).toNat = b + i := by omega
      have q7 : IntKind.i64.wrap ((a : Int) + (i : Int)) = (a : Int) + (i : Int) := IntWalk.i64_in _ (by omega)
      have q8 : IntKind.i64.wrap ((b : Int) + (i : Int)) = (b : Int) + (i : Int) := IntWalk.i64_in _ (by omega)
      have HJ := Aside0.mk (And.intro hlt hlen)
      clear hx hy hlt hh hlen
      go_upto_region 3 with (fail)
      have HS4 := Aside0.mk HS.out.drew
      refine wp_region_any (by kernel_rfl) ?_
      change wpAny _ _ _ _ _ _ _ (World.drew _)
      refine wpAny_take (i := 0) (v := ?vr1) rfl (by kernel_rfl) (by kernel_rfl) (by kernel_rfl) (fun _ _ _ h => h) (Or.inl ⟨by kernel_rfl, ?yr1⟩) ?_
      case yr1 => (intro w; go_simp; try with_reducible rfl)
      refine wpAny_take (i := 1) (v := ?vr2) rfl (by kernel_rfl) (by kernel_rfl) (by kernel_rfl) (fun _ _ _ h => h) (Or.inl ⟨by kernel_rfl, ?yr2⟩) ?_
      case yr2 => (intro w; go_simp; try with_reducible rfl)
      refine wpAny_take (i := 2) (v := ?vr3) rfl (by kernel_rfl) (by kernel_rfl) (by kernel_rfl) (fun _ _ _ h => h) (Or.inl ⟨by kernel_rfl, ?yr3⟩) ?_
      case yr3 => (intro w; go_simp; try with_reducible rfl)
      refine wpAny_take (i := 3) (v := ?vr4) rfl (by kernel_rfl) (by kernel_rfl) (by kernel_rfl) (fun _ _ _ h => h) (Or.inl ⟨by kernel_rfl, ?yr4⟩) ?_
      case yr4 => (intro w; go_simp; try with_reducible rfl)
      refine wpAny_take (i := 4) (v := ?vr5) rfl (by kernel_rfl) (by kernel_rfl) (by kernel_rfl) (fun _ _ _ h => h) (Or.inl ⟨by kernel_rfl, ?yr5⟩) ?_
      case yr5 => (intro w; go_simp; try with_reducible rfl)
      refine wpAny_take (i := 5) (v := ?vr6) rfl (by kernel_rfl) (by kernel_rfl) (by kernel_rfl) (fun _ _ _ h => h) (Or.inl ⟨by kernel_rfl, ?yr6⟩) ?_
      case yr6 => (intro w; go_simp; try with_reducible rfl)
      refine wpAny_take (i := 6) (v := ?vr7) rfl (by kernel_rfl) (by kernel_rfl) (by kernel_rfl) (fun _ _ _ h => h) (Or.inl ⟨by kernel_rfl, ?yr7⟩) ?_
      case yr7 => (intro w; go_simp; try with_reducible rfl)
      refine wpAny_take (i := 7) (v := ?vr8) rfl (by kernel_rfl) (by kernel_rfl) (by kernel_rfl) (fun _ _ _ h => h) (Or.inl ⟨by kernel_rfl, ?yr8⟩) ?_
      case yr8 => (intro w; go_simp; try with_reducible rfl)
      refine wpAny_take (i := 8) (v := ?vr9) rfl (by kernel_rfl) (by kernel_rfl) (by kernel_rfl) (fun _ _ _ h => h) (Or.inl ⟨by kernel_rfl, ?yr9⟩) ?_
      case yr9 => (intro w; go_simp; try with_reducible rfl)
      refine wpAny_take (i := 9) (v := ?vr10) rfl (by kernel_rfl) (by kernel_rfl) (by kernel_rfl) (fun _ _ _ h => h) (Or.inl ⟨by kernel_rfl, ?yr10⟩) ?_
      case yr10 => (intro w; go_simp; try with_reducible rfl)
      refine wpAny_take (i := 10) (v := ?vr11) rfl (by kernel_rfl) (by kernel_rfl) (by kernel_rfl) (fun _ _ _ h => h) (Or.inl ⟨by kernel_rfl, ?yr11⟩) ?_
      case yr11 => (intro w; go_simp; try with_reducible rfl)
      refine wpAny_take (i := 11) (v := ?vr12) rfl (by kernel_rfl) (by kernel_rfl) (by kernel_rfl) (fun _ _ _ h => h) (Or.inl ⟨by kernel_rfl, ?yr12⟩) ?_
      case yr12 => (intro w; go_simp; try with_reducible rfl)
      refine wpAny_take (i := 12) (v := ?vr13) rfl (by kernel_rfl) (by kernel_rfl) (by kernel_rfl) (fun _ _ _ h => h) (Or.inl ⟨by kernel_rfl, ?yr13⟩) ?_
      case yr13 => (intro w; go_simp; try with_reducible rfl)
      refine wpAny_take (i := 14) (v := ?vr14) rfl (by kernel_rfl) (by kernel_rfl) (by kernel_rfl) (fun _ _ _ h => h) (Or.inl ⟨by kernel_rfl, ?yr14⟩) ?_
      case yr14 => (intro w; go_simp; try with_reducible rfl)
      refine wpAny_take (i := 15) (v := ?vr15) rfl (by kernel_rfl) (by kernel_rfl) (by kernel_rfl) (fun _ _ _ h => h) (Or.inl ⟨by kernel_rfl, ?yr15⟩) ?_
      case yr15 => (intro w; go_simp; try with_reducible rfl)
      refine wpAny_take (i := 16) (v := ?vr16) rfl (by kernel_rfl) (by kernel_rfl) (by kernel_rfl) (fun _ _ _ h => h) (Or.inl ⟨by kernel_rfl, ?yr16⟩) ?_
      case yr16 => (intro w; go_simp; try with_reducible rfl)
      refine wpAny_take (i := 17) (v := ?vr17) rfl (by kernel_rfl) (by kernel_rfl) (by kernel_rfl) (fun _ _ _ h => h) (Or.inl ⟨by kernel_rfl, ?yr17⟩) ?_
      case yr17 => (intro w; go_simp; try with_reducible rfl)
      refine wpAny_take (i := 18) (v := ?vr18) rfl (by kernel_rfl) (by kernel_rfl) (by kernel_rfl) (fun _ _ _ h => h) (Or.inl ⟨by kernel_rfl, ?yr18⟩) ?_
      case yr18 => (intro w; go_simp; try with_reducible rfl)
      refine wpAny_ready (rs := [13, 19]) (by kernel_rfl) (by simp) ?_
      refine (AllReady.cons rfl (fun K hK => ?_) (AllReady.cons rfl (fun K hK => ?_) AllReady.nil))
      · skip
        go_simp
        refine hK _ _ ?_
        clear hK K
        refine wpAny_ready (rs := [19]) (by kernel_rfl) (by simp) ?_
        refine (AllReady.cons rfl (fun K hK => ?_) AllReady.nil)
        go_simp
        refine hK _ _ ?_
        clear hK K
        refine wpAny_take (i := 20) (v := ?vr19) rfl (by kernel_rfl) (by kernel_rfl) (by kernel_rfl) (fun _ _ _ h => h) (Or.inl ⟨by kernel_rfl, ?yr19⟩) ?_
        case yr19 => (intro w; go_simp; try with_reducible rfl)
        refine wpAny_ready (rs := [21]) (by kernel_rfl) (by simp) ?_
        refine (AllReady.cons rfl (fun K hK => ?_) AllReady.nil)
        have hh := HH.out
        have hj := HJ.out
        refine store_step B (by kernel_rfl) rfl (.tmp 36) (.tmp 29) rfl (a + i) zs ⟨y0, y1, y2, y3, y4⟩ (by rfl) (by rfl) (by rfl) HS4.out.ro (by omega) ?_
        clear hh hj
        intro w5 hr5 hf5
        have HS5 := Aside0.mk (HS4.out.step hr5 hf5)
        clear hr5 hf5
        refine hK _ _ ?_
        clear hK K
        refine wpAny_take (i := 22) (v := ?vr20) rfl (by kernel_rfl) (by kernel_rfl) (by kernel_rfl) (fun _ _ _ h => h) (Or.inl ⟨by kernel_rfl, ?yr20⟩) ?_
        case yr20 => (intro w; go_simp; try with_reducible rfl)
        refine wpAny_ready (rs := [23]) (by kernel_rfl) (by simp) ?_
        refine (AllReady.cons rfl (fun K hK => ?_) AllReady.nil)
        have hh := HH.out
        have hj := HJ.out
        refine store_step B (by kernel_rfl) rfl (.tmp 37) (.tmp 35) rfl (b + i) (zs.set (a + i) ⟨y0, y1, y2, y3, y4⟩) ⟨x0, x1, x2, x3, x4⟩ (by rfl) (by rfl) (by rfl) HS5.out.ro (by omega) ?_
        clear hh hj
        intro w6 hr6 hf6
        have HS6 := Aside0.mk (HS5.out.step hr6 hf6)
        clear hr6 hf6
        refine hK _ _ ?_
        clear hK K
        refine wpAny_done (by kernel_rfl) ?_ _
        have HR2 : Aside0 (SwR lo hi a b (i + 1) xs ((zs.set (a + i) ⟨y0, y1, y2, y3, y4⟩).set (b + i) ⟨x0, x1, x2, x3, x4⟩)) := ⟨by have h := HR.out.step HH.out.1 (by have := HH.out; have := HJ.out.1; omega) (by have := HH.out; have := HJ.out.1; omega) (by have := HH.out; have := HJ.out.2; omega); unfold swp at h; rw [HX.out.1, HX.out.2] at h; exact h⟩
        go_wp2_with fail
        go_roundw
        case rel => exact ⟨i + 1, _, by simp, HJ.out.1, HS6, HR2⟩
        case measure => simp [intOf]; have := HJ.out.1; omega
      · skip
        go_simp
        refine hK _ _ ?_
        clear hK K
        refine wpAny_ready (rs := [13]) (by kernel_rfl) (by simp) ?_
        refine (AllReady.cons rfl (fun K hK => ?_) AllReady.nil)
        go_simp
        refine hK _ _ ?_
        clear hK K
        refine wpAny_take (i := 20) (v := ?vr21) rfl (by kernel_rfl) (by kernel_rfl) (by kernel_rfl) (fun _ _ _ h => h) (Or.inl ⟨by kernel_rfl, ?yr21⟩) ?_
        case yr21 => (intro w; go_simp; try with_reducible rfl)
        refine wpAny_ready (rs := [21]) (by kernel_rfl) (by simp) ?_
        refine (AllReady.cons rfl (fun K hK => ?_) AllReady.nil)
        have hh := HH.out
        have hj := HJ.out
        refine store_step B (by kernel_rfl) rfl (.tmp 36) (.tmp 29) rfl (a + i) zs ⟨y0, y1, y2, y3, y4⟩ (by rfl) (by rfl) (by rfl) HS4.out.ro (by omega) ?_
        clear hh hj
        intro w5 hr5 hf5
        have HS5 := Aside0.mk (HS4.out.step hr5 hf5)
        clear hr5 hf5
        refine hK _ _ ?_
        clear hK K
        refine wpAny_take (i := 22) (v := ?vr22) rfl (by kernel_rfl) (by kernel_rfl) (by kernel_rfl) (fun _ _ _ h => h) (Or.inl ⟨by kernel_rfl, ?yr22⟩) ?_
        case yr22 => (intro w; go_simp; try with_reducible rfl)
        refine wpAny_ready (rs := [23]) (by kernel_rfl) (by simp) ?_
        refine (AllReady.cons rfl (fun K hK => ?_) AllReady.nil)
        have hh := HH.out
        have hj := HJ.out
        refine store_step B (by kernel_rfl) rfl (.tmp 37) (.tmp 35) rfl (b + i) (zs.set (a + i) ⟨y0, y1, y2, y3, y4⟩) ⟨x0, x1, x2, x3, x4⟩ (by rfl) (by rfl) (by rfl) HS5.out.ro (by omega) ?_
        clear hh hj
        intro w6 hr6 hf6
        have HS6 := Aside0.mk (HS5.out.step hr6 hf6)
        clear hr6 hf6
        refine hK _ _ ?_
        clear hK K
        refine wpAny_done (by kernel_rfl) ?_ _
        have HR2 : Aside0 (SwR lo hi a b (i + 1) xs ((zs.set (a + i) ⟨y0, y1, y2, y3, y4⟩).set (b + i) ⟨x0, x1, x2, x3, x4⟩)) := ⟨by have h := HR.out.step HH.out.1 (by have := HH.out; have := HJ.out.1; omega) (by have := HH.out; have := HJ.out.1; omega) (by have := HH.out; have := HJ.out.2; omega); unfold swp at h; rw [HX.out.1, HX.out.2] at h; exact h⟩
        go_wp2_with fail
        go_roundw
        case rel => exact ⟨i + 1, _, by simp, HJ.out.1, HS6, HR2⟩
        case measure => simp [intOf]; have := HJ.out.1; omega
    · have hb1 : decide (i < k) = false := by simp; omega
      have hie : i = k := by omega
      subst hie
      clear hlt
      go_wp2_with fail
      go_end0
      exact ⟨rfl, zs, HS.out, HR.out⟩
/-- What a turn leaves. -/
def ROQ (W : World) (B g n c a m b : Nat) (xs : List Pk) (e : Ending) (w' : World) : Prop := e = .returned (.tuple #[]) ∧ ∃ ys, SD W w' B g n c ys ∧ PermIn a b xs ys ∧ ∀ k, rdP ys k = rdP xs (rotI a m b k)
theorem SD.again {W w w' : World} {B g n c : Nat} {xs ys : List Pk} (h : SD W w B g n c xs) (k : SD w w' B g n c ys) : SD W w' B g n c ys := ⟨h.fr.then_ k.fr (fun _ hk => Or.inl hk), k.ro⟩
theorem SD.self {W w : World} {B g n c : Nat} {xs : List Pk} (h : SD W w B g n c xs) : SD w w B g n c xs := ⟨Fr.refl _ _, h.ro⟩
set_option maxRecDepth 100000 in
set_option maxHeartbeats 8000000 in
theorem rotate_ok {W : World} {B g n c : Nat} (xs : List Pk) (a m b : Nat) (h : SD W W B g n c xs) (h1 : a < m) (h2 : m < b) (h4 : b ≤ n) (hn : n ≤ 1000000) :
    Calls Try.prog 60 #[.slice (some ⟨g, 0, none⟩) n c, .int .i64 a, .int .i64 m, .int .i64 b, .func (.func 37) #[] #[]] W (ROQ W B g n c a m b xs) := by
  have HS0 := Aside0.mk h
  have HH := Aside0.mk (And.intro h1 (And.intro h2 h4))
  have e1 : (m : Int) - (a : Int) = ((m - a : Nat) : Int) := by omega
  have e2 : (b : Int) - (m : Int) = ((b - m : Nat) : Int) := by omega
  have hm64 : m ≤ 1000000 := by omega
  have ha64 : a ≤ 1000000 := by omega
  have hb64 : b ≤ 1000000 := by omega
  have HE := Aside0.mk (And.intro e1 e2)
  clear h h1 h2 h4 e1 e2
  go_enter Try.func60, Try.ntmps60
  go_wp2_with fail
  rw [HE.out.1, HE.out.2]
  go_loopw [10, 11] (fun v10 v11 wr => ∃ (i j : Nat) (zs : List Pk), v10 = .int .i64 i ∧ v11 = .int .i64 j ∧ Aside0 (0 < i ∧ i ≤ m - a ∧ 0 < j ∧ j ≤ b - m) ∧ Aside0 (SD W wr B g n c zs) ∧ Aside0 (PermIn a b xs zs) ∧ Aside0 (∀ k, rdP xs (rotI a m b k) = rdP zs (rotI (m - i) m (m + j) k))) (fun v10 v11 _ => (intOf v10).toNat + (intOf v11).toNat)
  case atStart => exact ⟨m - a, b - m, xs, rfl, rfl, ⟨by have := HH.out; omega⟩, HS0, ⟨PermIn.refl _ _ _⟩, ⟨fun k => by have := HH.out; rw [show m - (m - a) = a by omega, show m + (b - m) = b by omega]⟩⟩
  case round =>
    clear HS0
    obtain ⟨i, j, zs, rfl, rfl, HIJ, HS, HP, HR⟩ := hrel
    have hij := HIJ.out
    have hh := HH.out
    have s1 : (m : Int) - (i : Int) = ((m - i : Nat) : Int) := by omega
    have hi64 : i ≤ 1000000 := by omega
    have hj64 : j ≤ 1000000 := by omega
    have hmi : i ≤ m := by omega
    by_cases hne : i = j
    · subst hne
      have hb1 : ((i : Int) != (i : Int)) = false := by simp
      have hR := swapr_ok (W := wr) zs a b (m - i) m i HS.out.self (by omega) (by omega) (by omega) (by omega) hn
      have HRR := Aside0.mk hR
      have HS1 := Aside0.mk s1
      clear hR hij hh s1
      go_wp2_with fail
      rw [HS1.out]
      refine HRR.out.mono ?_
      rintro e w2 ⟨rfl, ys, hs, hsw⟩
      have HS2 := Aside0.mk (HS.out.again hs)
      have HP2 := Aside0.mk (HP.out.trans hsw.pm)
      have HR2 := Aside0.mk (show ∀ k, rdP ys k = rdP xs (rotI a m b k) from fun k => by rw [HR.out k, rot_eq hmi k, ← hsw.rd])
      clear hs hsw
      go_wp2_with fail
      go_end0
      exact ⟨rfl, ys, HS2.out, HP2.out, HR2.out⟩
    · have hb1 : ((i : Int) != (j : Int)) = true := by simp; omega
      have hb1' : (i != j) = true := by simp; omega
      by_cases hgt : j < i
      · have hb2 : decide ((j : Int) < (i : Int)) = true := by simp; omega
        have hb2' : decide (j < i) = true := by simp; omega
        have hR := swapr_ok (W := wr) zs a b (m - i) m j HS.out.self (by omega) (by omega) (by omega) (by omega) hn
        have HRR := Aside0.mk hR
        have HS1 := Aside0.mk s1
        have HD := Aside0.mk (show ((i : Int) - (j : Int)) = ((i - j : Nat) : Int) by omega)
        have HC := Aside0.mk hgt
        clear hR hij hh s1 hne hgt
        go_wp2_with fail
        rw [HS1.out]
        refine HRR.out.mono ?_
        rintro e w2 ⟨rfl, ys, hs, hsw⟩
        have HS2 := Aside0.mk (HS.out.again hs)
        have HP2 := Aside0.mk (HP.out.trans hsw.pm)
        have HR2 := Aside0.mk (show ∀ k, rdP xs (rotI a m b k) = rdP ys (rotI (m - (i - j)) m (m + j) k) from fun k => by rw [HR.out k, rot_gt hmi HC.out HIJ.out.2.2.1 k, ← hsw.rd])
        clear hs hsw
        go_wp2_with fail
        go_roundw
        case rel => exact ⟨i - j, j, ys, by rw [HD.out], rfl, ⟨by have := HIJ.out; have := HC.out; omega⟩, HS2, HP2, HR2⟩
        case measure => simp [intOf]; have := HIJ.out; have := HC.out; omega
      · have hb2 : decide ((j : Int) < (i : Int)) = false := by simp; omega
        have hb2' : decide (j < i) = false := by simp; omega
        have hR := swapr_ok (W := wr) zs a b (m - i) (m + j - i) i HS.out.self (by omega) (by omega) (by omega) (by omega) hn
        have HRR := Aside0.mk hR
        have HS1 := Aside0.mk (And.intro s1 (show (m : Int) + (j : Int) - (i : Int) = ((m + j - i : Nat) : Int) by omega))
        have HD := Aside0.mk (show ((j : Int) - (i : Int)) = ((j - i : Nat) : Int) by omega)
        have HC := Aside0.mk (show i < j by omega)
        have hw : IntKind.i64.wrap ((m : Int) + (j : Int) - (i : Int)) = (m : Int) + (j : Int) - (i : Int) := IntWalk.i64_in _ (by omega)
        clear hR hij hh s1 hne hgt
        go_wp2_with fail
        rw [HS1.out.1, HS1.out.2]
        refine HRR.out.mono ?_
        rintro e w2 ⟨rfl, ys, hs, hsw⟩
        have HS2 := Aside0.mk (HS.out.again hs)
        have HP2 := Aside0.mk (HP.out.trans hsw.pm)
        have HR2 := Aside0.mk (show ∀ k, rdP xs (rotI a m b k) = rdP ys (rotI (m - i) m (m + (j - i)) k) from fun k => by rw [HR.out k, rot_lt hmi HC.out HIJ.out.1 k, ← hsw.rd])
        clear hs hsw
        go_wp2_with fail
        go_roundw
        case rel => exact ⟨i, j - i, ys, rfl, by rw [HD.out], ⟨by have := HIJ.out; have := HC.out; omega⟩, HS2, HP2, HR2⟩
        case measure => simp [intOf]; have := HIJ.out; have := HC.out; omega
end Go.Proofs.Ytmmoenleldcadaa.HF
