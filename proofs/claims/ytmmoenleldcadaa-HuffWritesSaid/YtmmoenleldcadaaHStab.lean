/- slices.stableCmpFunc, SortStableFunc of packs: walked. -/
import Derived.Test.YtmmoenleldcadaaGS
import Derived.Test.YtmmoenleldcadaaHSym3
namespace Go.Proofs.Ytmmoenleldcadaa.HF
open Go.RowKit Go.Proofs.YtmmoenleldcadaaW.PrintWords Go.Proofs.YtmmoenleldcadaaW.PrintLast Go.Proofs.YtmmoenleldcadaaW.PrintMore Go.Proofs.Ytmmoenleldcadaa.HW Go.Proofs.Ytmmoenleldcadaa.MB Go.Proofs.Ytmmoenleldcadaa.Fn
attribute [local go_sem] max2_int min2_int max_two min_two max_three min_three max_four min_four   -- for this text's walks alone
set_option maxRecDepth 100000 in
set_option maxHeartbeats 16000000 in
theorem stable_ok {W : World} {B g n c : Nat} (xs : List Pk) (h : SD W W B g n c xs) (hn : n ≤ 1000000) :
    Calls Try.prog 54 #[.slice (some ⟨g, 0, none⟩) n c, .int .i64 n, .func (.func 37) #[] #[]] W (SQ W B g n c 0 n xs) := by
  have HS0 := Aside0.mk h
  clear h
  go_enter Try.func54, Try.ntmps54
  go_wp2_with fail
  go_loopw [7, 8] (fun v7 v8 wr => ∃ (a b : Nat) (zs : List Pk), v7 = .int .i64 a ∧ v8 = .int .i64 b ∧ Aside0 (a ≤ n ∧ 20 ∣ a ∧ b = a + 20) ∧ Aside0 (SD W wr B g n c zs) ∧ Aside0 (PermS 0 n xs zs) ∧ Aside0 (Pre 20 a zs)) (fun v7 _ _ => n - (intOf v7).toNat)
  case atStart => exact ⟨0, 20, xs, rfl, rfl, ⟨by omega⟩, HS0, ⟨PermS.refl _ _ _⟩, ⟨Pre.zero _ _⟩⟩
  case round =>
    clear HS0
    obtain ⟨a, b, zs, rfl, rfl, HA, HS, HP, HR⟩ := hrel
    have ha := HA.out
    have ha64 : a ≤ 1000000 := by omega
    have hb64 : b ≤ 1000020 := by omega
    by_cases hlt : b ≤ n
    · have hb1 : decide (b ≤ n) = true := by simp; omega
      have HC := Aside0.mk (insert_ok (W := wr) zs a b HS.out.self hlt hn ha64)
      have HL := Aside0.mk hlt
      clear ha
      go_wp2_with fail
      refine HC.out.mono ?_
      rintro e w2 ⟨rfl, ys, hs, hp, ho⟩
      have HS2 := Aside0.mk (HS.out.again hs)
      have HP2 := Aside0.mk (HP.out.trans (hp.mono (Nat.zero_le _) hlt))
      have HR2 : Aside0 (Pre 20 b ys) := ⟨by
        have hb := HA.out.2.2
        subst hb
        exact HR.out.step HA.out.2.1 hp.toPermIn ho⟩
      clear hs hp ho
      go_wp2_with fail
      go_roundw
      case rel => exact ⟨b, b + 20, ys, rfl, by simp, ⟨by have := HA.out; have := HL.out; omega⟩, HS2, HP2, HR2⟩
      case measure => simp [intOf]; have := HA.out; omega
    · have hb1 : decide (b ≤ n) = false := by simp; omega
      have HC := Aside0.mk (insert_ok (W := wr) zs a n HS.out.self (Nat.le_refl _) hn ha64)
      have HL := Aside0.mk hlt
      clear ha
      go_wp2_with fail
      refine HC.out.mono ?_
      rintro e w2 ⟨rfl, ys, hs, hp, ho⟩
      have HS2 := Aside0.mk (HS.out.again hs)
      have HP2 := Aside0.mk (HP.out.trans (hp.mono (Nat.zero_le _) (Nat.le_refl _)))
      have HB2 := Aside0.mk (HR.out.close HA.out.2.1 (by have := HA.out; have := HL.out; omega) hp.toPermIn ho)
      clear hs hp ho hlt
      go_wp2_with fail
      go_loopw [6] (fun v6 wr => ∃ (s : Nat) (zs : List Pk), v6 = .int .i64 s ∧ Aside0 (20 ≤ s ∧ s ≤ 2000000) ∧ Aside0 (SD W wr B g n c zs) ∧ Aside0 (PermS 0 n xs zs) ∧ Aside0 (Bl s n zs)) (fun v6 _ => n - (intOf v6).toNat)
      case atStart => exact ⟨20, ys, rfl, ⟨by omega⟩, HS2, HP2, HB2⟩
      case round =>
        clear HS HP HR HA HL HC HS2 HP2 HB2 ha64 hb64
        obtain ⟨s, zs, rfl, HA, HS, HP, HB⟩ := hrel
        have ha := HA.out
        have hs64 : s ≤ 2000000 := by omega
        by_cases hlt : s < n
        · have hb1 : decide (s < n) = true := by simp; omega
          have hs61 : s ≤ 1000000 := by omega
          have hs0 : 0 < s := by omega
          have HL := Aside0.mk (show 0 < s ∧ s < n from ⟨hs0, hlt⟩)
          obtain ⟨d, hd⟩ : ∃ d, 2 * s = d := ⟨_, rfl⟩
          have hd1 : 2 * (s : Int) = (d : Int) := by omega
          have hd2 : (s : Int) * 2 = (d : Int) := by omega
          have hd64 : d ≤ 2000000 := by omega
          have HD := Aside0.mk (show d = 2 * s ∧ s ∣ d from ⟨hd.symm, ⟨2, by omega⟩⟩)
          have HD2 := Aside0.mk hd2
          clear hd ha hlt hd2
          go_wp2_with fail
          go_loopw [7, 8] (fun v7 v8 wr => ∃ (a b : Nat) (ys : List Pk), v7 = .int .i64 a ∧ v8 = .int .i64 b ∧ Aside0 (a ≤ n ∧ d ∣ a ∧ b = a + d) ∧ Aside0 (SD W wr B g n c ys) ∧ Aside0 (PermS 0 n xs ys) ∧ Aside0 (Pre d a ys) ∧ Aside0 (Rest s a n ys)) (fun v7 _ _ => n - (intOf v7).toNat)
          case atStart => exact ⟨0, d, zs, rfl, rfl, ⟨⟨Nat.zero_le _, Nat.dvd_zero _, by omega⟩⟩, HS, HP, ⟨Pre.zero _ _⟩, ⟨Rest.start HB.out⟩⟩
          case round =>
            clear HS HP HB
            obtain ⟨a, b, ys, rfl, rfl, HE, HS, HP, HR, HT⟩ := hrel
            have he := HE.out
            have hda : s ∣ a := Nat.dvd_trans HD.out.2 he.2.1
            have HDA := Aside0.mk hda
            have ha64 : a ≤ 1000000 := by omega
            have hb64 : b ≤ 3000000 := by omega
            obtain ⟨m, hm⟩ : ∃ m, a + s = m := ⟨_, rfl⟩
            have hm1 : (a : Int) + (s : Int) = (m : Int) := by omega
            have hm64 : m ≤ 2000000 := by omega
            have HM := Aside0.mk hm
            by_cases hlt : b ≤ n
            · have hb2 : decide (b ≤ n) = true := by simp; omega
              have HC := Aside0.mk (symm_ok hn b wr ys a m b (by omega) HS.out.self (by have := HL.out; omega) (by have := HL.out; have := HD.out; omega) hlt (by have := HT.out.fst hda (by have := HL.out; have := HD.out; omega) HL.out.1; rw [hm] at this; exact this) (by have := HT.out.snd (e := b) hda (by have := HL.out; have := HD.out; omega) (by have := HD.out; omega); rw [hm] at this; exact this))
              have HL2 := Aside0.mk hlt
              clear he hm hda
              go_wp2_with fail
              refine HC.out.mono ?_
              rintro e w2 ⟨rfl, us, hs, hp, ho⟩
              have HS2 := Aside0.mk (HS.out.again hs)
              have HP2 := Aside0.mk (HP.out.trans (hp.mono (Nat.zero_le _) hlt))
              have HT2 := Aside0.mk (HT.out.step hp.toPermIn (by have := HE.out; omega))
              have HR2 : Aside0 (Pre d b us) := ⟨by
                have hb := HE.out.2.2
                subst hb
                exact HR.out.step HE.out.2.1 hp.toPermIn ho⟩
              clear hs hp ho
              go_wp2_with fail
              go_roundw
              case rel => exact ⟨b, b + d, us, rfl, by simp, ⟨by have := HE.out; have := HL2.out; exact ⟨this, by rw [HE.out.2.2]; exact Nat.dvd_add HE.out.2.1 (Nat.dvd_refl d), rfl⟩⟩, HS2, HP2, HR2, HT2⟩
              case measure => simp [intOf]; have := HE.out; have := HD.out; have := HL.out; omega
            · have hb2 : decide (b ≤ n) = false := by simp; omega
              by_cases hmn : m < n
              · have hb3 : decide (m < n) = true := by simp; omega
                have HC := Aside0.mk (symm_ok hn n wr ys a m n (by omega) HS.out.self (by have := HL.out; omega) hmn (Nat.le_refl _) (by have := HT.out.fst hda (by omega) HL.out.1; rw [hm] at this; exact this) (by have := HT.out.snd (e := n) hda (by omega) (by have := HD.out; omega); rw [hm] at this; exact this))
                have HL2 := Aside0.mk hlt
                clear he hm hda
                go_wp2_with fail
                refine HC.out.mono ?_
                rintro e w2 ⟨rfl, us, hs, hp, ho⟩
                have HS2 := Aside0.mk (HS.out.again hs)
                have HP2 := Aside0.mk (HP.out.trans (hp.mono (Nat.zero_le _) (Nat.le_refl _)))
                have HB2 := Aside0.mk (HR.out.close HE.out.2.1 (by have := HE.out; have := HL2.out; omega) hp.toPermIn ho)
                clear hs hp ho
                have hd2 := HD2.out
                go_wp2_with fail
                go_roundw
                case rel => exact ⟨d, us, rfl, ⟨by have := HD.out; have := HA.out; have := HL.out; omega⟩, HS2, HP2, HB2⟩
                case measure => simp [intOf]; have := HD.out; have := HL.out; omega
              · have hb3 : decide (m < n) = false := by simp; omega
                have HL2 := Aside0.mk hlt
                have HB2 := Aside0.mk (HR.out.close HE.out.2.1 (by have := HE.out; have := HL2.out; omega) (PermIn.refl a n ys) (HT.out.one hda (by omega)))
                clear he hm hda
                have hd2 := HD2.out
                go_wp2_with fail
                go_roundw
                case rel => exact ⟨d, ys, rfl, ⟨by have := HD.out; have := HA.out; have := HL.out; omega⟩, HS, HP, HB2⟩
                case measure => simp [intOf]; have := HD.out; have := HL.out; omega
        · have hb1 : decide (s < n) = false := by simp; omega
          have HO := Aside0.mk (HB.out.all (by omega))
          clear ha hlt
          go_wp2_with fail
          go_end0
          exact ⟨rfl, zs, HS.out, HP.out, HO.out⟩
/-- slices.SortStableFunc of packs. -/
theorem sort_ok {W : World} {B g n c : Nat} (xs : List Pk) (h : SD W W B g n c xs) (hn : n ≤ 1000000) :
    Calls Try.prog 39 #[.slice (some ⟨g, 0, none⟩) n c, .func (.func 37) #[] #[]] W (SQ W B g n c 0 n xs) := by
  have HC := Aside0.mk (stable_ok xs h hn)
  clear h
  go_enter Try.func39, Try.ntmps39
  go_wp2_with fail
  refine HC.out.mono ?_
  rintro e w2 ⟨rfl, ys, hs, hp, ho⟩
  have HS2 := Aside0.mk hs
  have HP2 := Aside0.mk hp
  have HO2 := Aside0.mk ho
  clear hs hp ho
  go_wp2_with fail
  go_end0
  exact ⟨rfl, ys, HS2.out, HP2.out, HO2.out⟩
end Go.Proofs.Ytmmoenleldcadaa.HF
