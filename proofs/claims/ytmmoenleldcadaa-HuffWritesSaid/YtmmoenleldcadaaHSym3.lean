/- slices.symMergeCmpFunc of packs, the general step: walked. (printed by hsym.py) -/
import Derived.Test.YtmmoenleldcadaaHSym2
import Derived.Deep.CutBlock
namespace Go.Proofs.Ytmmoenleldcadaa.HF
open Go.RowKit Go.Proofs.YtmmoenleldcadaaW.PrintWords Go.Proofs.YtmmoenleldcadaaW.PrintLast Go.Proofs.YtmmoenleldcadaaW.PrintMore Go.Proofs.Ytmmoenleldcadaa.HW Go.Proofs.Ytmmoenleldcadaa.MB Go.Proofs.Ytmmoenleldcadaa.Fn
attribute [local go_sem] max2_int min2_int max_two min_two max_three min_three max_four min_four   -- for this text's walks alone
/-- The turn's own index is the same place where a part is empty. -/
theorem rotI_none {s m e k : Nat} (h : ¬ (s < m ∧ m < e)) : rotI s m e k = k := by
  have := rotI_cases s m e k
  omega
set_option maxRecDepth 100000 in
set_option maxHeartbeats 32000000 in
theorem symm_gen {W : World} {B g n c : Nat} (xs : List Pk) (a m b : Nat) (IH : Aside0 (∀ (W : World) (ys : List Pk) (a0 m0 b0 : Nat), b0 - a0 < b - a → SD W W B g n c ys → a0 < m0 → m0 < b0 → b0 ≤ n → Sorted a0 m0 ys → Sorted m0 b0 ys → Calls Try.prog 59 #[.slice (some ⟨g, 0, none⟩) n c, .int .i64 a0, .int .i64 m0, .int .i64 b0, .func (.func 37) #[] #[]] W (SQ W B g n c a0 b0 ys))) (h : SD W W B g n c xs) (h1 : a + 1 < m) (h3 : m + 1 < b) (h4 : b ≤ n) (hn : n ≤ 1000000) (hs : Sorted a m xs) (hs2 : Sorted m b xs) :
    Calls Try.prog 59 #[.slice (some ⟨g, 0, none⟩) n c, .int .i64 a, .int .i64 m, .int .i64 b, .func (.func 37) #[] #[]] W (SQ W B g n c a b xs) := by
  have hu := Try.underlying63
  have HS0 := Aside0.mk h
  have HH := Aside0.mk (And.intro h1 (And.intro h3 h4))
  have HSO := Aside0.mk (And.intro hs hs2)
  have hlen := h.len
  have ha64 : a ≤ 1000000 := by omega
  have hb64 : b ≤ 1000000 := by omega
  have hm64 : m ≤ 1000000 := by omega
  have r1 : (((m : Int) - (a : Int)) == 1) = false := by simp; omega
  have r2 : IntKind.i64.wrap ((m : Int) - (a : Int)) = (m : Int) - (a : Int) := IntWalk.i64_in _ (by omega)
  have r3 : (((b : Int) - (m : Int)) == 1) = false := by simp; omega
  have r4 : IntKind.i64.wrap ((b : Int) - (m : Int)) = (b : Int) - (m : Int) := IntWalk.i64_in _ (by omega)
  obtain ⟨md, hmd⟩ : ∃ md, (a + b) / 2 = md := ⟨_, rfl⟩
  have he : ((a : Int) + (b : Int)) / 2 = ((md : Nat) : Int) := by omega
  have hd64 : md ≤ 1000000 := by omega
  obtain ⟨nn, hnn⟩ : ∃ nn, md + m = nn := ⟨_, rfl⟩
  have hn2 : nn ≤ 2000000 := by omega
  have he2 : ((md : Int) + (m : Int)) = ((nn : Nat) : Int) := by omega
  have HM := Aside0.mk (And.intro hmd hnn)
  have HE2 := Aside0.mk he2
  have HL := Aside0.mk hlen
  clear h h1 h3 h4 hs hs2 hmd hnn hlen
  go_enter Try.func59, Try.ntmps59
  go_upto_if 140 with (fail)
  clear he he2 r1 r2 r3 r4
  go_cut [20, 21] from 129 to 146 (fun v20 v21 w => ∃ lo hi : Nat, v20 = .int .i64 lo ∧ v21 = .int .i64 hi ∧ W = w ∧ Aside0 (CutB a m b lo hi nn))
  case first =>
    have hh := HH.out
    have hm := HM.out
    by_cases hgt : md < m
    · have hb1 : decide (md < m) = true := by simp; omega
      have e1 : (nn : Int) - (b : Int) = ((nn - b : Nat) : Int) := by omega
      have hw : IntKind.i64.wrap ((nn : Int) - (b : Int)) = (nn : Int) - (b : Int) := IntWalk.i64_in _ (by omega)
      have HB := Aside0.mk (show CutB a m b (nn - b) md nn by have h := CutB.mk1 (a := a) (m := m) (b := b) (by omega) (by omega); rw [hm.1, hm.2] at h; exact h)
      have HE := Aside0.mk e1
      clear hh hm e1
      go_wp2_with fail
      go_meet
      case rel => exact ⟨nn - b, md, by rw [HE.out], rfl, rfl, HB⟩
    · have hb1 : decide (md < m) = false := by simp; omega
      have HB := Aside0.mk (show CutB a m b a m nn by have h := CutB.mk2 (a := a) (m := m) (b := b) (by omega) (by omega); rw [hm.1, hm.2] at h; exact h)
      clear hh hm
      go_wp2_with fail
      go_meet
      case rel => exact ⟨a, m, rfl, rfl, rfl, HB⟩
  case rest =>
    obtain ⟨lo, hi, rfl, rfl, rfl, HB⟩ := hcut
    have hlo64 : lo ≤ 1000000 := by have := HB.out.hlo; omega
    have hhi64 : hi ≤ 1000000 := by have := HB.out.hlo; omega
    have hnn1 : 1 ≤ nn := by have := HM.out; have := HH.out; omega
    have hw0 : IntKind.i64.wrap ((nn : Int) - 1) = (nn : Int) - 1 := IntWalk.i64_in _ (by omega)
    go_wp2_with fail
    clear hw0
    go_loopw [20, 21] (fun v10 v11 wr => ∃ i j : Nat, v10 = .int .i64 i ∧ v11 = .int .i64 j ∧ Aside0 (CutR a m b lo hi nn i j xs) ∧ Aside0 (SD W wr B g n c xs)) (fun v10 v11 _ => (intOf v11).toNat - (intOf v10).toNat)
    case atStart => exact ⟨lo, hi, rfl, rfl, ⟨CutR.start HB.out⟩, HS0⟩
    case round =>
      clear HS0
      obtain ⟨i, j, rfl, rfl, HR, HS⟩ := hrel
      have hr := HR.out.rg
      have hi64 : i ≤ 1000000 := by omega
      have hj64 : j ≤ 1000000 := by omega
      by_cases hlt : i < j
      · have hb1 : decide (i < j) = true := by simp; omega
        obtain ⟨hf, hhf⟩ : ∃ hf, (i + j) / 2 = hf := ⟨_, rfl⟩
        have he : ((i : Int) + (j : Int)) / 2 = ((hf : Nat) : Int) := by omega
        have i1 := HB.out.hin hf (by omega) (by omega)
        have i2 := HB.out.hlo
        obtain ⟨pf, hpf⟩ : ∃ pf, nn - 1 - hf = pf := ⟨_, rfl⟩
        have he3 : ((nn : Int) - 1) - (hf : Int) = ((pf : Nat) : Int) := by omega
        have HHF := Aside0.mk (show i ≤ hf ∧ hf < j ∧ hf < n ∧ pf < n ∧ nn - 1 - hf = pf from by have := HH.out; omega)
        have hhf64 : hf ≤ 1000000 := by omega
        have hpf64 : pf ≤ 1000000 := by have := HHF.out; omega
        have q1 : (0 : Int) ≤ (pf : Int) := by omega
        have hw3 : IntKind.i64.wrap ((pf : Nat) : Int) = (pf : Int) := IntWalk.i64_in _ (by omega)
        have q2 : (pf : Int) < (n : Int) := by have := HHF.out; omega
        have q3 : (0 : Int) ≤ (hf : Int) := by omega
        have q4 : (hf : Int) < (n : Int) := by have := HHF.out; omega
        clear hr hhf hlt i1 i2 hpf
        go_upto_region 35 with (fail)
        clear he
        obtain ⟨c0, c1⟩ := atP HS.out.ro pf (by have := HHF.out; omega)
        obtain ⟨d0, d1⟩ := atP HS.out.ro hf (by have := HHF.out; omega)
        obtain ⟨⟨x0, x1, x2, x3, x4⟩, hx⟩ : ∃ z, rdP xs pf = z := ⟨_, rfl⟩
        obtain ⟨⟨y0, y1, y2, y3, y4⟩, hy⟩ : ∃ z, rdP xs hf = z := ⟨_, rfl⟩
        rw [hx] at c0 c1
        rw [hy] at d0 d1
        simp only at c0 c1 d0 d1
        have HX := Aside0.mk (And.intro hx hy)
        clear hx hy
        refine wp_region_any (by kernel_rfl) ?_
        change wpAny _ _ _ _ _ _ _ (World.drew _)
        refine wpAny_take (i := 0) (v := ?va53) rfl (by kernel_rfl) (by kernel_rfl) (by kernel_rfl) (fun _ _ _ h => h) (Or.inl ⟨by kernel_rfl, ?ya53⟩) ?_
        case ya53 => (intro w; go_simp; try with_reducible rfl)
        refine wpAny_take (i := 1) (v := ?va54) rfl (by kernel_rfl) (by kernel_rfl) (by kernel_rfl) (fun _ _ _ h => h) (Or.inl ⟨by kernel_rfl, ?ya54⟩) ?_
        case ya54 => (intro w; go_simp; try with_reducible rfl)
        refine wpAny_take (i := 2) (v := ?va55) rfl (by kernel_rfl) (by kernel_rfl) (by kernel_rfl) (fun _ _ _ h => h) (Or.inl ⟨by kernel_rfl, ?ya55⟩) ?_
        case ya55 => (intro w; go_simp; try with_reducible rfl)
        refine wpAny_take (i := 3) (v := ?va56) rfl (by kernel_rfl) (by kernel_rfl) (by kernel_rfl) (fun _ _ _ h => h) (Or.inl ⟨by kernel_rfl, ?ya56⟩) ?_
        case ya56 => (intro w; go_simp; try with_reducible rfl)
        refine wpAny_take (i := 4) (v := ?va57) rfl (by kernel_rfl) (by kernel_rfl) (by kernel_rfl) (fun _ _ _ h => h) (Or.inl ⟨by kernel_rfl, ?ya57⟩) ?_
        case ya57 => (intro w; go_simp; try with_reducible rfl)
        refine wpAny_take (i := 5) (v := ?va58) rfl (by kernel_rfl) (by kernel_rfl) (by kernel_rfl) (fun _ _ _ h => h) (Or.inl ⟨by kernel_rfl, ?ya58⟩) ?_
        case ya58 => (intro w; go_simp; try with_reducible rfl)
        refine wpAny_take (i := 7) (v := ?va59) rfl (by kernel_rfl) (by kernel_rfl) (by kernel_rfl) (fun _ _ _ h => h) (Or.inl ⟨by kernel_rfl, ?ya59⟩) ?_
        case ya59 => (intro w; go_simp; try with_reducible rfl)
        refine wpAny_take (i := 8) (v := ?va60) rfl (by kernel_rfl) (by kernel_rfl) (by kernel_rfl) (fun _ _ _ h => h) (Or.inl ⟨by kernel_rfl, ?ya60⟩) ?_
        case ya60 => (intro w; go_simp; try with_reducible rfl)
        refine wpAny_take (i := 9) (v := ?va61) rfl (by kernel_rfl) (by kernel_rfl) (by kernel_rfl) (fun _ _ _ h => h) (Or.inl ⟨by kernel_rfl, ?ya61⟩) ?_
        case ya61 => (intro w; go_simp; try with_reducible rfl)
        refine wpAny_ready (rs := [6, 10]) (by kernel_rfl) (by simp) ?_
        refine (AllReady.cons rfl (fun K hK => ?_) (AllReady.cons rfl (fun K hK => ?_) AllReady.nil))
        · skip
          go_simp
          refine hK _ _ ?_
          clear hK K
          refine wpAny_ready (rs := [10]) (by kernel_rfl) (by simp) ?_
          refine (AllReady.cons rfl (fun K hK => ?_) AllReady.nil)
          go_simp
          refine hK _ _ ?_
          clear hK K
          refine wpAny_ready (rs := [11]) (by kernel_rfl) (by simp) ?_
          refine (AllReady.cons rfl (fun K hK => ?_) AllReady.nil)
          go_simp
          go_wp2_with fail
          refine (pcmp_val x0 x1 x2 x3 y0 y1 y2 y3 _).mono ?_
          rintro e w3 ⟨rfl, hb⟩
          have HS3 := Aside0.mk (HS.out.drew.below hb)
          clear hb c0 c1 d0 d1
          refine hK _ _ ?_
          clear hK K
          refine wpAny_take (i := 12) (v := ?va62) rfl (by kernel_rfl) (by kernel_rfl) (by kernel_rfl) (fun _ _ _ h => h) (Or.inl ⟨by kernel_rfl, ?ya62⟩) ?_
          case ya62 => (intro w; go_simp; try with_reducible rfl)
          refine wpAny_take (i := 13) (v := ?va63) rfl (by kernel_rfl) (by kernel_rfl) (by kernel_rfl) (fun _ _ _ h => h) (Or.inl ⟨by kernel_rfl, ?ya63⟩) ?_
          case ya63 => (intro w; go_simp; try with_reducible rfl)
          refine wpAny_done (by kernel_rfl) ?_ _
          by_cases hc : x0 < y0
          · have hc1 : decide (cmp3 x0 y0 < 0) = true := by rw [cmp3_lt]; simpa using hc
            have HR2 : Aside0 (CutR a m b lo hi nn i hf xs) := ⟨HR.out.dn HB.out HSO.out.1 HSO.out.2 ⟨HHF.out.1, HHF.out.2.1⟩ (by rw [HHF.out.2.2.2.2]; unfold wtP; rw [HX.out.1, HX.out.2]; exact hc)⟩
            clear hc
            rw [hc1]
            go_wp2_with fail
            go_roundw
            case rel => exact ⟨i, hf, rfl, rfl, HR2, HS3⟩
            case measure => simp [intOf]; have := HHF.out; omega
          · have hc1 : decide (cmp3 x0 y0 < 0) = false := by rw [cmp3_lt]; simpa using hc
            have HR2 : Aside0 (CutR a m b lo hi nn (hf + 1) j xs) := ⟨HR.out.up HB.out HSO.out.1 HSO.out.2 ⟨HHF.out.1, HHF.out.2.1⟩ (by rw [HHF.out.2.2.2.2]; unfold wtP; rw [HX.out.1, HX.out.2]; simp only; omega)⟩
            clear hc
            rw [hc1]
            go_wp2_with fail
            go_roundw
            case rel => exact ⟨hf + 1, j, by simp, rfl, HR2, HS3⟩
            case measure => simp [intOf]; have := HHF.out; omega
        · skip
          go_simp
          refine hK _ _ ?_
          clear hK K
          refine wpAny_ready (rs := [6]) (by kernel_rfl) (by simp) ?_
          refine (AllReady.cons rfl (fun K hK => ?_) AllReady.nil)
          go_simp
          refine hK _ _ ?_
          clear hK K
          refine wpAny_ready (rs := [11]) (by kernel_rfl) (by simp) ?_
          refine (AllReady.cons rfl (fun K hK => ?_) AllReady.nil)
          go_simp
          go_wp2_with fail
          refine (pcmp_val x0 x1 x2 x3 y0 y1 y2 y3 _).mono ?_
          rintro e w3 ⟨rfl, hb⟩
          have HS3 := Aside0.mk (HS.out.drew.below hb)
          clear hb c0 c1 d0 d1
          refine hK _ _ ?_
          clear hK K
          refine wpAny_take (i := 12) (v := ?va64) rfl (by kernel_rfl) (by kernel_rfl) (by kernel_rfl) (fun _ _ _ h => h) (Or.inl ⟨by kernel_rfl, ?ya64⟩) ?_
          case ya64 => (intro w; go_simp; try with_reducible rfl)
          refine wpAny_take (i := 13) (v := ?va65) rfl (by kernel_rfl) (by kernel_rfl) (by kernel_rfl) (fun _ _ _ h => h) (Or.inl ⟨by kernel_rfl, ?ya65⟩) ?_
          case ya65 => (intro w; go_simp; try with_reducible rfl)
          refine wpAny_done (by kernel_rfl) ?_ _
          by_cases hc : x0 < y0
          · have hc1 : decide (cmp3 x0 y0 < 0) = true := by rw [cmp3_lt]; simpa using hc
            have HR2 : Aside0 (CutR a m b lo hi nn i hf xs) := ⟨HR.out.dn HB.out HSO.out.1 HSO.out.2 ⟨HHF.out.1, HHF.out.2.1⟩ (by rw [HHF.out.2.2.2.2]; unfold wtP; rw [HX.out.1, HX.out.2]; exact hc)⟩
            clear hc
            rw [hc1]
            go_wp2_with fail
            go_roundw
            case rel => exact ⟨i, hf, rfl, rfl, HR2, HS3⟩
            case measure => simp [intOf]; have := HHF.out; omega
          · have hc1 : decide (cmp3 x0 y0 < 0) = false := by rw [cmp3_lt]; simpa using hc
            have HR2 : Aside0 (CutR a m b lo hi nn (hf + 1) j xs) := ⟨HR.out.up HB.out HSO.out.1 HSO.out.2 ⟨HHF.out.1, HHF.out.2.1⟩ (by rw [HHF.out.2.2.2.2]; unfold wtP; rw [HX.out.1, HX.out.2]; simp only; omega)⟩
            clear hc
            rw [hc1]
            go_wp2_with fail
            go_roundw
            case rel => exact ⟨hf + 1, j, by simp, rfl, HR2, HS3⟩
            case measure => simp [intOf]; have := HHF.out; omega
      · have hb1 : decide (i < j) = false := by simp; omega
        have hie : i = j := by omega
        subst hie
        have HD := Aside0.mk (HR.out.done HB.out)
        obtain ⟨en, hen⟩ : ∃ en, nn - i = en := ⟨_, rfl⟩
        have he4 : (nn : Int) - (i : Int) = ((en : Nat) : Int) := by have := HB.out.hlo; have := HH.out; have := HM.out; omega
        have hD := HD.out
        rw [hen, HM.out.1] at hD
        have HD2 := Aside0.mk hD
        have hen64 : en ≤ 1000000 := by have := HH.out; omega
        have hw4 : IntKind.i64.wrap ((nn : Int) - (i : Int)) = (nn : Int) - (i : Int) := IntWalk.i64_in _ (by omega)
        clear hlt hr hen hD HD
        go_upto_region 39 with (fail)
        clear he4 hw4
        go_cut [185] from 178 to 185 (fun v w => v = .bool (decide (i < m ∧ m < en)) ∧ wr = w)
        case first =>
          by_cases c1 : i < m
          · have c2 : decide (i < m) = true := by simp; omega
            by_cases c3 : m < en
            · have c4 : decide (m < en) = true := by simp; omega
              have HC := Aside0.mk (show decide (i < m ∧ m < en) = true by simp; omega)
              go_wp2_with fail
              go_meet
              case rel => exact ⟨by rw [HC.out], rfl⟩
            · have c4 : decide (m < en) = false := by simp; omega
              have HC := Aside0.mk (show decide (i < m ∧ m < en) = false by simp; omega)
              go_wp2_with fail
              go_meet
              case rel => exact ⟨by rw [HC.out], rfl⟩
          · have c2 : decide (i < m) = false := by simp; omega
            have HC := Aside0.mk (show decide (i < m ∧ m < en) = false by simp; omega)
            go_wp2_with fail
            go_meet
            case rel => exact ⟨by rw [HC.out], rfl⟩
        case rest =>
          obtain ⟨rfl, rfl⟩ := hcut
          go_upto_if 185 with (fail)
          go_cut [] from 178 to 191 (fun w => ∃ ys, Aside0 (SD W w B g n c ys) ∧ Aside0 (PermS a b xs ys) ∧ Aside0 (∀ k, rdP ys k = rdP xs (rotI i m en k)))
          case first =>
            by_cases c1 : i < m ∧ m < en
            · have c2 : decide (i < m ∧ m < en) = true := decide_eq_true c1
              have HRO := Aside0.mk (rotate_ok (W := wr) xs i m en HS.out.self c1.1 c1.2 (by have := HD2.out; have := HH.out; omega) hn)
              clear c1
              rw [c2]
              go_wp2_with fail
              refine HRO.out.mono ?_
              rintro e w2 ⟨rfl, ys, hs, hp, hr⟩
              have HS2 := Aside0.mk (HS.out.again hs)
              have HP2 := Aside0.mk (merge_perm (hp.mono HD2.out.1.1 HD2.out.1.2.2.2) HSO.out.1 HSO.out.2 HD2.out.1 (by have := HL.out; have := HH.out; omega) HD2.out.2.2.2 hr)
              have HR2 := Aside0.mk hr
              clear hs hp hr
              go_wp2_with fail
              go_meet
              case rel => exact ⟨ys, HS2, HP2, HR2⟩
            · have c2 : decide (i < m ∧ m < en) = false := decide_eq_false c1
              have HR2 : Aside0 (∀ k, rdP xs k = rdP xs (rotI i m en k)) := ⟨fun k => by rw [rotI_none c1]⟩
              clear c1
              rw [c2]
              go_wp2_with fail
              go_meet
              case rel => exact ⟨xs, HS, ⟨PermS.refl _ _ _⟩, HR2⟩
          case rest =>
            clear HS
            obtain ⟨ys, HS, HP, HY⟩ := hcut
            have HT := Aside0.mk (merge_split HSO.out.1 HSO.out.2 HD2.out.1 HD2.out.2.1 HD2.out.2.2.1 (fun h1 h2 => Int.le_of_lt (HD2.out.2.2.2 h1 h2)) HY.out)
            obtain ⟨w5, hw5⟩ : ∃ w5 : World, w5 = wc := ⟨_, rfl⟩
            subst hw5
            go_upto_region 41 with (fail)
            go_cut [199] from 192 to 199 (fun v w => v = .bool (decide (a < i ∧ i < md)) ∧ w5 = w)
            case first =>
              by_cases c1 : a < i
              · have c2 : decide (a < i) = true := by simp; omega
                by_cases c3 : i < md
                · have c4 : decide (i < md) = true := by simp; omega
                  have HC := Aside0.mk (show decide (a < i ∧ i < md) = true by simp; omega)
                  go_wp2_with fail
                  go_meet
                  case rel => exact ⟨by rw [HC.out], rfl⟩
                · have c4 : decide (i < md) = false := by simp; omega
                  have HC := Aside0.mk (show decide (a < i ∧ i < md) = false by simp; omega)
                  go_wp2_with fail
                  go_meet
                  case rel => exact ⟨by rw [HC.out], rfl⟩
              · have c2 : decide (a < i) = false := by simp; omega
                have HC := Aside0.mk (show decide (a < i ∧ i < md) = false by simp; omega)
                go_wp2_with fail
                go_meet
                case rel => exact ⟨by rw [HC.out], rfl⟩
            case rest =>
              obtain ⟨rfl, hw6⟩ := hcut
              subst hw6
              go_upto_if 199 with (fail)
              go_cut [] from 192 to 205 (fun w => ∃ zs, Aside0 (SD W w B g n c zs) ∧ Aside0 (PermS a md ys zs) ∧ Aside0 (Sorted a md zs))
              case first =>
                by_cases c1 : a < i ∧ i < md
                · have c2 : decide (a < i ∧ i < md) = true := decide_eq_true c1
                  have HRO := Aside0.mk (IH.out w5 ys a i md (by have := HM.out; have := HH.out; omega) HS.out.self c1.1 c1.2 (by have := HM.out; have := HH.out; omega) HT.out.1 HT.out.2.1)
                  clear c1
                  rw [c2]
                  go_wp2_with fail
                  refine HRO.out.mono ?_
                  rintro e w2 ⟨rfl, zs, hs, hp, hr⟩
                  have HS2 := Aside0.mk (HS.out.again hs)
                  have HP2 := Aside0.mk hp
                  have HR2 := Aside0.mk hr
                  clear hs hp hr
                  go_wp2_with fail
                  go_meet
                  case rel => exact ⟨zs, HS2, HP2, HR2⟩
                · have c2 : decide (a < i ∧ i < md) = false := decide_eq_false c1
                  have HR2 : Aside0 (Sorted a md ys) := ⟨by
                    have h1 := HT.out.1
                    have h2 := HT.out.2.1
                    have h3 := HD2.out
                    by_cases c5 : a < i
                    · rw [show md = i by omega]; exact h1
                    · rw [show a = i by omega]; exact h2⟩
                  clear c1
                  rw [c2]
                  go_wp2_with fail
                  go_meet
                  case rel => exact ⟨ys, HS, ⟨PermS.refl _ _ _⟩, HR2⟩
              case rest =>
                clear HS
                obtain ⟨zs, HS, HZ, HO⟩ := hcut
                obtain ⟨w7, hw7⟩ : ∃ w7 : World, w7 = wc := ⟨_, rfl⟩
                subst hw7
                have HT3 : Aside0 (Sorted md en zs) := ⟨HT.out.2.2.1.congr (fun k h1 h2 => HZ.out.out k (by omega))⟩
                have HT4 : Aside0 (Sorted en b zs) := ⟨HT.out.2.2.2.1.congr (fun k h1 h2 => HZ.out.out k (by have := HD2.out; omega))⟩
                have HFIN : Aside0 (∀ us, PermS md b zs us → Sorted md b us → PermS a b xs us ∧ Sorted a b us) := ⟨fun us h1 h2 =>
                  ⟨(HP.out.trans (HZ.out.mono (Nat.le_refl _) (by have := HM.out; have := HH.out; omega))).trans (h1.mono (by have := HM.out; have := HH.out; omega) (Nat.le_refl _)), merge_join HZ.out.toPermIn HO.out h1.toPermIn h2 HT.out.2.2.2.2⟩⟩
                go_upto_region 43 with (fail)
                by_cases c1 : md < en
                · have c2 : decide (md < en) = true := by simp; omega
                  by_cases c3 : en < b
                  · have c4 : decide (en < b) = true := by simp; omega
                    have HRO := Aside0.mk (IH.out w7 zs md en b (by have := HM.out; have := HH.out; omega) HS.out.self c1 c3 (by have := HM.out; have := HH.out; omega) HT3.out HT4.out)
                    go_wp2_with fail
                    refine HRO.out.mono ?_
                    rintro e w2 ⟨rfl, us, hs, hp, hr⟩
                    have HS2 := Aside0.mk (HS.out.again hs)
                    have HP2 := Aside0.mk hp
                    have HR2 := Aside0.mk hr
                    clear hs hp hr
                    go_wp2_with fail
                    go_end0
                    exact ⟨rfl, us, HS2.out, HFIN.out us HP2.out HR2.out⟩
                  · have c4 : decide (en < b) = false := by simp; omega
                    have HR2 : Aside0 (Sorted md b zs) := ⟨by have := HD2.out; rw [show b = en by omega]; exact HT3.out⟩
                    go_wp2_with fail
                    go_end0
                    exact ⟨rfl, zs, HS.out, HFIN.out zs (PermS.refl _ _ _) HR2.out⟩
                · have c2 : decide (md < en) = false := by simp; omega
                  have HR2 : Aside0 (Sorted md b zs) := ⟨by have := HD2.out; rw [show md = en by omega]; exact HT4.out⟩
                  go_wp2_with fail
                  go_end0
                  exact ⟨rfl, zs, HS.out, HFIN.out zs (PermS.refl _ _ _) HR2.out⟩
/-- slices.symMergeCmpFunc of packs: two parts that do not fall become one. -/
theorem symm_ok {B g n c : Nat} (hn : n ≤ 1000000) (d : Nat) : ∀ (W : World) (xs : List Pk) (a m b : Nat), b - a ≤ d → SD W W B g n c xs → a < m → m < b → b ≤ n → Sorted a m xs → Sorted m b xs →
    Calls Try.prog 59 #[.slice (some ⟨g, 0, none⟩) n c, .int .i64 a, .int .i64 m, .int .i64 b, .func (.func 37) #[] #[]] W (SQ W B g n c a b xs) := by
  induction d with
  | zero => intro W xs a m b h; omega
  | succ d ih =>
    intro W xs a m b hd hs h1 h2 h4 s1 s2
    by_cases c1 : a + 1 = m
    · subst c1
      exact symm_one xs a b hs h2 h4 hn s2
    · by_cases c2 : m + 1 = b
      · subst c2
        exact symm_last xs a m hs (by omega) h4 hn s1
      · exact symm_gen xs a m b ⟨fun W ys a0 m0 b0 hlt => ih W ys a0 m0 b0 (by omega)⟩ hs (by omega) (by omega) h4 hn s1 s2
end Go.Proofs.Ytmmoenleldcadaa.HF
