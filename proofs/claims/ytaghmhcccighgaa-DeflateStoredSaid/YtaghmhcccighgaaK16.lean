/- Parts: HSym3 HStab HConc PLen2 -/
import Derived.Test.YtaghmhcccighgaaK15
import Derived.Deep.CutBlock
import Derived.Test.YtaghmhcccighgaaK14
import Derived.Lib.AppendZeros
set_option linter.unusedVariables false
set_option linter.unusedSimpArgs false
section
/- slices.symMergeCmpFunc of packs, the general step: walked. (printed by hsym.py) -/
namespace Go.Proofs.Ytaghmhcccighgaa.HF
open Go.RowKit Go.Proofs.YtaghmhcccighgaaW.PrintWords Go.Proofs.YtaghmhcccighgaaW.PrintLast Go.Proofs.YtaghmhcccighgaaW.PrintMore Go.Proofs.Ytaghmhcccighgaa.HW Go.Proofs.Ytaghmhcccighgaa.MB Go.Proofs.Ytaghmhcccighgaa.Fn
attribute [local go_sem] max2_int min2_int max_two min_two max_three min_three max_four min_four   -- for this text's walks alone
/-- The turn's own index is the same place where a part is empty. -/
theorem rotI_none {s m e k : Nat} (h : ¬ (s < m ∧ m < e)) : rotI s m e k = k := by
  have := rotI_cases s m e k
  omega
set_option maxRecDepth 100000 in
set_option maxHeartbeats 32000000 in
theorem symm_gen {W : World} {B g n c : Nat} (xs : List Pk) (a m b : Nat) (IH : Aside0 (∀ (W : World) (ys : List Pk) (a0 m0 b0 : Nat), b0 - a0 < b - a → SD W W B g n c ys → a0 < m0 → m0 < b0 → b0 ≤ n → Sorted a0 m0 ys → Sorted m0 b0 ys → Calls Try.prog 76 #[.slice (some ⟨g, 0, none⟩) n c, .int .i64 a0, .int .i64 m0, .int .i64 b0, .func (.func 63) #[] #[]] W (SQ W B g n c a0 b0 ys))) (h : SD W W B g n c xs) (h1 : a + 1 < m) (h3 : m + 1 < b) (h4 : b ≤ n) (hn : n ≤ 1000000) (hs : Sorted a m xs) (hs2 : Sorted m b xs) :
    Calls Try.prog 76 #[.slice (some ⟨g, 0, none⟩) n c, .int .i64 a, .int .i64 m, .int .i64 b, .func (.func 63) #[] #[]] W (SQ W B g n c a b xs) := by
  have hu := Try.underlying108
  have HS0 := Aside0.mk h
  have HH := Aside0.mk (And.intro h1 (And.intro h3 h4))
  have HSO := Aside0.mk (And.intro hs hs2)
  have hlen := h.len
  have ha64 : a ≤ 1000000 := by omega
  have hb64 : b ≤ 1000000 := by omega
  have hm64 : m ≤ 1000000 := by omega
  have r1 : (((m : Int) - (a : Int)) == 1) = false := by simp; omega
  have r2 : IntKind.i64.wrap ((m : Int) - (a : Int)) = (m : Int) - (a : Int) := IntWalk.i64_in _ (by omega)
  have r3 : (((b : Int) - (m : Int)) == 1) = false := by simp; omega
  have r4 : IntKind.i64.wrap ((b : Int) - (m : Int)) = (b : Int) - (m : Int) := IntWalk.i64_in _ (by omega)
  obtain ⟨md, hmd⟩ : ∃ md, (a + b) / 2 = md := ⟨_, rfl⟩
  have he : ((a : Int) + (b : Int)) / 2 = ((md : Nat) : Int) := by omega
  have hd64 : md ≤ 1000000 := by omega
  obtain ⟨nn, hnn⟩ : ∃ nn, md + m = nn := ⟨_, rfl⟩
  have hn2 : nn ≤ 2000000 := by omega
  have he2 : ((md : Int) + (m : Int)) = ((nn : Nat) : Int) := by omega
  have HM := Aside0.mk (And.intro hmd hnn)
  have HE2 := Aside0.mk he2
  have HL := Aside0.mk hlen
  clear h h1 h3 h4 hs hs2 hmd hnn hlen
  go_enter Try.func76, Try.ntmps76
  go_upto_if 140 with (fail)
  clear he he2 r1 r2 r3 r4
  go_cut [20, 21] from 129 to 146 (fun v20 v21 w => ∃ lo hi : Nat, v20 = .int .i64 lo ∧ v21 = .int .i64 hi ∧ W = w ∧ Aside0 (CutB a m b lo hi nn))
  case first =>
    have hh := HH.out
    have hm := HM.out
    by_cases hgt : md < m
    · have hb1 : decide (md < m) = true := by simp; omega
      have e1 : (nn : Int) - (b : Int) = ((nn - b : Nat) : Int) := by omega
      have hw : IntKind.i64.wrap ((nn : Int) - (b : Int)) = (nn : Int) - (b : Int) := IntWalk.i64_in _ (by omega)
      have HB := Aside0.mk (show CutB a m b (nn - b) md nn by have h := CutB.mk1 (a := a) (m := m) (b := b) (by omega) (by omega); rw [hm.1, hm.2] at h; exact h)
      have HE := Aside0.mk e1
      clear hh hm e1
      go_wp2_with fail
      go_meet
      case rel => exact ⟨nn - b, md, by rw [HE.out], rfl, rfl, HB⟩
    · have hb1 : decide (md < m) = false := by simp; omega
      have HB := Aside0.mk (show CutB a m b a m nn by have h := CutB.mk2 (a := a) (m := m) (b := b) (by omega) (by omega); rw [hm.1, hm.2] at h; exact h)
      clear hh hm
      go_wp2_with fail
      go_meet
      case rel => exact ⟨a, m, rfl, rfl, rfl, HB⟩
  case rest =>
    obtain ⟨lo, hi, rfl, rfl, rfl, HB⟩ := hcut
    have hlo64 : lo ≤ 1000000 := by have := HB.out.hlo; omega
    have hhi64 : hi ≤ 1000000 := by have := HB.out.hlo; omega
    have hnn1 : 1 ≤ nn := by have := HM.out; have := HH.out; omega
    have hw0 : IntKind.i64.wrap ((nn : Int) - 1) = (nn : Int) - 1 := IntWalk.i64_in _ (by omega)
    go_wp2_with fail
    clear hw0
    go_loopw [20, 21] (fun v10 v11 wr => ∃ i j : Nat, v10 = .int .i64 i ∧ v11 = .int .i64 j ∧ Aside0 (CutR a m b lo hi nn i j xs) ∧ Aside0 (SD W wr B g n c xs)) (fun v10 v11 _ => (intOf v11).toNat - (intOf v10).toNat)
    case atStart => exact ⟨lo, hi, rfl, rfl, ⟨CutR.start HB.out⟩, HS0⟩
    case round =>
      clear HS0
      obtain ⟨i, j, rfl, rfl, HR, HS⟩ := hrel
      have hr := HR.out.rg
      have hi64 : i ≤ 1000000 := by omega
      have hj64 : j ≤ 1000000 := by omega
      by_cases hlt : i < j
      · have hb1 : decide (i < j) = true := by simp; omega
        obtain ⟨hf, hhf⟩ : ∃ hf, (i + j) / 2 = hf := ⟨_, rfl⟩
        have he : ((i : Int) + (j : Int)) / 2 = ((hf : Nat) : Int) := by omega
        have i1 := HB.out.hin hf (by omega) (by omega)
        have i2 := HB.out.hlo
        obtain ⟨pf, hpf⟩ : ∃ pf, nn - 1 - hf = pf := ⟨_, rfl⟩
        have he3 : ((nn : Int) - 1) - (hf : Int) = ((pf : Nat) : Int) := by omega
        have HHF := Aside0.mk (show i ≤ hf ∧ hf < j ∧ hf < n ∧ pf < n ∧ nn - 1 - hf = pf from by have := HH.out; omega)
        have hhf64 : hf ≤ 1000000 := by omega
        have hpf64 : pf ≤ 1000000 := by have := HHF.out; omega
        have q1 : (0 : Int) ≤ (pf : Int) := by omega
        have hw3 : IntKind.i64.wrap ((pf : Nat) : Int) = (pf : Int) := IntWalk.i64_in _ (by omega)
        have q2 : (pf : Int) < (n : Int) := by have := HHF.out; omega
        have q3 : (0 : Int) ≤ (hf : Int) := by omega
        have q4 : (hf : Int) < (n : Int) := by have := HHF.out; omega
        clear hr hhf hlt i1 i2 hpf
        go_upto_region 35 with (fail)
        clear he
        obtain ⟨c0, c1⟩ := atP HS.out.ro pf (by have := HHF.out; omega)
        obtain ⟨d0, d1⟩ := atP HS.out.ro hf (by have := HHF.out; omega)
        obtain ⟨⟨x0, x1, x2, x3, x4⟩, hx⟩ : ∃ z, rdP xs pf = z := ⟨_, rfl⟩
        obtain ⟨⟨y0, y1, y2, y3, y4⟩, hy⟩ : ∃ z, rdP xs hf = z := ⟨_, rfl⟩
        rw [hx] at c0 c1
        rw [hy] at d0 d1
        simp only at c0 c1 d0 d1
        have HX := Aside0.mk (And.intro hx hy)
        clear hx hy
        refine wp_region_any (by kernel_rfl) ?_
        change wpAny _ _ _ _ _ _ _ (World.drew _)
        refine wpAny_take (i := 0) (v := ?va53) rfl (by kernel_rfl) (by kernel_rfl) (by kernel_rfl) (fun _ _ _ h => h) (Or.inl ⟨by kernel_rfl, ?ya53⟩) ?_
        case ya53 => (intro w; go_simp; try with_reducible rfl)
        refine wpAny_take (i := 1) (v := ?va54) rfl (by kernel_rfl) (by kernel_rfl) (by kernel_rfl) (fun _ _ _ h => h) (Or.inl ⟨by kernel_rfl, ?ya54⟩) ?_
        case ya54 => (intro w; go_simp; try with_reducible rfl)
        refine wpAny_take (i := 2) (v := ?va55) rfl (by kernel_rfl) (by kernel_rfl) (by kernel_rfl) (fun _ _ _ h => h) (Or.inl ⟨by kernel_rfl, ?ya55⟩) ?_
        case ya55 => (intro w; go_simp; try with_reducible rfl)
        refine wpAny_take (i := 3) (v := ?va56) rfl (by kernel_rfl) (by kernel_rfl) (by kernel_rfl) (fun _ _ _ h => h) (Or.inl ⟨by kernel_rfl, ?ya56⟩) ?_
        case ya56 => (intro w; go_simp; try with_reducible rfl)
        refine wpAny_take (i := 4) (v := ?va57) rfl (by kernel_rfl) (by kernel_rfl) (by kernel_rfl) (fun _ _ _ h => h) (Or.inl ⟨by kernel_rfl, ?ya57⟩) ?_
        case ya57 => (intro w; go_simp; try with_reducible rfl)
        refine wpAny_take (i := 5) (v := ?va58) rfl (by kernel_rfl) (by kernel_rfl) (by kernel_rfl) (fun _ _ _ h => h) (Or.inl ⟨by kernel_rfl, ?ya58⟩) ?_
        case ya58 => (intro w; go_simp; try with_reducible rfl)
        refine wpAny_take (i := 7) (v := ?va59) rfl (by kernel_rfl) (by kernel_rfl) (by kernel_rfl) (fun _ _ _ h => h) (Or.inl ⟨by kernel_rfl, ?ya59⟩) ?_
        case ya59 => (intro w; go_simp; try with_reducible rfl)
        refine wpAny_take (i := 8) (v := ?va60) rfl (by kernel_rfl) (by kernel_rfl) (by kernel_rfl) (fun _ _ _ h => h) (Or.inl ⟨by kernel_rfl, ?ya60⟩) ?_
        case ya60 => (intro w; go_simp; try with_reducible rfl)
        refine wpAny_take (i := 9) (v := ?va61) rfl (by kernel_rfl) (by kernel_rfl) (by kernel_rfl) (fun _ _ _ h => h) (Or.inl ⟨by kernel_rfl, ?ya61⟩) ?_
        case ya61 => (intro w; go_simp; try with_reducible rfl)
        refine wpAny_ready (rs := [6, 10]) (by kernel_rfl) (by simp) ?_
        refine (AllReady.cons rfl (fun K hK => ?_) (AllReady.cons rfl (fun K hK => ?_) AllReady.nil))
        · skip
          go_simp
          refine hK _ _ ?_
          clear hK K
          refine wpAny_ready (rs := [10]) (by kernel_rfl) (by simp) ?_
          refine (AllReady.cons rfl (fun K hK => ?_) AllReady.nil)
          go_simp
          refine hK _ _ ?_
          clear hK K
          refine wpAny_ready (rs := [11]) (by kernel_rfl) (by simp) ?_
          refine (AllReady.cons rfl (fun K hK => ?_) AllReady.nil)
          go_simp
          go_wp2_with fail
          refine (pcmp_val x0 x1 x2 x3 y0 y1 y2 y3 _).mono ?_
          rintro e w3 ⟨rfl, hb⟩
          have HS3 := Aside0.mk (HS.out.drew.below hb)
          clear hb c0 c1 d0 d1
          refine hK _ _ ?_
          clear hK K
          refine wpAny_take (i := 12) (v := ?va62) rfl (by kernel_rfl) (by kernel_rfl) (by kernel_rfl) (fun _ _ _ h => h) (Or.inl ⟨by kernel_rfl, ?ya62⟩) ?_
          case ya62 => (intro w; go_simp; try with_reducible rfl)
          refine wpAny_take (i := 13) (v := ?va63) rfl (by kernel_rfl) (by kernel_rfl) (by kernel_rfl) (fun _ _ _ h => h) (Or.inl ⟨by kernel_rfl, ?ya63⟩) ?_
          case ya63 => (intro w; go_simp; try with_reducible rfl)
          refine wpAny_done (by kernel_rfl) ?_ _
          by_cases hc : x0 < y0
          · have hc1 : decide (cmp3 x0 y0 < 0) = true := by rw [cmp3_lt]; simpa using hc
            have HR2 : Aside0 (CutR a m b lo hi nn i hf xs) := ⟨HR.out.dn HB.out HSO.out.1 HSO.out.2 ⟨HHF.out.1, HHF.out.2.1⟩ (by rw [HHF.out.2.2.2.2]; unfold wtP; rw [HX.out.1, HX.out.2]; exact hc)⟩
            clear hc
            rw [hc1]
            go_wp2_with fail
            go_roundw
            case rel => exact ⟨i, hf, rfl, rfl, HR2, HS3⟩
            case measure => simp [intOf]; have := HHF.out; omega
          · have hc1 : decide (cmp3 x0 y0 < 0) = false := by rw [cmp3_lt]; simpa using hc
            have HR2 : Aside0 (CutR a m b lo hi nn (hf + 1) j xs) := ⟨HR.out.up HB.out HSO.out.1 HSO.out.2 ⟨HHF.out.1, HHF.out.2.1⟩ (by rw [HHF.out.2.2.2.2]; unfold wtP; rw [HX.out.1, HX.out.2]; simp only; omega)⟩
            clear hc
            rw [hc1]
            go_wp2_with fail
            go_roundw
            case rel => exact ⟨hf + 1, j, by simp, rfl, HR2, HS3⟩
            case measure => simp [intOf]; have := HHF.out; omega
        · skip
          go_simp
          refine hK _ _ ?_
          clear hK K
          refine wpAny_ready (rs := [6]) (by kernel_rfl) (by simp) ?_
          refine (AllReady.cons rfl (fun K hK => ?_) AllReady.nil)
          go_simp
          refine hK _ _ ?_
          clear hK K
          refine wpAny_ready (rs := [11]) (by kernel_rfl) (by simp) ?_
          refine (AllReady.cons rfl (fun K hK => ?_) AllReady.nil)
          go_simp
          go_wp2_with fail
          refine (pcmp_val x0 x1 x2 x3 y0 y1 y2 y3 _).mono ?_
          rintro e w3 ⟨rfl, hb⟩
          have HS3 := Aside0.mk (HS.out.drew.below hb)
          clear hb c0 c1 d0 d1
          refine hK _ _ ?_
          clear hK K
          refine wpAny_take (i := 12) (v := ?va64) rfl (by kernel_rfl) (by kernel_rfl) (by kernel_rfl) (fun _ _ _ h => h) (Or.inl ⟨by kernel_rfl, ?ya64⟩) ?_
          case ya64 => (intro w; go_simp; try with_reducible rfl)
          refine wpAny_take (i := 13) (v := ?va65) rfl (by kernel_rfl) (by kernel_rfl) (by kernel_rfl) (fun _ _ _ h => h) (Or.inl ⟨by kernel_rfl, ?ya65⟩) ?_
          case ya65 => (intro w; go_simp; try with_reducible rfl)
          refine wpAny_done (by kernel_rfl) ?_ _
          by_cases hc : x0 < y0
          · have hc1 : decide (cmp3 x0 y0 < 0) = true := by rw [cmp3_lt]; simpa using hc
            have HR2 : Aside0 (CutR a m b lo hi nn i hf xs) := ⟨HR.out.dn HB.out HSO.out.1 HSO.out.2 ⟨HHF.out.1, HHF.out.2.1⟩ (by rw [HHF.out.2.2.2.2]; unfold wtP; rw [HX.out.1, HX.out.2]; exact hc)⟩
            clear hc
            rw [hc1]
            go_wp2_with fail
            go_roundw
            case rel => exact ⟨i, hf, rfl, rfl, HR2, HS3⟩
            case measure => simp [intOf]; have := HHF.out; omega
          · have hc1 : decide (cmp3 x0 y0 < 0) = false := by rw [cmp3_lt]; simpa using hc
            have HR2 : Aside0 (CutR a m b lo hi nn (hf + 1) j xs) := ⟨HR.out.up HB.out HSO.out.1 HSO.out.2 ⟨HHF.out.1, HHF.out.2.1⟩ (by rw [HHF.out.2.2.2.2]; unfold wtP; rw [HX.out.1, HX.out.2]; simp only; omega)⟩
            clear hc
            rw [hc1]
            go_wp2_with fail
            go_roundw
            case rel => exact ⟨hf + 1, j, by simp, rfl, HR2, HS3⟩
            case measure => simp [intOf]; have := HHF.out; omega
      · have hb1 : decide (i < j) = false := by simp; omega
        have hie : i = j := by omega
        subst hie
        have HD := Aside0.mk (HR.out.done HB.out)
        obtain ⟨en, hen⟩ : ∃ en, nn - i = en := ⟨_, rfl⟩
        have he4 : (nn : Int) - (i : Int) = ((en : Nat) : Int) := by have := HB.out.hlo; have := HH.out; have := HM.out; omega
        have hD := HD.out
        rw [hen, HM.out.1] at hD
        have HD2 := Aside0.mk hD
        have hen64 : en ≤ 1000000 := by have := HH.out; omega
        have hw4 : IntKind.i64.wrap ((nn : Int) - (i : Int)) = (nn : Int) - (i : Int) := IntWalk.i64_in _ (by omega)
        clear hlt hr hen hD HD
        go_upto_region 39 with (fail)
        clear he4 hw4
        go_cut [185] from 178 to 185 (fun v w => v = .bool (decide (i < m ∧ m < en)) ∧ wr = w)
        case first =>
          by_cases c1 : i < m
          · have c2 : decide (i < m) = true := by simp; omega
            by_cases c3 : m < en
            · have c4 : decide (m < en) = true := by simp; omega
              have HC := Aside0.mk (show decide (i < m ∧ m < en) = true by simp; omega)
              go_wp2_with fail
              go_meet
              case rel => exact ⟨by rw [HC.out], rfl⟩
            · have c4 : decide (m < en) = false := by simp; omega
              have HC := Aside0.mk (show decide (i < m ∧ m < en) = false by simp; omega)
              go_wp2_with fail
              go_meet
              case rel => exact ⟨by rw [HC.out], rfl⟩
          · have c2 : decide (i < m) = false := by simp; omega
            have HC := Aside0.mk (show decide (i < m ∧ m < en) = false by simp; omega)
            go_wp2_with fail
            go_meet
            case rel => exact ⟨by rw [HC.out], rfl⟩
        case rest =>
          obtain ⟨rfl, rfl⟩ := hcut
          go_upto_if 185 with (fail)
          go_cut [] from 178 to 191 (fun w => ∃ ys, Aside0 (SD W w B g n c ys) ∧ Aside0 (PermS a b xs ys) ∧ Aside0 (∀ k, rdP ys k = rdP xs (rotI i m en k)))
          case first =>
            by_cases c1 : i < m ∧ m < en
            · have c2 : decide (i < m ∧ m < en) = true := decide_eq_true c1
              have HRO := Aside0.mk (rotate_ok (W := wr) xs i m en HS.out.self c1.1 c1.2 (by have := HD2.out; have := HH.out; omega) hn)
              clear c1
              rw [c2]
              go_wp2_with fail
              refine HRO.out.mono ?_
              rintro e w2 ⟨rfl, ys, hs, hp, hr⟩
              have HS2 := Aside0.mk (HS.out.again hs)
              have HP2 := Aside0.mk (merge_perm (hp.mono HD2.out.1.1 HD2.out.1.2.2.2) HSO.out.1 HSO.out.2 HD2.out.1 (by have := HL.out; have := HH.out; omega) HD2.out.2.2.2 hr)
              have HR2 := Aside0.mk hr
              clear hs hp hr
              go_wp2_with fail
              go_meet
              case rel => exact ⟨ys, HS2, HP2, HR2⟩
            · have c2 : decide (i < m ∧ m < en) = false := decide_eq_false c1
              have HR2 : Aside0 (∀ k, rdP xs k = rdP xs (rotI i m en k)) := ⟨fun k => by rw [rotI_none c1]⟩
              clear c1
              rw [c2]
              go_wp2_with fail
              go_meet
              case rel => exact ⟨xs, HS, ⟨PermS.refl _ _ _⟩, HR2⟩
          case rest =>
            clear HS
            obtain ⟨ys, HS, HP, HY⟩ := hcut
            have HT := Aside0.mk (merge_split HSO.out.1 HSO.out.2 HD2.out.1 HD2.out.2.1 HD2.out.2.2.1 (fun h1 h2 => Int.le_of_lt (HD2.out.2.2.2 h1 h2)) HY.out)
            obtain ⟨w5, hw5⟩ : ∃ w5 : World, w5 = wc := ⟨_, rfl⟩
            subst hw5
            go_upto_region 41 with (fail)
            go_cut [199] from 192 to 199 (fun v w => v = .bool (decide (a < i ∧ i < md)) ∧ w5 = w)
            case first =>
              by_cases c1 : a < i
              · have c2 : decide (a < i) = true := by simp; omega
                by_cases c3 : i < md
                · have c4 : decide (i < md) = true := by simp; omega
                  have HC := Aside0.mk (show decide (a < i ∧ i < md) = true by simp; omega)
                  go_wp2_with fail
                  go_meet
                  case rel => exact ⟨by rw [HC.out], rfl⟩
                · have c4 : decide (i < md) = false := by simp; omega
                  have HC := Aside0.mk (show decide (a < i ∧ i < md) = false by simp; omega)
                  go_wp2_with fail
                  go_meet
                  case rel => exact ⟨by rw [HC.out], rfl⟩
              · have c2 : decide (a < i) = false := by simp; omega
                have HC := Aside0.mk (show decide (a < i ∧ i < md) = false by simp; omega)
                go_wp2_with fail
                go_meet
                case rel => exact ⟨by rw [HC.out], rfl⟩
            case rest =>
              obtain ⟨rfl, hw6⟩ := hcut
              subst hw6
              go_upto_if 199 with (fail)
              go_cut [] from 192 to 205 (fun w => ∃ zs, Aside0 (SD W w B g n c zs) ∧ Aside0 (PermS a md ys zs) ∧ Aside0 (Sorted a md zs))
              case first =>
                by_cases c1 : a < i ∧ i < md
                · have c2 : decide (a < i ∧ i < md) = true := decide_eq_true c1
                  have HRO := Aside0.mk (IH.out w5 ys a i md (by have := HM.out; have := HH.out; omega) HS.out.self c1.1 c1.2 (by have := HM.out; have := HH.out; omega) HT.out.1 HT.out.2.1)
                  clear c1
                  rw [c2]
                  go_wp2_with fail
                  refine HRO.out.mono ?_
                  rintro e w2 ⟨rfl, zs, hs, hp, hr⟩
                  have HS2 := Aside0.mk (HS.out.again hs)
                  have HP2 := Aside0.mk hp
                  have HR2 := Aside0.mk hr
                  clear hs hp hr
                  go_wp2_with fail
                  go_meet
                  case rel => exact ⟨zs, HS2, HP2, HR2⟩
                · have c2 : decide (a < i ∧ i < md) = false := decide_eq_false c1
                  have HR2 : Aside0 (Sorted a md ys) := ⟨by
                    have h1 := HT.out.1
                    have h2 := HT.out.2.1
                    have h3 := HD2.out
                    by_cases c5 : a < i
                    · rw [show md = i by omega]; exact h1
                    · rw [show a = i by omega]; exact h2⟩
                  clear c1
                  rw [c2]
                  go_wp2_with fail
                  go_meet
                  case rel => exact ⟨ys, HS, ⟨PermS.refl _ _ _⟩, HR2⟩
              case rest =>
                clear HS
                obtain ⟨zs, HS, HZ, HO⟩ := hcut
                obtain ⟨w7, hw7⟩ : ∃ w7 : World, w7 = wc := ⟨_, rfl⟩
                subst hw7
                have HT3 : Aside0 (Sorted md en zs) := ⟨HT.out.2.2.1.congr (fun k h1 h2 => HZ.out.out k (by omega))⟩
                have HT4 : Aside0 (Sorted en b zs) := ⟨HT.out.2.2.2.1.congr (fun k h1 h2 => HZ.out.out k (by have := HD2.out; omega))⟩
                have HFIN : Aside0 (∀ us, PermS md b zs us → Sorted md b us → PermS a b xs us ∧ Sorted a b us) := ⟨fun us h1 h2 =>
                  ⟨(HP.out.trans (HZ.out.mono (Nat.le_refl _) (by have := HM.out; have := HH.out; omega))).trans (h1.mono (by have := HM.out; have := HH.out; omega) (Nat.le_refl _)), merge_join HZ.out.toPermIn HO.out h1.toPermIn h2 HT.out.2.2.2.2⟩⟩
                go_upto_region 43 with (fail)
                by_cases c1 : md < en
                · have c2 : decide (md < en) = true := by simp; omega
                  by_cases c3 : en < b
                  · have c4 : decide (en < b) = true := by simp; omega
                    have HRO := Aside0.mk (IH.out w7 zs md en b (by have := HM.out; have := HH.out; omega) HS.out.self c1 c3 (by have := HM.out; have := HH.out; omega) HT3.out HT4.out)
                    go_wp2_with fail
                    refine HRO.out.mono ?_
                    rintro e w2 ⟨rfl, us, hs, hp, hr⟩
                    have HS2 := Aside0.mk (HS.out.again hs)
                    have HP2 := Aside0.mk hp
                    have HR2 := Aside0.mk hr
                    clear hs hp hr
                    go_wp2_with fail
                    go_end0
                    exact ⟨rfl, us, HS2.out, HFIN.out us HP2.out HR2.out⟩
                  · have c4 : decide (en < b) = false := by simp; omega
                    have HR2 : Aside0 (Sorted md b zs) := ⟨by have := HD2.out; rw [show b = en by omega]; exact HT3.out⟩
                    go_wp2_with fail
                    go_end0
                    exact ⟨rfl, zs, HS.out, HFIN.out zs (PermS.refl _ _ _) HR2.out⟩
                · have c2 : decide (md < en) = false := by simp; omega
                  have HR2 : Aside0 (Sorted md b zs) := ⟨by have := HD2.out; rw [show md = en by omega]; exact HT4.out⟩
                  go_wp2_with fail
                  go_end0
                  exact ⟨rfl, zs, HS.out, HFIN.out zs (PermS.refl _ _ _) HR2.out⟩
/-- slices.symMergeCmpFunc of packs: two parts that do not fall become one. -/
theorem symm_ok {B g n c : Nat} (hn : n ≤ 1000000) (d : Nat) : ∀ (W : World) (xs : List Pk) (a m b : Nat), b - a ≤ d → SD W W B g n c xs → a < m → m < b → b ≤ n → Sorted a m xs → Sorted m b xs →
    Calls Try.prog 76 #[.slice (some ⟨g, 0, none⟩) n c, .int .i64 a, .int .i64 m, .int .i64 b, .func (.func 63) #[] #[]] W (SQ W B g n c a b xs) := by
  induction d with
  | zero => intro W xs a m b h; omega
  | succ d ih =>
    intro W xs a m b hd hs h1 h2 h4 s1 s2
    by_cases c1 : a + 1 = m
    · subst c1
      exact symm_one xs a b hs h2 h4 hn s2
    · by_cases c2 : m + 1 = b
      · subst c2
        exact symm_last xs a m hs (by omega) h4 hn s1
      · exact symm_gen xs a m b ⟨fun W ys a0 m0 b0 hlt => ih W ys a0 m0 b0 (by omega)⟩ hs (by omega) (by omega) h4 hn s1 s2
end Go.Proofs.Ytaghmhcccighgaa.HF
end
section
/- slices.stableCmpFunc, SortStableFunc of packs: walked. -/
namespace Go.Proofs.Ytaghmhcccighgaa.HF
open Go.RowKit Go.Proofs.YtaghmhcccighgaaW.PrintWords Go.Proofs.YtaghmhcccighgaaW.PrintLast Go.Proofs.YtaghmhcccighgaaW.PrintMore Go.Proofs.Ytaghmhcccighgaa.HW Go.Proofs.Ytaghmhcccighgaa.MB Go.Proofs.Ytaghmhcccighgaa.Fn
attribute [local go_sem] max2_int min2_int max_two min_two max_three min_three max_four min_four   -- for this text's walks alone
set_option maxRecDepth 100000 in
set_option maxHeartbeats 16000000 in
theorem stable_ok {W : World} {B g n c : Nat} (xs : List Pk) (h : SD W W B g n c xs) (hn : n ≤ 1000000) :
    Calls Try.prog 71 #[.slice (some ⟨g, 0, none⟩) n c, .int .i64 n, .func (.func 63) #[] #[]] W (SQ W B g n c 0 n xs) := by
  have HS0 := Aside0.mk h
  clear h
  go_enter Try.func71, Try.ntmps71
  go_wp2_with fail
  go_loopw [7, 8] (fun v7 v8 wr => ∃ (a b : Nat) (zs : List Pk), v7 = .int .i64 a ∧ v8 = .int .i64 b ∧ Aside0 (a ≤ n ∧ 20 ∣ a ∧ b = a + 20) ∧ Aside0 (SD W wr B g n c zs) ∧ Aside0 (PermS 0 n xs zs) ∧ Aside0 (Pre 20 a zs)) (fun v7 _ _ => n - (intOf v7).toNat)
  case atStart => exact ⟨0, 20, xs, rfl, rfl, ⟨by omega⟩, HS0, ⟨PermS.refl _ _ _⟩, ⟨Pre.zero _ _⟩⟩
  case round =>
    clear HS0
    obtain ⟨a, b, zs, rfl, rfl, HA, HS, HP, HR⟩ := hrel
    have ha := HA.out
    have ha64 : a ≤ 1000000 := by omega
    have hb64 : b ≤ 1000020 := by omega
    by_cases hlt : b ≤ n
    · have hb1 : decide (b ≤ n) = true := by simp; omega
      have HC := Aside0.mk (insert_ok (W := wr) zs a b HS.out.self hlt hn ha64)
      have HL := Aside0.mk hlt
      clear ha
      go_wp2_with fail
      refine HC.out.mono ?_
      rintro e w2 ⟨rfl, ys, hs, hp, ho⟩
      have HS2 := Aside0.mk (HS.out.again hs)
      have HP2 := Aside0.mk (HP.out.trans (hp.mono (Nat.zero_le _) hlt))
      have HR2 : Aside0 (Pre 20 b ys) := ⟨by
        have hb := HA.out.2.2
        subst hb
        exact HR.out.step HA.out.2.1 hp.toPermIn ho⟩
      clear hs hp ho
      go_wp2_with fail
      go_roundw
      case rel => exact ⟨b, b + 20, ys, rfl, by simp, ⟨by have := HA.out; have := HL.out; omega⟩, HS2, HP2, HR2⟩
      case measure => simp [intOf]; have := HA.out; omega
    · have hb1 : decide (b ≤ n) = false := by simp; omega
      have HC := Aside0.mk (insert_ok (W := wr) zs a n HS.out.self (Nat.le_refl _) hn ha64)
      have HL := Aside0.mk hlt
      clear ha
      go_wp2_with fail
      refine HC.out.mono ?_
      rintro e w2 ⟨rfl, ys, hs, hp, ho⟩
      have HS2 := Aside0.mk (HS.out.again hs)
      have HP2 := Aside0.mk (HP.out.trans (hp.mono (Nat.zero_le _) (Nat.le_refl _)))
      have HB2 := Aside0.mk (HR.out.close HA.out.2.1 (by have := HA.out; have := HL.out; omega) hp.toPermIn ho)
      clear hs hp ho hlt
      go_wp2_with fail
      go_loopw [6] (fun v6 wr => ∃ (s : Nat) (zs : List Pk), v6 = .int .i64 s ∧ Aside0 (20 ≤ s ∧ s ≤ 2000000) ∧ Aside0 (SD W wr B g n c zs) ∧ Aside0 (PermS 0 n xs zs) ∧ Aside0 (Bl s n zs)) (fun v6 _ => n - (intOf v6).toNat)
      case atStart => exact ⟨20, ys, rfl, ⟨by omega⟩, HS2, HP2, HB2⟩
      case round =>
        clear HS HP HR HA HL HC HS2 HP2 HB2 ha64 hb64
        obtain ⟨s, zs, rfl, HA, HS, HP, HB⟩ := hrel
        have ha := HA.out
        have hs64 : s ≤ 2000000 := by omega
        by_cases hlt : s < n
        · have hb1 : decide (s < n) = true := by simp; omega
          have hs61 : s ≤ 1000000 := by omega
          have hs0 : 0 < s := by omega
          have HL := Aside0.mk (show 0 < s ∧ s < n from ⟨hs0, hlt⟩)
          obtain ⟨d, hd⟩ : ∃ d, 2 * s = d := ⟨_, rfl⟩
          have hd1 : 2 * (s : Int) = (d : Int) := by omega
          have hd2 : (s : Int) * 2 = (d : Int) := by omega
          have hd64 : d ≤ 2000000 := by omega
          have HD := Aside0.mk (show d = 2 * s ∧ s ∣ d from ⟨hd.symm, ⟨2, by omega⟩⟩)
          have HD2 := Aside0.mk hd2
          clear hd ha hlt hd2
          go_wp2_with fail
          go_loopw [7, 8] (fun v7 v8 wr => ∃ (a b : Nat) (ys : List Pk), v7 = .int .i64 a ∧ v8 = .int .i64 b ∧ Aside0 (a ≤ n ∧ d ∣ a ∧ b = a + d) ∧ Aside0 (SD W wr B g n c ys) ∧ Aside0 (PermS 0 n xs ys) ∧ Aside0 (Pre d a ys) ∧ Aside0 (Rest s a n ys)) (fun v7 _ _ => n - (intOf v7).toNat)
          case atStart => exact ⟨0, d, zs, rfl, rfl, ⟨⟨Nat.zero_le _, Nat.dvd_zero _, by omega⟩⟩, HS, HP, ⟨Pre.zero _ _⟩, ⟨Rest.start HB.out⟩⟩
          case round =>
            clear HS HP HB
            obtain ⟨a, b, ys, rfl, rfl, HE, HS, HP, HR, HT⟩ := hrel
            have he := HE.out
            have hda : s ∣ a := Nat.dvd_trans HD.out.2 he.2.1
            have HDA := Aside0.mk hda
            have ha64 : a ≤ 1000000 := by omega
            have hb64 : b ≤ 3000000 := by omega
            obtain ⟨m, hm⟩ : ∃ m, a + s = m := ⟨_, rfl⟩
            have hm1 : (a : Int) + (s : Int) = (m : Int) := by omega
            have hm64 : m ≤ 2000000 := by omega
            have HM := Aside0.mk hm
            by_cases hlt : b ≤ n
            · have hb2 : decide (b ≤ n) = true := by simp; omega
              have HC := Aside0.mk (symm_ok hn b wr ys a m b (by omega) HS.out.self (by have := HL.out; omega) (by have := HL.out; have := HD.out; omega) hlt (by have := HT.out.fst hda (by have := HL.out; have := HD.out; omega) HL.out.1; rw [hm] at this; exact this) (by have := HT.out.snd (e := b) hda (by have := HL.out; have := HD.out; omega) (by have := HD.out; omega); rw [hm] at this; exact this))
              have HL2 := Aside0.mk hlt
              clear he hm hda
              go_wp2_with fail
              refine HC.out.mono ?_
              rintro e w2 ⟨rfl, us, hs, hp, ho⟩
              have HS2 := Aside0.mk (HS.out.again hs)
              have HP2 := Aside0.mk (HP.out.trans (hp.mono (Nat.zero_le _) hlt))
              have HT2 := Aside0.mk (HT.out.step hp.toPermIn (by have := HE.out; omega))
              have HR2 : Aside0 (Pre d b us) := ⟨by
                have hb := HE.out.2.2
                subst hb
                exact HR.out.step HE.out.2.1 hp.toPermIn ho⟩
              clear hs hp ho
              go_wp2_with fail
              go_roundw
              case rel => exact ⟨b, b + d, us, rfl, by simp, ⟨by have := HE.out; have := HL2.out; exact ⟨this, by rw [HE.out.2.2]; exact Nat.dvd_add HE.out.2.1 (Nat.dvd_refl d), rfl⟩⟩, HS2, HP2, HR2, HT2⟩
              case measure => simp [intOf]; have := HE.out; have := HD.out; have := HL.out; omega
            · have hb2 : decide (b ≤ n) = false := by simp; omega
              by_cases hmn : m < n
              · have hb3 : decide (m < n) = true := by simp; omega
                have HC := Aside0.mk (symm_ok hn n wr ys a m n (by omega) HS.out.self (by have := HL.out; omega) hmn (Nat.le_refl _) (by have := HT.out.fst hda (by omega) HL.out.1; rw [hm] at this; exact this) (by have := HT.out.snd (e := n) hda (by omega) (by have := HD.out; omega); rw [hm] at this; exact this))
                have HL2 := Aside0.mk hlt
                clear he hm hda
                go_wp2_with fail
                refine HC.out.mono ?_
                rintro e w2 ⟨rfl, us, hs, hp, ho⟩
                have HS2 := Aside0.mk (HS.out.again hs)
                have HP2 := Aside0.mk (HP.out.trans (hp.mono (Nat.zero_le _) (Nat.le_refl _)))
                have HB2 := Aside0.mk (HR.out.close HE.out.2.1 (by have := HE.out; have := HL2.out; omega) hp.toPermIn ho)
                clear hs hp ho
                have hd2 := HD2.out
                go_wp2_with fail
                go_roundw
                case rel => exact ⟨d, us, rfl, ⟨by have := HD.out; have := HA.out; have := HL.out; omega⟩, HS2, HP2, HB2⟩
                case measure => simp [intOf]; have := HD.out; have := HL.out; omega
              · have hb3 : decide (m < n) = false := by simp; omega
                have HL2 := Aside0.mk hlt
                have HB2 := Aside0.mk (HR.out.close HE.out.2.1 (by have := HE.out; have := HL2.out; omega) (PermIn.refl a n ys) (HT.out.one hda (by omega)))
                clear he hm hda
                have hd2 := HD2.out
                go_wp2_with fail
                go_roundw
                case rel => exact ⟨d, ys, rfl, ⟨by have := HD.out; have := HA.out; have := HL.out; omega⟩, HS, HP, HB2⟩
                case measure => simp [intOf]; have := HD.out; have := HL.out; omega
        · have hb1 : decide (s < n) = false := by simp; omega
          have HO := Aside0.mk (HB.out.all (by omega))
          clear ha hlt
          go_wp2_with fail
          go_end0
          exact ⟨rfl, zs, HS.out, HP.out, HO.out⟩
/-- slices.SortStableFunc of packs. -/
theorem sort_ok {W : World} {B g n c : Nat} (xs : List Pk) (h : SD W W B g n c xs) (hn : n ≤ 1000000) :
    Calls Try.prog 65 #[.slice (some ⟨g, 0, none⟩) n c, .func (.func 63) #[] #[]] W (SQ W B g n c 0 n xs) := by
  have HC := Aside0.mk (stable_ok xs h hn)
  clear h
  go_enter Try.func65, Try.ntmps65
  go_wp2_with fail
  refine HC.out.mono ?_
  rintro e w2 ⟨rfl, ys, hs, hp, ho⟩
  have HS2 := Aside0.mk hs
  have HP2 := Aside0.mk hp
  have HO2 := Aside0.mk ho
  clear hs hp ho
  go_wp2_with fail
  go_end0
  exact ⟨rfl, ys, HS2.out, HP2.out, HO2.out⟩
end Go.Proofs.Ytaghmhcccighgaa.HF
end
section
/- slices.Grow, slices.Concat of numbers and of packs: walked. (printed by hconc.py) -/
namespace Go.Proofs.Ytaghmhcccighgaa.HF
open Go.RowKit Go.Proofs.YtaghmhcccighgaaW.PrintWords Go.Proofs.YtaghmhcccighgaaW.PrintLast Go.Proofs.YtaghmhcccighgaaW.PrintMore Go.Proofs.Ytaghmhcccighgaa.HW Go.Proofs.Ytaghmhcccighgaa.MB Go.Proofs.Ytaghmhcccighgaa.Fn
attribute [local go_sem] max2_int min2_int max_two min_two max_three min_three max_four min_four   -- for this text's walks alone
/-- A new row is handed back. -/
def GQ {α : Type} (d : Kd α) (t : TypeId) (W : World) (xs : List α) (e : Ending) (w' : World) : Prop := ∃ v, e = .returned v ∧ d.R t w' W.heap.size (fun _ => True) v xs ∧ Below W.heap.size W w'
theorem infoPk : (Try.prog.info? 108).map (fun i => (i.zero, i.size, i.bytes)) = some (some (.agg #[.int .i64 0, .slice none 0 0]), 2, 32) := by kernel_rfl
/-- An empty row with room. -/
theorem room_row {α : Type} (d : Kd α) {W : World} {t : TypeId} {b cap : Nat} {cur : Array Value} (hb : b ≤ W.heap.size) (hc : cap ≤ maxLen) (hs : cur.size = cap * d.sz) :
    d.R t (W.alloc (.cells cur t)) b (fun _ => True) (.slice (some ⟨W.heap.size, 0, none⟩) 0 cap) [] :=
  ⟨fun _ _ => trivial, [], ⟨by simp, .inr ⟨W.heap.size, cap, cur, rfl, hb, heap_alloc_new W _, Nat.zero_le _, hc, hs, by simp⟩⟩, ⟨by simp, fun j p hj => by simp at hj⟩⟩
set_option maxRecDepth 100000 in
set_option maxHeartbeats 8000000 in
theorem growI_ok {W : World} (n : Nat) (hn : n ≤ 1000000) : Calls Try.prog 72 #[.slice none 0 0, .int .i64 n] W (GQ (Kd.int .i64) 3 W []) := by
  obtain ⟨i0, hi, hzz⟩ := Option.map_eq_some_iff.1 info3
  simp only [Prod.mk.injEq] at hzz
  have hz0 := hzz.1
  have hz1 := hzz.2.1
  have hz2 := hzz.2.2
  have HN := Aside0.mk hn
  have hw : IntKind.i64.wrap (n : Int) = n := IntWalk.i64_in _ (by omega)
  by_cases h0 : 0 < n
  · have happ := Aside0.mk (Lib.run_append_nil_zeros (P := Try.prog) W 48 3 48 3 i0 (.int .i64 0) .i64 .i64 Try.underlying48 Try.underlying3 hi hz0 n h0 (by omega) (by omega) (by rw [hz2]; omega))
    have HC := Aside0.mk (grownCap_le_maxLen W n 0 3 (by simp only [maxLen]; omega))
    have HG := Aside0.mk (grownCap_ge W n 0 3)
    obtain ⟨cap, hcap⟩ : ∃ cap, grownCap W n 0 3 = cap := ⟨_, rfl⟩
    rw [hcap] at happ HC HG
    have hb1 : decide ((n : Int) < 0) = false := by simp
    have hb2 : decide ((0 : Int) < (n : Int)) = true := by simp; omega
    have hb3 : decide (0 < n) = true := by simp; omega
    clear hcap hzz hz0 hz1 hz2 hi
    go_enter Try.func72, Try.ntmps72
    go_wp2_with ((with_reducible refine gate_builtin (b := .append) (xs := #[.tmp 20, .tmp 21]) rfl ?_); at_builtin; refine Lib.wpList_append_run _ rfl (.tmp 20) (.tmp 21) 48 3 rfl (.slice none 0 0) (.int .i64 n) (by first | rfl | (go_simp; done)) (by first | rfl | (go_simp; done)) _ _ happ.out ?_)
    go_ret
    refine ⟨_, rfl, room_row (Kd.int .i64) (by simp) HC.out ?_, below_alloc (below_drew (Below.refl _ _)) _⟩
    rw [Array.size_append, size_zeroCells, size_zeroCells]
    show n * 1 + (cap - n) * 1 = cap * 1
    have := HG.out
    omega
  · obtain rfl : n = 0 := by omega
    go_enter Try.func72, Try.ntmps72
    go_wp2_with fail
    go_ret
    exact ⟨_, rfl, Kd.R_nil _ _ _ _ _, Below.refl _ _⟩
set_option maxRecDepth 100000 in
set_option maxHeartbeats 16000000 in
theorem concI_ok {W : World} {g : Nat} {A1 A2 : Option Addr} {n1 c1 n2 c2 : Nat} (l1 l2 : List Int) (hg1 : W.cell? ⟨g, 0, none⟩ = some (.slice A1 n1 c1)) (hg2 : W.cell? ⟨g, 1, none⟩ = some (.slice A2 n2 c2))
    (hl1 : (Kd.int .i64).C W A1 n1 l1) (hc1 : n1 ≤ c1) (hl2 : (Kd.int .i64).C W A2 n2 l2) (hc2 : n2 ≤ c2) (h1 : n1 ≤ 400000) (h2 : n2 ≤ 400000) :
    Calls Try.prog 66 #[.slice (some ⟨g, 0, none⟩) 2 2] W (GQ (Kd.int .i64) 3 W (l1 ++ l2)) := by
  have HL1 := Aside0.mk hl1
  have HL2 := Aside0.mk hl2
  have HE1 := Aside0.mk hl1.1
  have HE2 := Aside0.mk hl2.1
  have HGR := Aside0.mk (fun (w : World) (n : Nat) (h : n ≤ 1000000) => growI_ok (W := w) n h)
  have HCC := Aside0.mk (And.intro hc1 hc2)
  clear hl1 hl2 hc1 hc2
  go_enter Try.func66, Try.ntmps66
  go_wp2_with fail
  go_loopw [3, 11] (fun v3 v11 wr => ∃ k sz : Nat, v3 = .int .i64 sz ∧ v11 = .int .i64 k ∧ Aside0 ((k = 0 ∧ sz = 0) ∨ (k = 1 ∧ sz = n1) ∨ (k = 2 ∧ sz = n1 + n2)) ∧ W = wr) (fun _ v11 _ => 2 - (intOf v11).toNat)
  case atStart => exact ⟨0, 0, rfl, rfl, ⟨Or.inl ⟨rfl, rfl⟩⟩, rfl⟩
  case round =>
    obtain ⟨k, sz, rfl, rfl, HK, hW⟩ := hrel
    subst hW
    rcases HK.out with ⟨rfl, rfl⟩ | ⟨rfl, rfl⟩ | ⟨rfl, rfl⟩
    · clear HK
      have hb1 : decide (((n1 : Nat) : Int) < 0) = false := by simp
      have hw1 : IntKind.i64.wrap (n1 : Int) = n1 := IntWalk.i64_in _ (by omega)
      go_wp2_with fail
      go_roundw
      case rel => exact ⟨1, n1, by simp, rfl, ⟨Or.inr (Or.inl ⟨rfl, rfl⟩)⟩, by trivial⟩
      case measure => simp [intOf]
    · clear HK
      obtain ⟨t, ht⟩ : ∃ t, sz + n2 = t := ⟨_, rfl⟩
      have ht2 : (sz : Int) + (n2 : Int) = (t : Int) := by omega
      have HT := Aside0.mk ht
      have ht3 : t ≤ 800000 := by omega
      have hb1 : decide (((t : Nat) : Int) < 0) = false := by simp
      have hw1 : IntKind.i64.wrap (t : Int) = t := IntWalk.i64_in _ (by omega)
      clear ht
      go_wp2_with fail
      go_roundw
      case rel => exact ⟨2, t, by simp, rfl, ⟨Or.inr (Or.inr ⟨rfl, HT.out.symm⟩)⟩, by trivial⟩
      case measure => simp [intOf]
    · clear HK
      obtain ⟨t, ht⟩ : ∃ t, n1 + n2 = t := ⟨_, rfl⟩
      have HT := Aside0.mk ht
      have HC := Aside0.mk (HGR.out W t (by omega))
      clear HGR
      rw [ht]
      clear ht
      go_wp2_with fail
      refine HC.out.mono ?_
      rintro e w2 ⟨v, rfl, hr, hb⟩
      have HR := Aside0.mk hr
      have HB := Aside0.mk hb
      have hq1 := pw_cell_below hb hg1
      have hq2 := pw_cell_below hb hg2
      have HG := Aside0.mk (And.intro hg1 hg2)
      clear hr hb HC hg1 hg2
      go_wp2_with fail
      go_loopw [6, 27] (fun v6 v27 wr => ∃ (k : Nat) (ys : List Int), v27 = .int .i64 k ∧ Aside0 ((k = 0 ∧ [] = ys) ∨ (k = 1 ∧ l1 = ys) ∨ (k = 2 ∧ l1 ++ l2 = ys)) ∧ Aside0 ((Kd.int .i64).R 3 wr W.heap.size (fun _ => True) v6 ys) ∧ Aside0 (Below W.heap.size W wr)) (fun _ v27 _ => 2 - (intOf v27).toNat)
      case atStart => exact ⟨0, [], rfl, ⟨Or.inl ⟨rfl, rfl⟩⟩, HR, HB⟩
      case round =>
        clear HR HB hq1 hq2
        obtain ⟨k, ys, rfl, HK, HR, HB⟩ := hrel
        have hq1 := pw_cell_below HB.out HG.out.1
        have hq2 := pw_cell_below HB.out HG.out.2
        have HA1 := Aside0.mk (Kd.C_below HL1.out HB.out)
        have HA2 := Aside0.mk (Kd.C_below HL2.out HB.out)
        rcases HK.out with ⟨rfl, rfl⟩ | ⟨rfl, rfl⟩ | ⟨rfl, rfl⟩
        · clear HK
          have hln : ([] : List Int).length + n1 ≤ 800000 := by simp; omega
          go_wp2_with ((with_reducible refine gate_builtin (b := .append) (xs := #[.tmp 31, .tmp 32]) rfl ?_); at_builtin; refine Kd.R_append_rows (Kd.int .i64) (w0 := W) W.heap.size rfl (.tmp 31) (.tmp 32) 48 3 (.int .i64 0) 8 rfl Try.underlying48 info3 rfl (by decide) (by decide) u6 [] l1 A1 n1 c1 (fun _ => True) (fun _ => False) rfl (by first | (go_simp; done) | (go_simp; rfl)) HR.out HA1.out (fun _ _ h => h) (fun _ hk => hk.elim) (fun _ _ => trivial) HB.out HB.out.size (by omega) ?_; intro v9 w9 ho hb hg hat; have HR9 := Aside0.mk ho; have HB9 := Aside0.mk hb; clear ho hb hg hat)
          go_roundw
          case rel => exact ⟨1, _, rfl, ⟨Or.inr (Or.inl ⟨rfl, (List.nil_append _).symm⟩)⟩, HR9, HB9⟩
          case measure => simp [intOf]
        · clear HK
          have hln : (l1 : List Int).length + n2 ≤ 800000 := by have := HE1.out; omega
          go_wp2_with ((with_reducible refine gate_builtin (b := .append) (xs := #[.tmp 31, .tmp 32]) rfl ?_); at_builtin; refine Kd.R_append_rows (Kd.int .i64) (w0 := W) W.heap.size rfl (.tmp 31) (.tmp 32) 48 3 (.int .i64 0) 8 rfl Try.underlying48 info3 rfl (by decide) (by decide) u6 l1 l2 A2 n2 c2 (fun _ => True) (fun _ => False) rfl (by first | (go_simp; done) | (go_simp; rfl)) HR.out HA2.out (fun _ _ h => h) (fun _ hk => hk.elim) (fun _ _ => trivial) HB.out HB.out.size (by omega) ?_; intro v9 w9 ho hb hg hat; have HR9 := Aside0.mk ho; have HB9 := Aside0.mk hb; clear ho hb hg hat)
          go_roundw
          case rel => exact ⟨2, _, rfl, ⟨Or.inr (Or.inr ⟨rfl, rfl⟩)⟩, HR9, HB9⟩
          case measure => simp [intOf]
        · clear HK
          go_wp2_with fail
          go_ret
          exact ⟨_, rfl, HR.out, HB.out⟩
set_option maxRecDepth 100000 in
set_option maxHeartbeats 8000000 in
theorem growP_ok {W : World} (n : Nat) (hn : n ≤ 1000000) : Calls Try.prog 73 #[.slice none 0 0, .int .i64 n] W (GQ kP 108 W []) := by
  obtain ⟨i0, hi, hzz⟩ := Option.map_eq_some_iff.1 infoPk
  simp only [Prod.mk.injEq] at hzz
  have hz0 := hzz.1
  have hz1 := hzz.2.1
  have hz2 := hzz.2.2
  have HN := Aside0.mk hn
  have hw : IntKind.i64.wrap (n : Int) = n := IntWalk.i64_in _ (by omega)
  by_cases h0 : 0 < n
  · have happ := Aside0.mk (Lib.run_append_nil_zeros (P := Try.prog) W 106 3 106 108 i0 (.agg #[.int .i64 0, .slice none 0 0]) .i64 .i64 Try.underlying106 Try.underlying3 hi hz0 n h0 (by omega) (by omega) (by rw [hz2]; omega))
    have HC := Aside0.mk (grownCap_le_maxLen W n 0 108 (by simp only [maxLen]; omega))
    have HG := Aside0.mk (grownCap_ge W n 0 108)
    obtain ⟨cap, hcap⟩ : ∃ cap, grownCap W n 0 108 = cap := ⟨_, rfl⟩
    rw [hcap] at happ HC HG
    have hb1 : decide ((n : Int) < 0) = false := by simp
    have hb2 : decide ((0 : Int) < (n : Int)) = true := by simp; omega
    have hb3 : decide (0 < n) = true := by simp; omega
    clear hcap hzz hz0 hz1 hz2 hi
    go_enter Try.func73, Try.ntmps73
    go_wp2_with ((with_reducible refine gate_builtin (b := .append) (xs := #[.tmp 20, .tmp 21]) rfl ?_); at_builtin; refine Lib.wpList_append_run _ rfl (.tmp 20) (.tmp 21) 106 3 rfl (.slice none 0 0) (.int .i64 n) (by first | rfl | (go_simp; done)) (by first | rfl | (go_simp; done)) _ _ happ.out ?_)
    go_ret
    refine ⟨_, rfl, room_row kP (by simp) HC.out ?_, below_alloc (below_drew (Below.refl _ _)) _⟩
    rw [Array.size_append, size_zeroCells, size_zeroCells]
    show n * 2 + (cap - n) * 2 = cap * 2
    have := HG.out
    omega
  · obtain rfl : n = 0 := by omega
    go_enter Try.func73, Try.ntmps73
    go_wp2_with fail
    go_ret
    exact ⟨_, rfl, Kd.R_nil _ _ _ _ _, Below.refl _ _⟩
set_option maxRecDepth 100000 in
set_option maxHeartbeats 16000000 in
theorem concP_ok {W : World} {g : Nat} {A1 A2 : Option Addr} {n1 c1 n2 c2 : Nat} (l1 l2 : List Pk) (hg1 : W.cell? ⟨g, 0, none⟩ = some (.slice A1 n1 c1)) (hg2 : W.cell? ⟨g, 1, none⟩ = some (.slice A2 n2 c2))
    (hl1 : kP.C W A1 n1 l1) (hc1 : n1 ≤ c1) (hl2 : kP.C W A2 n2 l2) (hc2 : n2 ≤ c2) (h1 : n1 ≤ 400000) (h2 : n2 ≤ 400000) :
    Calls Try.prog 67 #[.slice (some ⟨g, 0, none⟩) 2 2] W (GQ kP 108 W (l1 ++ l2)) := by
  have HL1 := Aside0.mk hl1
  have HL2 := Aside0.mk hl2
  have HE1 := Aside0.mk hl1.1
  have HE2 := Aside0.mk hl2.1
  have HGR := Aside0.mk (fun (w : World) (n : Nat) (h : n ≤ 1000000) => growP_ok (W := w) n h)
  have HCC := Aside0.mk (And.intro hc1 hc2)
  clear hl1 hl2 hc1 hc2
  go_enter Try.func67, Try.ntmps67
  go_wp2_with fail
  go_loopw [3, 11] (fun v3 v11 wr => ∃ k sz : Nat, v3 = .int .i64 sz ∧ v11 = .int .i64 k ∧ Aside0 ((k = 0 ∧ sz = 0) ∨ (k = 1 ∧ sz = n1) ∨ (k = 2 ∧ sz = n1 + n2)) ∧ W = wr) (fun _ v11 _ => 2 - (intOf v11).toNat)
  case atStart => exact ⟨0, 0, rfl, rfl, ⟨Or.inl ⟨rfl, rfl⟩⟩, rfl⟩
  case round =>
    obtain ⟨k, sz, rfl, rfl, HK, hW⟩ := hrel
    subst hW
    rcases HK.out with ⟨rfl, rfl⟩ | ⟨rfl, rfl⟩ | ⟨rfl, rfl⟩
    · clear HK
      have hb1 : decide (((n1 : Nat) : Int) < 0) = false := by simp
      have hw1 : IntKind.i64.wrap (n1 : Int) = n1 := IntWalk.i64_in _ (by omega)
      go_wp2_with fail
      go_roundw
      case rel => exact ⟨1, n1, by simp, rfl, ⟨Or.inr (Or.inl ⟨rfl, rfl⟩)⟩, by trivial⟩
      case measure => simp [intOf]
    · clear HK
      obtain ⟨t, ht⟩ : ∃ t, sz + n2 = t := ⟨_, rfl⟩
      have ht2 : (sz : Int) + (n2 : Int) = (t : Int) := by omega
      have HT := Aside0.mk ht
      have ht3 : t ≤ 800000 := by omega
      have hb1 : decide (((t : Nat) : Int) < 0) = false := by simp
      have hw1 : IntKind.i64.wrap (t : Int) = t := IntWalk.i64_in _ (by omega)
      clear ht
      go_wp2_with fail
      go_roundw
      case rel => exact ⟨2, t, by simp, rfl, ⟨Or.inr (Or.inr ⟨rfl, HT.out.symm⟩)⟩, by trivial⟩
      case measure => simp [intOf]
    · clear HK
      obtain ⟨t, ht⟩ : ∃ t, n1 + n2 = t := ⟨_, rfl⟩
      have HT := Aside0.mk ht
      have HC := Aside0.mk (HGR.out W t (by omega))
      clear HGR
      rw [ht]
      clear ht
      go_wp2_with fail
      refine HC.out.mono ?_
      rintro e w2 ⟨v, rfl, hr, hb⟩
      have HR := Aside0.mk hr
      have HB := Aside0.mk hb
      have hq1 := pw_cell_below hb hg1
      have hq2 := pw_cell_below hb hg2
      have HG := Aside0.mk (And.intro hg1 hg2)
      clear hr hb HC hg1 hg2
      go_wp2_with fail
      go_loopw [6, 27] (fun v6 v27 wr => ∃ (k : Nat) (ys : List Pk), v27 = .int .i64 k ∧ Aside0 ((k = 0 ∧ [] = ys) ∨ (k = 1 ∧ l1 = ys) ∨ (k = 2 ∧ l1 ++ l2 = ys)) ∧ Aside0 (kP.R 108 wr W.heap.size (fun _ => True) v6 ys) ∧ Aside0 (Below W.heap.size W wr)) (fun _ v27 _ => 2 - (intOf v27).toNat)
      case atStart => exact ⟨0, [], rfl, ⟨Or.inl ⟨rfl, rfl⟩⟩, HR, HB⟩
      case round =>
        clear HR HB hq1 hq2
        obtain ⟨k, ys, rfl, HK, HR, HB⟩ := hrel
        have hq1 := pw_cell_below HB.out HG.out.1
        have hq2 := pw_cell_below HB.out HG.out.2
        have HA1 := Aside0.mk (Kd.C_below HL1.out HB.out)
        have HA2 := Aside0.mk (Kd.C_below HL2.out HB.out)
        rcases HK.out with ⟨rfl, rfl⟩ | ⟨rfl, rfl⟩ | ⟨rfl, rfl⟩
        · clear HK
          have hln : ([] : List Pk).length + n1 ≤ 800000 := by simp; omega
          go_wp2_with ((with_reducible refine gate_builtin (b := .append) (xs := #[.tmp 31, .tmp 32]) rfl ?_); at_builtin; refine Kd.R_append_rows kP (w0 := W) W.heap.size rfl (.tmp 31) (.tmp 32) 106 108 (.agg #[.int .i64 0, .slice none 0 0]) 32 rfl Try.underlying106 infoPk rfl (by decide) (by decide) u6 [] l1 A1 n1 c1 (fun _ => True) (fun _ => False) rfl (by first | (go_simp; done) | (go_simp; rfl)) HR.out HA1.out (fun _ _ h => by rw [kP_open h]; exact kP_mkM _ _ _ _) (fun _ hk => hk.elim) (fun _ _ => trivial) HB.out HB.out.size (by omega) ?_; intro v9 w9 ho hb hg hat; have HR9 := Aside0.mk ho; have HB9 := Aside0.mk hb; clear ho hb hg hat)
          go_roundw
          case rel => exact ⟨1, _, rfl, ⟨Or.inr (Or.inl ⟨rfl, (List.nil_append _).symm⟩)⟩, HR9, HB9⟩
          case measure => simp [intOf]
        · clear HK
          have hln : (l1 : List Pk).length + n2 ≤ 800000 := by have := HE1.out; omega
          go_wp2_with ((with_reducible refine gate_builtin (b := .append) (xs := #[.tmp 31, .tmp 32]) rfl ?_); at_builtin; refine Kd.R_append_rows kP (w0 := W) W.heap.size rfl (.tmp 31) (.tmp 32) 106 108 (.agg #[.int .i64 0, .slice none 0 0]) 32 rfl Try.underlying106 infoPk rfl (by decide) (by decide) u6 l1 l2 A2 n2 c2 (fun _ => True) (fun _ => False) rfl (by first | (go_simp; done) | (go_simp; rfl)) HR.out HA2.out (fun _ _ h => by rw [kP_open h]; exact kP_mkM _ _ _ _) (fun _ hk => hk.elim) (fun _ _ => trivial) HB.out HB.out.size (by omega) ?_; intro v9 w9 ho hb hg hat; have HR9 := Aside0.mk ho; have HB9 := Aside0.mk hb; clear ho hb hg hat)
          go_roundw
          case rel => exact ⟨2, _, rfl, ⟨Or.inr (Or.inr ⟨rfl, rfl⟩)⟩, HR9, HB9⟩
          case measure => simp [intOf]
        · clear HK
          go_wp2_with fail
          go_ret
          exact ⟨_, rfl, HR.out, HB.out⟩
end Go.Proofs.Ytaghmhcccighgaa.HF
end
section
/- The rows of Lengths: coins and packs with the rows of their symbols. -/
namespace Go.Proofs.Ytaghmhcccighgaa.HF
open Go.RowKit Go.Proofs.YtaghmhcccighgaaW.PrintWords Go.Proofs.YtaghmhcccighgaaW.PrintLast Go.Proofs.YtaghmhcccighgaaW.PrintMore Go.Proofs.Ytaghmhcccighgaa.HW Go.Proofs.Ytaghmhcccighgaa.MB Go.Proofs.Ytaghmhcccighgaa.Fn
/-- The row of a pack's symbols. -/
def PO (w : World) (B : Nat) (ok : Nat → Prop) (p : Pk) : Prop := (Kd.int .i64).R 3 w B ok (.slice p.A p.n p.c) p.of
theorem PO.below {w w' : World} {B : Nat} {ok : Nat → Prop} {p : Pk} (h : PO w B ok p) (hb : Below w.heap.size w w') : PO w' B ok p := Kd.R_below h hb
theorem PO.reads {w : World} {B : Nat} {ok : Nat → Prop} {p : Pk} (h : PO w B ok p) : p.n = p.of.length ∧ p.n ≤ p.c ∧ (Kd.int .i64).C w p.A p.n p.of := by
  have h1 := Kd.R_reads' h
  exact ⟨h1.1, h1.2.1, by rw [h1.1]; exact h1.2.2⟩
/-- A row of packs was written. -/
theorem PO.grown {w w' : World} {B : Nat} {ok : Nat → Prop} {p : Pk} {v : Value} (h : PO w B ok p) (hty : ∀ k, v.ownBlock = some k → ∃ cells, w.heap[k]? = some (.cells cells 108 (0, 0))) (hg : w.grownBy w' v.ownBlock) : PO w' B ok p :=
  Kd.R_over' h hty (by decide) hg
theorem PO.fr {w w' : World} {B g : Nat} {ok : Nat → Prop} {p : Pk} (h : PO w B ok p) (hty : ∃ cells, w.heap[g]? = some (.cells cells 108 (0, 0))) (hf : Fr (fun k => k = g) w w') : PO w' B ok p := by
  have h1 := Kd.R_apart' (v := .slice (some ⟨g, 0, none⟩) 0 0) h (fun k hk => by
    have : g = k := by simpa [Value.ownBlock] using hk
    subst this
    exact hty) (by decide)
  exact Kd.R_mono (Kd.R_step h1 (fun k hk hlt => hf.block k hlt (fun e => hk.2 (by rw [e]; rfl)))) (fun _ hk => hk.1)
/-- A row of one number. -/
theorem lit_row {w : World} {B : Nat} (hB : B ≤ w.heap.size) (i : Int) : (Kd.int .i64).R 3 (w.alloc (.cells #[.int .i64 i] 3)) B (fun _ => True) (.slice (some ⟨w.heap.size, 0, none⟩) 1 1) [i] := by
  refine ⟨fun _ _ => trivial, [.int .i64 i], ?_, ⟨rfl, fun j p hj => ?_⟩⟩
  · have h2 := World.ownsRow_lit (base := B) (e := 3) (size := 1) w #[.int .i64 i] 1 hB (by decide) rfl
    exact h2
  · match j, hj with
    | 0, hj =>
      simp at hj
      subst hj
      rfl
/-- The coins so far. -/
structure L1 (W w : World) (v : Value) (l : List Int) (xs : List Pk) : Prop where
  be : Below W.heap.size W w
  ro : kP.R 108 w W.heap.size (fun _ => True) v xs
  po : ∀ p ∈ xs, PO w W.heap.size (fun _ => True) p
  ab : xs.map Pk.abs = coinsF 0 l
theorem L1.start (W : World) : L1 W W (.slice none 0 0) [] [] := ⟨Below.refl _ _, Kd.R_nil _ _ _ _ _, (fun p hp => by cases hp), rfl⟩
theorem L1.skip {W w : World} {v : Value} {l : List Int} {f : Int} {xs : List Pk} (h : L1 W w v l xs) (hf : ¬ 0 < f) : L1 W w v (l ++ [f]) xs := ⟨h.be, h.ro, h.po, by rw [coinsF_snoc, if_neg hf, List.append_nil]; exact h.ab⟩
theorem L1.add {W w w' : World} {v v' : Value} {l : List Int} {f : Int} {xs : List Pk} (h : L1 W w v l xs) (hf : 0 < f)
    (ho : kP.R 108 w' W.heap.size (fun _ => True) v' (xs ++ [⟨f, some ⟨w.heap.size, 0, none⟩, 1, 1, [(l.length : Int)]⟩])) (hb : Below W.heap.size W w') (hg : (w.alloc (.cells #[.int .i64 (l.length : Int)] 3)).grownBy w' v.ownBlock) :
    L1 W w' v' (l ++ [f]) (xs ++ [⟨f, some ⟨w.heap.size, 0, none⟩, 1, 1, [(l.length : Int)]⟩]) := by
  have hro := Kd.R_alloc h.ro (.cells #[.int .i64 (l.length : Int)] 3)
  refine ⟨hb, ho, fun p hp => ?_, ?_⟩
  · rcases List.mem_append.1 hp with hp | hp
    · exact PO.grown (Kd.R_alloc (h.po p hp) _) (Kd.R_typed hro) hg
    · rw [List.mem_singleton.1 hp]
      exact PO.grown (lit_row h.be.size _) (Kd.R_typed hro) hg
  · rw [coinsF_snoc, if_pos hf, List.map_append, h.ab]
    congr 1
    show [(f, [(l.length : Int)])] = [(f, [0 + (l.length : Int)])]
    rw [Int.zero_add]
theorem coins_one : ∀ (l : List Int) (i : Int), ∀ p ∈ coinsF i l, ∃ j, p.2 = [j]
  | [], _ => fun p hp => by cases hp
  | f :: r, i => fun p hp => by
    unfold coinsF at hp
    split at hp
    · rcases List.mem_cons.1 hp with rfl | hp
      · exact ⟨i, rfl⟩
      · exact coins_one r (i + 1) p hp
    · exact coins_one r (i + 1) p hp
/-- The coins, and the lengths so far. -/
structure L2 (W w : World) (v vo : Value) (ob : Nat) (xs : List Pk) (zs : List Int) : Prop where
  be : Below W.heap.size W w
  ro : kP.R 108 w W.heap.size (fun _ => True) v xs
  ou : (Kd.int .i64).R 3 w W.heap.size (fun _ => True) vo zs
  po : ∀ p ∈ xs, PO w W.heap.size (fun k => k ≠ ob) p
  vb : vo.ownBlock = some ob
theorem L1.made {W w w' : World} {v vo : Value} {l : List Int} {xs : List Pk} {zs : List Int} {b : Nat} (h : L1 W w v l xs) (ho : (Kd.int .i64).R 3 w' W.heap.size (fun _ => True) vo zs) (hb : Below W.heap.size W w') (hg : w.grownBy w' none)
    (h1 : vo.ownBlock = some b) (h2 : w.heap.size ≤ b) : L2 W w' v vo b xs zs := by
  have hbe : Below w.heap.size w w' := ⟨hg.os, hg.tape, hg.output, hg.size, fun k hk => hg.block k hk (by simp)⟩
  exact ⟨hb, Kd.R_below h.ro hbe, ho, fun p hp => Kd.R_mono (Kd.R_below (Kd.R_bound (h.po p hp)) hbe) (fun k hk => by have := hk.2.2.1; omega), h1⟩
theorem L2.below {W w w' : World} {v vo : Value} {ob : Nat} {xs : List Pk} {zs : List Int} (h : L2 W w v vo ob xs zs) (hb : Below w.heap.size w w') : L2 W w' v vo ob xs zs :=
  ⟨h.be.trans (hb.mono h.be.size), Kd.R_below h.ro hb, Kd.R_below h.ou hb, fun p hp => (h.po p hp).below hb, h.vb⟩
/-- A row of numbers stays where a row of packs is sorted. -/
theorem int_fr {w w' : World} {B g : Nat} {ok : Nat → Prop} {v : Value} {zs : List Int} (h : (Kd.int .i64).R 3 w B ok v zs) (hty : ∃ cells, w.heap[g]? = some (.cells cells 108 (0, 0))) (hf : Fr (fun k => k = g) w w') : (Kd.int .i64).R 3 w' B ok v zs := by
  have h1 := Kd.R_apart' (v := .slice (some ⟨g, 0, none⟩) 0 0) h (fun k hk => by
    have : g = k := by simpa [Value.ownBlock] using hk
    subst this
    exact hty) (by decide)
  exact Kd.R_mono (Kd.R_step h1 (fun k hk hlt => hf.block k hlt (fun e => hk.2 (by rw [e]; rfl)))) (fun _ hk => hk.1)
theorem L2.sorted {W w w' : World} {vo : Value} {g n c ob : Nat} {xs ys : List Pk} {zs : List Int} (h : L2 W w (.slice (some ⟨g, 0, none⟩) n c) vo ob xs zs) (hs : SD w w' W.heap.size g n c ys) (hp : ys.Perm xs) : L2 W w' (.slice (some ⟨g, 0, none⟩) n c) vo ob ys zs := by
  have hty := Kd.R_typed h.ro g rfl
  refine ⟨h.be.trans (hs.fr.below h.be.size (fun k hk => ?_)), hs.ro, int_fr h.ou hty hs.fr, fun p hm => (h.po p (hp.mem_iff.1 hm)).fr hty hs.fr, h.vb⟩
  rw [hk]
  exact Kd.R_base h.ro g rfl
/-- The coins, the level's row, the lengths so far. -/
structure L3 (W w : World) (vc va vo : Value) (ob : Nat) (cs ys : List Pk) (zs : List Int) : Prop where
  co : L2 W w vc vo ob cs zs
  al : kP.R 108 w W.heap.size (fun _ => True) va ys
  pa : ∀ p ∈ ys, PO w W.heap.size (fun k => k ≠ ob) p
theorem L3.below {W w w' : World} {vc va vo : Value} {ob : Nat} {cs ys : List Pk} {zs : List Int} (h : L3 W w vc va vo ob cs ys zs) (hb : Below w.heap.size w w') : L3 W w' vc va vo ob cs ys zs :=
  ⟨h.co.below hb, Kd.R_below h.al hb, fun p hp => (h.pa p hp).below hb⟩
theorem L3.start {W w : World} {vc vo : Value} {ob : Nat} {cs : List Pk} {zs : List Int} (h : L2 W w vc vo ob cs zs) : L3 W w vc vc vo ob cs cs zs := ⟨h, h.ro, h.po⟩
theorem L2.ob_lt {W w : World} {v vo : Value} {ob : Nat} {xs : List Pk} {zs : List Int} (h : L2 W w v vo ob xs zs) : ob < w.heap.size := Kd.R_lt h.ou ob h.vb
/-- The packs so far, behind the world w0 of the round's start. -/
structure L4 (w0 w : World) (vp : Value) (ps : List Pk) : Prop where
  be : Below w0.heap.size w0 w
  pk : kP.R 108 w w0.heap.size (fun _ => True) vp ps
  pp : ∀ p ∈ ps, PO w w0.heap.size (fun _ => True) p
theorem L4.start (w : World) : L4 w w (.slice none 0 0) [] := ⟨Below.refl _ _, Kd.R_nil _ _ _ _ _, (fun p hp => by cases hp)⟩
/-- The next level stands sorted. -/
theorem L3.next {W w0 w1 w2 w3 : World} {vc va vo vp : Value} {ob g n c : Nat} {cs ys ps us : List Pk} {zs : List Int} (h : L3 W w0 vc va vo ob cs ys zs) (h4 : L4 w0 w1 vp ps) (hb : Below w1.heap.size w1 w2) (hg : w1.heap.size ≤ g)
    (hs : SD w2 w3 W.heap.size g n c us) (hp : us.Perm (cs ++ ps)) : L3 W w3 vc (.slice (some ⟨g, 0, none⟩) n c) vo ob cs us zs := by
  have h13 : Below w1.heap.size w1 w3 := hb.trans (hs.fr.below hb.size (fun k hk => by rw [hk]; exact hg))
  have h03 : Below w0.heap.size w0 w3 := h4.be.trans (h13.mono h4.be.size)
  refine ⟨h.co.below h03, hs.ro, fun p hm => ?_⟩
  rcases List.mem_append.1 (hp.mem_iff.1 hm) with hm | hm
  · exact (h.co.po p hm).below h03
  · have h1 := Kd.R_bound ((h4.pp p hm).below h13)
    have hob := h.co.ob_lt
    exact Kd.R_lower (Kd.R_mono h1 (fun k hk => by have := hk.2.1; omega)) h.co.be.size
theorem L4.below {w0 w w' : World} {vp : Value} {ps : List Pk} (h : L4 w0 w vp ps) (hb : Below w.heap.size w w') : L4 w0 w' vp ps := ⟨h.be.trans (hb.mono h.be.size), Kd.R_below h.pk hb, fun p hp => (h.pp p hp).below hb⟩
theorem L4.add {w0 w w' : World} {vp v' : Value} {ps : List Pk} {q : Pk} (h : L4 w0 w vp ps) (hq : PO w w0.heap.size (fun _ => True) q) (ho : kP.R 108 w' w0.heap.size (fun _ => True) v' (ps ++ [q])) (hb : Below w0.heap.size w0 w') (hg : w.grownBy w' vp.ownBlock) : L4 w0 w' v' (ps ++ [q]) := by
  refine ⟨hb, ho, fun p hp => ?_⟩
  rcases List.mem_append.1 hp with hp | hp
  · exact PO.grown (h.pp p hp) (Kd.R_typed h.pk) hg
  · rw [List.mem_singleton.1 hp]
    exact PO.grown hq (Kd.R_typed h.pk) hg
/-- The last level's row, the lengths so far. -/
structure L5 (W w : World) (va vo : Value) (ob : Nat) (ys : List Pk) (zs : List Int) : Prop where
  be : Below W.heap.size W w
  al : kP.R 108 w W.heap.size (fun _ => True) va ys
  pa : ∀ p ∈ ys, PO w W.heap.size (fun k => k ≠ ob) p
  ou : (Kd.int .i64).R 3 w W.heap.size (fun _ => True) vo zs
  vb : vo.ownBlock = some ob
theorem L3.last {W w : World} {vc va vo : Value} {ob : Nat} {cs ys : List Pk} {zs : List Int} (h : L3 W w vc va vo ob cs ys zs) : L5 W w va vo ob ys zs := ⟨h.co.be, h.al, h.pa, h.co.ou, h.co.vb⟩
theorem L5.below {W w w' : World} {va vo : Value} {ob : Nat} {ys : List Pk} {zs : List Int} (h : L5 W w va vo ob ys zs) (hb : Below w.heap.size w w') : L5 W w' va vo ob ys zs :=
  ⟨h.be.trans (hb.mono h.be.size), Kd.R_below h.al hb, fun p hp => (h.pa p hp).below hb, Kd.R_below h.ou hb, h.vb⟩
theorem L5.set {W w w' : World} {va vo : Value} {ob : Nat} {ys : List Pk} {zs zs' : List Int} (h : L5 W w va vo ob ys zs) (ho : (Kd.int .i64).R 3 w' W.heap.size (fun _ => True) vo zs') (hg : w.grownBy w' vo.ownBlock) : L5 W w' va vo ob ys zs' := by
  refine ⟨h.be.grown hg h.be.size (Kd.R_base h.ou), Kd.R_over' h.al (Kd.R_typed h.ou) (by decide) hg, fun p hp => ?_, ho, h.vb⟩
  exact Kd.R_grown (h.pa p hp) hg (fun k hk e => hk (by rw [h.vb] at e; exact Option.some.inj e))
end Go.Proofs.Ytaghmhcccighgaa.HF
end
