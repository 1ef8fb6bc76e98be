/- HuffWrites, walked: symbols are written by their words, and read as they were. -/
import Derived.Test.YtmmoenleldcadaaHWtS
import Derived.Test.YtmmoenleldcadaaHShHuf
import Derived.Deep.RegionWith
import Derived.Deep.RegionHeld3
namespace Go.Proofs.Ytmmoenleldcadaa.HF
open Go.RowKit Go.Proofs.YtmmoenleldcadaaW.PrintWords Go.Proofs.YtmmoenleldcadaaW.PrintLast Go.Proofs.YtmmoenleldcadaaW.PrintMore Go.Proofs.Ytmmoenleldcadaa.HW Go.Proofs.Ytmmoenleldcadaa.MB Go.Proofs.Ytmmoenleldcadaa.Fn Go.Proofs.Ytmmoenleldcadaa.HP
attribute [local go_sem] max2_int min2_int max_two min_two max_three min_three max_four min_four   -- for this text's walks alone
/-- What stands when the symbols were written. -/
def WrQ (W : World) (B t gw : Nat) (l : List Int) (lv wv sv vw : Value) (va vd : Value) (w : World) : Prop :=
  ∃ v xs, WtS W w B t gw l lv wv sv vw v va vd (wds l xs) (wds l xs) xs ∧ xs.length ≤ 2000 ∧ ∀ x ∈ xs, okS l x
set_option maxRecDepth 100000 in
set_option maxHeartbeats 16000000 in
theorem hwrites_walk (A0 : Option Addr) (c0 : Nat) (l : List Int) (A1 : Option Addr) (c1 : Nat) (m : List Int) (W : World) (hr : Kd.C (Kd.int .i64) W A0 l.length l) (hc : l.length ≤ c0) (_ok : HR.shInts.ok l) (hr1 : Kd.C (Kd.int .i64) W A1 m.length m) (_hc1 : m.length ≤ c1) (_ok1 : HR.shInts.ok m) :
    Calls Try.prog 10 #[.slice A0 l.length c0, .slice A1 m.length c1] W fun e w' => e = .returned (.bool true) ∧ Below W.heap.size W w' := by
  have HR := Aside0.mk hr
  have HR1 := Aside0.mk hr1
  have HCC := Aside0.mk hc
  have HC := Aside0.mk (newTable_ok A0 c0 l W hr hc)
  clear hr hc _ok hr1 _hc1 _ok1
  go_enter Try.func10, Try.ntmps10
  go_wp2_with fail
  refine HC.out.mono ?_
  rintro e w1 ⟨hn1, hn2, hb1⟩
  have HB1 := Aside0.mk hb1
  cases ho : okL l with
  | false =>
    rw [hn2 ho]
    have HM := Aside0.mk (may_any A0 c0 l w1 (Kd.C_below HR.out hb1) HCC.out)
    rw [ho] at HM
    clear hn1 hn2 hb1 HC ho
    go_wp2_with fail
    refine HM.out.mono ?_
    rintro e w2 ⟨rfl, hb2⟩
    have HB2 := Aside0.mk (HB1.out.trans (hb2.mono HB1.out.size))
    have HA := Aside0.mk (awake_any w2)
    clear hb2 HM
    go_wp2_with fail
    refine HA.out.mono ?_
    rintro e w3 ⟨rfl, hb3⟩
    go_wp2_with fail
    go_ret
    exact ⟨rfl, HB2.out.trans (hb3.mono HB2.out.size)⟩
  | true =>
    obtain ⟨t, lv, wv, sv, rfl, hT⟩ := hn1 ho
    have HO := Aside0.mk ho
    have HT := Aside0.mk hT
    have HC3 := Aside0.mk (refCodes_any A0 c0 l w1 (Kd.C_below HR.out HB1.out) HCC.out HO.out)
    clear hn1 hn2 hb1 HC ho hT
    go_wp2_with fail
    refine HC3.out.mono ?_
    rintro e w3 ⟨v3, rfl, hr3, hb3⟩
    obtain ⟨wA, wk, rfl⟩ := Kd.R_slice hr3
    rw [codesL_len] at hr3 ⊢
    have HT3 := Aside0.mk (HT.out.below hb3)
    have HB3 := Aside0.mk (HB1.out.trans (hb3.mono HB1.out.size))
    have HW3 := Aside0.mk (Kd.R_lower hr3 HB1.out.size)
    have HC4 := Aside0.mk (newWriter w3)
    clear hr3 hb3 HC3 HT HB1
    go_wp2_with fail
    refine HC4.out.mono ?_
    rintro e w4 ⟨rfl, hi4, hb4⟩
    obtain ⟨gw, hgw⟩ : ∃ gw, w3.heap.size = gw := ⟨_, rfl⟩
    have HS4 := Aside0.mk (WtS.mk (W := W) (w := w4) (va := .slice none 0 0) (vd := .slice none 0 0) (al := []) (xs := []) (HT3.out.below hb4) (fun k hk => (HT3.out.lt k hk).2) hi4 (row_keep HW3.out (fun k _ hk => hb4.block k hk)) (fun k hk => Kd.R_lt HW3.out k hk) (Kd.R_nil _ _ _ _ _) (Kd.R_nil _ _ _ _ _) (fun k hk => by cases hk) (HB3.out.trans (hb4.mono HB3.out.size)) HB3.out.size)
    rw [hgw] at HS4
    rw [hgw]
    clear hi4 hb4 HC4 HT3 HB3 HW3 hgw
    by_cases hlong : 2000 < m.length
    · have hb0 : decide ((2000 : Int) < (m.length : Int)) = true := by simp; omega
      have hb0' : (2000 : Int) < (m.length : Int) := by omega
      have HA := Aside0.mk (awake_any w4)
      clear hlong
      go_wp2_with fail
      refine HA.out.mono ?_
      rintro e w5 ⟨rfl, hb5⟩
      go_wp2_with fail
      go_ret
      exact ⟨rfl, HS4.out.be.trans (hb5.mono HS4.out.be.size)⟩
    · have hb0 : decide ((2000 : Int) < (m.length : Int)) = false := by simp; omega
      have hb0' : ¬ (2000 : Int) < (m.length : Int) := by omega
      have HLM := Aside0.mk (show m.length ≤ 2000 by omega)
      clear hlong
      go_upto_block 0 with (fail)
      go_cut [10, 11, 12] (fun v10 v11 _ w => Aside0 (WrQ W W.heap.size t gw l lv wv sv (.slice wA l.length wk) v10 v11 w))
      case first =>
        go_wp2_with fail
        go_loopw [10, 11, 12] (fun v10 v11 v12 wr => ∃ (i : Nat) (v : Value) (xs : List Int), v12 = .int .i64 i ∧ i ≤ m.length ∧ Aside0 (WtS W wr W.heap.size t gw l lv wv sv (.slice wA l.length wk) v v10 v11 (wds l xs) (wds l xs) xs) ∧ Aside0 (xs.length ≤ i ∧ ∀ x ∈ xs, okS l x)) (fun _ _ v12 _ => m.length - (intOf v12).toNat)
        case atStart => exact ⟨0, _, [], rfl, Nat.zero_le _, HS4, ⟨Nat.le_refl _, fun x hx => by cases hx⟩⟩
        case round =>
          clear HS4
          obtain ⟨i, v, xs, rfl, hi, HS, HX⟩ := hrel
          by_cases hlt : i < m.length
          · have hb2 : decide ((i : Int) < (m.length : Int)) = true := by simp; omega
            obtain ⟨ad1, hA1, x0⟩ := Kd.at_int (Kd.C_below HR1.out HS.out.be) (i : Int) (by omega) (by omega)
            subst hA1
            simp only [Int.toNat_natCast] at x0
            have q1 : (0 : Int) ≤ (i : Int) := by omega
            have q2' : (i : Int) < (m.length : Int) := by omega
            have hi2000 : (i : Int) ≤ 2000 := by have := HLM.out; omega
            have HI := Aside0.mk hlt
            obtain ⟨x, hx⟩ : ∃ x, rd m (i : Int) = x := ⟨_, rfl⟩
            rw [hx] at x0
            clear hx hlt
            by_cases hok : okS l x
            · obtain ⟨n, L, c, rfl, hn, hL, h0, h15, hcx, hc15, hrl, hrc, hwd⟩ := okS_open HO.out hok
              have HOK := Aside0.mk hok
              have HC5 := Aside0.mk (put_ok (l := wds l xs) HS.out.tb HS.out.iw (by have := wds_len HO.out xs HX.out.2; have := HX.out.1; have := HLM.out; omega) (Nat.le_trans (Nat.le_of_lt HS.out.iw.lt) (Nat.le_refl _)) n c L hn hrl h0 h15 hrc (Nat.lt_of_lt_of_le hc15 (by decide)) (okL_len HO.out).1)
              have hb3 : decide ((n : Int) < 0) = false := decide_eq_false (by omega)
              have hb3' : ¬ (n : Int) < 0 := by omega
              have hb4 : decide ((l.length : Int) ≤ (n : Int)) = false := decide_eq_false (by omega)
              have hb4' : ¬ (l.length : Int) ≤ (n : Int) := by omega
              have hb5 : decide ((L : Int) = 0) = false := decide_eq_false (by omega)
              have hb5' : ¬ (L : Int) = 0 := by omega
              have hb4n : decide (l.length ≤ n) = false := decide_eq_false (by omega)
              have hb5b : ((L : Int) == 0) = false := by rw [beq_eq_false_iff_ne]; exact hb5'
              have hn0 : (0 : Int) ≤ (n : Int) := by omega
              have hn1 : (n : Int) < (l.length : Int) := by omega
              have HN := Aside0.mk hn
              have HLC := Aside0.mk (And.intro hrl (And.intro hrc (And.intro h15 hc15)))
              have HWD := Aside0.mk hwd
              clear hok hn hL h0 hcx hwd hrl hrc h15 hc15
              go_wp2_with fail
              refine HC5.out.mono ?_
              rintro e w5 ⟨rfl, v5, hi5, hf5, _⟩
              have HS5 := Aside0.mk (HS.out.put hi5 hf5)
              clear hi5 hf5 HC5 HS x0
              have HCL := Aside0.mk (fun (w' : World) (hb : Below gw w5 w') => show (∃ ad, A0 = some ad ∧ w'.cell? (ad.add n) = some (.int .i64 (L : Int))) ∧ ∃ ad, wA = some ad ∧ w'.cell? (ad.add n) = some (.int .i64 (c : Int)) from by
                have hbW : Below W.heap.size W w' := HS5.out.be.trans (hb.mono HS5.out.ge)
                obtain ⟨ad, hA, h0⟩ := Kd.at_int (Kd.C_below HR.out hbW) (n : Int) (by omega) (by omega)
                have hrow := row_keep (W' := w') HS5.out.cw (fun k e hk => hb.block k (HS5.out.cl k e))
                have hrow2 := (Kd.R_reads' hrow).2.2
                obtain ⟨ad2, hA2, h2⟩ := Kd.at_int hrow2 (n : Int) (by omega) (by rw [codesL_len]; have := HN.out; omega)
                rw [HLC.out.1, Int.toNat_natCast] at h0
                rw [HLC.out.2.1, Int.toNat_natCast] at h2
                exact ⟨⟨ad, hA, h0⟩, ad2, hA2, h2⟩)
              obtain ⟨⟨ad0, hA0, x0⟩, adw, hAw, x1⟩ := HCL.out w5 (Below.refl _ _)
              subst hA0 hAw
              have HSS := Aside0.mk (fun (w' : World) (hb : Below gw w5 w') => show Below gw w5 w' ∧ w'.cell? (ad0.add n) = some (.int .i64 (L : Int)) ∧ w'.cell? (adw.add n) = some (.int .i64 (c : Int)) from by
                obtain ⟨⟨ad, hA, h0⟩, ad2, hA2, h2⟩ := HCL.out w' hb
                injection hA with hA
                injection hA2 with hA2
                subst hA hA2
                exact ⟨hb, h0, h2⟩)
              clear HCL
              go_upto_region 20 with (fail)
              have b0 : Below gw w5 w5.drew := below_drew (Below.refl gw w5)
              have HLEN := Aside0.mk (show (ib (wds l xs)).length ≤ 30000 ∧ (ib (wordB c L)).length ≤ 15 by
                rw [ib_length, ib_length, wordB_len]
                have := wds_len HO.out xs HX.out.2
                have := HX.out.1
                have := HLM.out
                have := HLC.out.2.2.1
                omega)
              go_region_held3 (fun w' => Below gw w5 w' ∧ w'.cell? (ad0.add n) = some (.int .i64 (L : Int)) ∧ w'.cell? (adw.add n) = some (.int .i64 (c : Int))) ((exact HSS.out _ (by assumption))) ((first | (go_at_call 32; refine (refWord_any c L (Nat.lt_of_lt_of_le HLC.out.2.2.2 (by decide)) HLC.out.2.2.1 _).mono ?_; rintro e w8 ⟨v8, rfl, hr8, hb8⟩; obtain ⟨A8, c8, e8⟩ := Kd.R_slice hr8; subst e8; have HR8 := Aside0.mk hr8; have HS8 := Aside0.mk (HS5.out.below ((below_drew (Below.refl w5.heap.size w5)).trans hb8)); have b8 := b0.trans (hb8.mono (Nat.le_of_lt HS5.out.iw.lt)); clear hr8 hb8) | (refine Kd.R_append_rows_step (Kd.int .i64) (w0 := w8) (W := w8) gw (by rfl) (.tmp 87) (.tmp 96) 22 3 (.int .i64 0) 8 (by rfl) Try.underlying22 info3 rfl (by decide) (by decide) u10 (ib (wds l xs)) (ib (wordB c L)) A8 (ib (wordB c L)).length c8 (fun _ => True) (fun _ => False) (by rfl) (by rfl) HS8.out.ra (Kd.R_reads' HR8.out).2.2 (fun _ _ h => h) (fun _ hk => hk.elim) (fun _ _ => trivial) (Below.refl _ _) (Nat.le_of_lt HS8.out.iw.lt) (by have := HLEN.out; omega) ?_; intro v9 w9 ho hb hg hat; have b9 := b8.trans hb; have HS9 := Aside0.mk (HS8.out.appA (al' := wds l xs ++ wordB c L) (by rw [ib_append]; exact ho) hg hat); clear ho hb hg hat)))
              rename_i hHeld
              clear hHeld HSS b0 b8 b9 x0 x1
              have HXL := Aside0.mk (show xs.length ≤ 2000 by have := HX.out.1; have := HLM.out; omega)
              go_wp2_with ((with_reducible refine gate_builtin (b := .append) (xs := #[.tmp 98, .tmp 100]) rfl ?_); at_builtin; go_must (refine Kd.R_append (Kd.int .i64) (w0 := w9) gw rfl (.tmp 98) (.tmp 100) 22 3 (.int .i64 0) 8 rfl Try.underlying22 info3 rfl (by decide) (by decide) u11 xs (n : Int) [.int .i64 (n : Int)] (fun _ => True) (fun _ => False) rfl rfl ?aP (fun _ hk => hk.elim) ?aF ?aO ?aB ?aS ?aL ?_); (case aP => exact rfl); (case aF => exact (fun _ _ => trivial)); (case aO => exact HS9.out.rd); (case aB => exact Below.refl _ _); (case aS => exact Nat.le_of_lt HS9.out.iw.lt); (case aL => have := HXL.out; omega); intro v10 w10 ho hb hg hat; have HS10 := Aside0.mk (HS9.out.appD ho hg hat); clear ho hb hg hat)
              go_roundw
              case rel => exact ⟨i + 1, v5, xs ++ [(n : Int)], by simp, by have := HI.out; omega, ⟨by rw [wds_snoc, HWD.out]; exact HS10.out⟩, ⟨by rw [List.length_append, List.length_singleton]; have := HX.out.1; omega, fun y hy => by
                rcases List.mem_append.1 hy with hy | hy
                · exact HX.out.2 y hy
                · rw [List.mem_singleton.1 hy]; exact HOK.out⟩⟩
              case measure => simp [intOf]; have := HI.out; omega
            · have HC5 := Aside0.mk (put_bad (g := gw) HS.out.tb x hok)
              by_cases hx1 : x < 0
              · have hb3 : decide (x < 0) = true := decide_eq_true hx1
                clear hok
                go_wp2_with fail
                refine HC5.out.mono ?_
                rintro e w5 ⟨rfl, rfl⟩
                go_wp2_with fail
                go_roundw
                case rel => exact ⟨i + 1, v, xs, by simp, by have := HI.out; omega, HS, ⟨by have := HX.out.1; omega, HX.out.2⟩⟩
                case measure => simp [intOf]; have := HI.out; omega
              · have hb3 : decide (x < 0) = false := decide_eq_false hx1
                by_cases hx2 : (l.length : Int) ≤ x
                · have hb4 : decide ((l.length : Int) ≤ x) = true := decide_eq_true hx2
                  clear hok
                  go_wp2_with fail
                  refine HC5.out.mono ?_
                  rintro e w5 ⟨rfl, rfl⟩
                  go_wp2_with fail
                  go_roundw
                  case rel => exact ⟨i + 1, v, xs, by simp, by have := HI.out; omega, HS, ⟨by have := HX.out.1; omega, HX.out.2⟩⟩
                  case measure => simp [intOf]; have := HI.out; omega
                · have hb4 : decide ((l.length : Int) ≤ x) = false := decide_eq_false hx2
                  have hx3 : rd l x = 0 := by
                    by_cases h : rd l x = 0
                    · exact h
                    · exact absurd ⟨by omega, by omega, h⟩ hok
                  obtain ⟨ad0, hA0, y0⟩ := Kd.at_int (Kd.C_below HR.out HS.out.be) x (by omega) (by omega)
                  subst hA0
                  rw [hx3] at y0
                  have hx0 : 0 ≤ x := by omega
                  have hx4 : x < (l.length : Int) := by omega
                  clear hok hx3
                  go_wp2_with fail
                  refine HC5.out.mono ?_
                  rintro e w5 ⟨rfl, rfl⟩
                  go_wp2_with fail
                  go_roundw
                  case rel => exact ⟨i + 1, v, xs, by simp, by have := HI.out; omega, HS, ⟨by have := HX.out.1; omega, HX.out.2⟩⟩
                  case measure => simp [intOf]; have := HI.out; omega
          · have hie : i = m.length := by omega
            subst hie
            have hb2 : decide ((m.length : Int) < (m.length : Int)) = false := by simp
            clear hlt
            go_wp2_with fail
            go_meet
            case rel => exact ⟨⟨v, xs, HS.out, by have := HX.out.1; have := HLM.out; omega, HX.out.2⟩⟩
      case rest =>
        clear HS4
        obtain ⟨v, xs, hS, hxl, hxo⟩ := hcut.out
        obtain ⟨aA, ac, rfl⟩ := Kd.R_slice hS.ra
        obtain ⟨dA, dc, rfl⟩ := Kd.R_slice hS.rd
        have HS := Aside0.mk hS
        have HXL := Aside0.mk hxl
        have HXO := Aside0.mk hxo
        have hbl := wds_len HO.out xs hxo
        have HTX := Aside0.mk (refText_any aA ac (wds l xs) (by omega) wc (by have := (Kd.R_reads' hS.ra).2.2; exact this) (Kd.R_reads' hS.ra).2.1)
        have HDN := Aside0.mk (w_done gw gw v (wds l xs) wc hS.iw)
        obtain ⟨nb, hnb⟩ : ∃ nb, (wds l xs).length = nb := ⟨_, rfl⟩
        rw [ib_length, hnb] at HTX ⊢
        have HNB := Aside0.mk hnb
        have HNBL := Aside0.mk (show nb ≤ 30000 by omega)
        clear hcut hS hxl hxo hbl hnb
        go_wp2_with fail
        refine HDN.out.mono ?_
        rintro e w5 ⟨s1, rfl, hs1, hw5⟩
        subst hw5
        have HS1 := Aside0.mk hs1
        clear hs1 HDN
        go_wp2_with fail
        refine HTX.out.mono ?_
        rintro e w6 ⟨s2, rfl, hs2, hb6⟩
        obtain rfl := told_unique hs2 HS1.out
        have HS6 := Aside0.mk (HS.out.below hb6)
        have HPL := Aside0.mk (w_place gw gw v (wds l xs) w6 HS6.out.iw)
        rw [HNB.out] at HPL
        clear hs2 hb6 HTX HS
        go_wp2_with fail
        refine HPL.out.mono ?_
        rintro e w7 ⟨rfl, hw7⟩
        subst hw7
        have HDN := Aside0.mk (w_done gw gw v (wds l xs) w6 HS6.out.iw)
        clear HPL
        go_wp2_with fail
        refine HDN.out.mono ?_
        rintro e w8 ⟨s3, rfl, hs3, hw8⟩
        subst hw8
        obtain rfl := told_unique hs3 HS1.out
        have HNR := Aside0.mk (newReader s3 w6)
        clear hs3 HDN
        go_wp2_with fail
        refine HNR.out.mono ?_
        rintro e w9 ⟨gr, rfl, hgr, hr9, hb9⟩
        have HS9 := HS6.out.below hb9
        have HR9 := Aside0.mk (RbS.mk (W := W) (B := W.heap.size) (gw := gw) (lv := lv) (wv := wv) (sv := sv) (xs := xs) (t := t) (l := l) HS9.tb hr9 HS9.rd (Nat.le_trans HS6.out.be.size hgr) HS9.be)
        have HSZ := Aside0.mk (show s3.size ≤ 1000000000000000 by have := HS1.out.1; have := HNB.out; have := HNBL.out; omega)
        clear hgr hr9 hb9 HS9 HNR HS6
        go_wp2_with fail
        go_loopw [16] (fun v16 wr => ∃ i : Nat, v16 = .int .i64 i ∧ i ≤ xs.length ∧ Aside0 (RbS W wr W.heap.size t gr gw l lv wv sv (.slice dA xs.length dc) xs s3 (wds l (xs.take i)).length)) (fun v16 _ => xs.length - (intOf v16).toNat)
        case atStart => exact ⟨0, rfl, Nat.zero_le _, ⟨by rw [List.take_zero]; exact HR9.out⟩⟩
        case round =>
          clear HR9
          obtain ⟨i, rfl, hi, HQ⟩ := hrel
          by_cases hlt : i < xs.length
          · have hb2 : decide ((i : Int) < (xs.length : Int)) = true := by simp; omega
            have hb2' : (i : Int) < (xs.length : Int) := by omega
            have hi0 : (0 : Int) ≤ (i : Int) := by omega
            have hi2000 : (i : Int) ≤ 2000 := by have := HXL.out; omega
            obtain ⟨hsym, hple⟩ := told_word HO.out HXO.out HS1.out i hlt
            rw [← rd_get xs i hlt] at hsym
            have HC6 := Aside0.mk (symbol_ok HQ.out.tb HO.out HQ.out.rd HSZ.out hple)
            unfold SyQ at HC6
            rw [hsym] at HC6
            have HI := Aside0.mk hlt
            have hrow := (Kd.R_reads' HQ.out.dn).2.2
            obtain ⟨x, hx⟩ : ∃ x, rd xs (i : Int) = x := ⟨_, rfl⟩
            have HXE := Aside0.mk hx
            rw [hx] at HC6
            clear hsym hple hlt hrow hx
            go_wp2_with fail
            refine HC6.out.mono ?_
            rintro e w10 ⟨rfl, hr10, hf10⟩
            have HQ2 := Aside0.mk (HQ.out.read hr10 hf10)
            have hrow := (Kd.R_reads' HQ2.out.dn).2.2
            obtain ⟨ad2, hA2, x2⟩ := Kd.at_int hrow (i : Int) (by omega) (by have := HI.out; omega)
            subst hA2
            rw [HXE.out] at x2
            simp only [Int.toNat_natCast] at x2
            clear hr10 hf10 HC6 HQ hrow
            go_wp2_with fail
            go_roundw
            case rel => exact ⟨i + 1, by simp, by have := HI.out; omega, HQ2⟩
            case measure => simp [intOf]; have := HI.out; omega
          · have hie : i = xs.length := by omega
            subst hie
            have hb2 : decide ((xs.length : Int) < (xs.length : Int)) = false := by simp
            have hpl := HQ.out.rd
            rw [List.take_length, HNB.out] at hpl
            have HC7 := Aside0.mk (r_place gr s3 nb wr hpl)
            clear hlt hpl
            go_wp2_with fail
            refine HC7.out.mono ?_
            rintro e w10 ⟨rfl, hr10, hf10⟩
            have HQ2 := Aside0.mk (HQ.out.read hr10 hf10)
            have HA := Aside0.mk (awake_any w10)
            clear hr10 hf10 HC7 HQ
            go_wp2_with fail
            refine HA.out.mono ?_
            rintro e w11 ⟨rfl, hb11⟩
            go_wp2_with fail
            go_ret
            exact ⟨rfl, HQ2.out.be.trans (hb11.mono HQ2.out.be.size)⟩
end Go.Proofs.Ytmmoenleldcadaa.HF
