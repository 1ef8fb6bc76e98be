/- HuffReads, walked: symbols out of any bits are the document's. -/
import Derived.Test.YtmmoenleldcadaaHLaw
import Derived.Test.YtmmoenleldcadaaHShHuf
namespace Go.Proofs.Ytmmoenleldcadaa.HF
open Go.RowKit Go.Proofs.YtmmoenleldcadaaW.PrintWords Go.Proofs.YtmmoenleldcadaaW.PrintLast Go.Proofs.YtmmoenleldcadaaW.PrintMore Go.Proofs.Ytmmoenleldcadaa.HW Go.Proofs.Ytmmoenleldcadaa.MB Go.Proofs.Ytmmoenleldcadaa.Fn Go.Proofs.Ytmmoenleldcadaa.HP
attribute [local go_sem] max2_int min2_int max_two min_two max_three min_three max_four min_four   -- for this text's walks alone
/-- The state of HuffReads. -/
structure RdS (W w : World) (B t g : Nat) (l : List Int) (lv wv sv vw : Value) (s : ByteArray) (a : Nat) : Prop where
  tb : IsTab w B t l lv wv sv
  rd : IsR w g s a
  le : a ≤ 8 * s.size
  gg : W.heap.size ≤ g
  cw : Kd.R (Kd.int .i64) 3 w W.heap.size (fun _ => True) vw (codesL l)
  be : Below W.heap.size W w
theorem RdS.below {W w w' : World} {B t g : Nat} {l : List Int} {lv wv sv vw : Value} {s : ByteArray} {a : Nat} (h : RdS W w B t g l lv wv sv vw s a) (hb : Below w.heap.size w w') : RdS W w' B t g l lv wv sv vw s a :=
  ⟨h.tb.below hb, h.rd.keep (Fr.of_below_all hb (fun _ => False)) (fun h => h), h.le, h.gg, row_keep h.cw (fun k _ hk => hb.block k hk), h.be.trans (hb.mono h.be.size)⟩
theorem RdS.read {W w w' : World} {B t g : Nat} {l : List Int} {lv wv sv vw : Value} {s : ByteArray} {a a' : Nat} (h : RdS W w B t g l lv wv sv vw s a) (hr : IsR w' g s a') (ha : a' ≤ 8 * s.size) (hf : Fr (fun k => k = g) w w') : RdS W w' B t g l lv wv sv vw s a' :=
  ⟨h.tb.keepR h.rd hf, hr, ha, h.gg, row_keep h.cw (fun k e hk => hf.block k hk (fun e2 => Kd.R_ne h.cw h.rd (by decide) (by rw [e, e2]))), h.be.trans (hf.below h.be.size (fun k hk => by rw [hk]; exact h.gg))⟩
set_option maxRecDepth 100000 in
set_option maxHeartbeats 8000000 in
theorem hreads_walk (A0 : Option Addr) (c0 : Nat) (l : List Int) (s : ByteArray) (hs : s.size ≤ 140737488351232) (n : Int) (_wn : (Lit.int .i64 n).wf = true) (W : World) (hr : Kd.C (Kd.int .i64) W A0 l.length l) (hc : l.length ≤ c0) (_ok : HR.shInts.ok l) :
    Calls Try.prog 8 #[.slice A0 l.length c0, .string s, .int .i64 n] W fun e w' => e = .returned (.bool true) ∧ Below W.heap.size W w' := by
  have HR := Aside0.mk hr
  have HCC := Aside0.mk hc
  have HC := Aside0.mk (newTable_ok A0 c0 l W hr hc)
  have HSZ := Aside0.mk (show s.size ≤ 1000000000000000 by omega)
  clear hr hc _wn _ok hs
  go_enter Try.func8, Try.ntmps8
  go_wp2_with fail
  refine HC.out.mono ?_
  rintro e w1 ⟨hn1, hn2, hb1⟩
  have HB1 := Aside0.mk hb1
  have HM := Aside0.mk (may_any A0 c0 l w1 (Kd.C_below HR.out hb1) HCC.out)
  cases ho : okL l with
  | false =>
    rw [hn2 ho]
    rw [ho] at HM
    clear hn1 hn2 hb1 HC ho
    go_wp2_with fail
    refine HM.out.mono ?_
    rintro e w2 ⟨rfl, hb2⟩
    have HB2 := Aside0.mk (HB1.out.trans (hb2.mono HB1.out.size))
    have HA := Aside0.mk (awake_any w2)
    clear hb2 HM
    go_wp2_with fail
    refine HA.out.mono ?_
    rintro e w3 ⟨rfl, hb3⟩
    go_wp2_with fail
    go_ret
    exact ⟨rfl, HB2.out.trans (hb3.mono HB2.out.size)⟩
  | true =>
    obtain ⟨t, lv, wv, sv, rfl, hT⟩ := hn1 ho
    have HO := Aside0.mk ho
    have HT := Aside0.mk hT
    rw [ho] at HM
    clear hn1 hn2 hb1 HC ho hT
    go_wp2_with fail
    refine HM.out.mono ?_
    rintro e w2 ⟨rfl, hb2⟩
    have HT2 := Aside0.mk (HT.out.below hb2)
    have HB2 := Aside0.mk (HB1.out.trans (hb2.mono HB1.out.size))
    have HC3 := Aside0.mk (refCodes_any A0 c0 l w2 (Kd.C_below HR.out HB2.out) HCC.out HO.out)
    clear hb2 HM HT HB1
    go_wp2_with fail
    refine HC3.out.mono ?_
    rintro e w3 ⟨v3, rfl, hr3, hb3⟩
    obtain ⟨wA, wk, rfl⟩ := Kd.R_slice hr3
    rw [codesL_len] at hr3 ⊢
    have HT3 := Aside0.mk (HT2.out.below hb3)
    have HB3 := Aside0.mk (HB2.out.trans (hb3.mono HB2.out.size))
    have HW3 := Aside0.mk (Kd.R_lower hr3 HB2.out.size)
    have HC4 := Aside0.mk (newReader s w3)
    clear hr3 hb3 HC3 HT2 HB2
    go_wp2_with fail
    refine HC4.out.mono ?_
    rintro e w4 ⟨g, rfl, hg4, hr4, hb4⟩
    have HS4 := Aside0.mk (RdS.mk (W := W) (HT3.out.below hb4) hr4 (Nat.zero_le _) (Nat.le_trans HB3.out.size hg4) (row_keep HW3.out (fun k _ hk => hb4.block k hk)) (HB3.out.trans (hb4.mono HB3.out.size)))
    obtain ⟨m, hm0, hm7⟩ := and_any n 7 (by decide)
    have hm : Go.bits .and .i64 n 7 = (m : Int) := hm0
    have HC5 := Aside0.mk (refBits_any s HSZ.out 0 m (Nat.zero_le _) (by omega) w4)
    have HM7 := Aside0.mk hm7
    obtain ⟨fb, hfb⟩ : ∃ fb, decide (0 + m ≤ 8 * s.size) = fb := ⟨_, rfl⟩
    rw [hfb] at HC5
    have HFB := Aside0.mk hfb
    clear hfb
    obtain ⟨xv, hxv⟩ : ∃ xv, (if 8 * s.size < 0 + m then (0 : Int) else ((nb (sbit s) 0 m : Nat) : Int)) = xv := ⟨_, rfl⟩
    rw [hxv] at HC5
    clear hxv
    clear hg4 hr4 hb4 HC4 HT3 HB3 HW3 hm7 hm0
    go_wp2_with fail
    refine HC5.out.mono ?_
    rintro e w5 ⟨rfl, hb5⟩
    have HS5 := Aside0.mk (HS4.out.below hb5)
    clear hb5 HC5 HS4
    go_upto_if 65 with (fail)
    go_cut [12, 13] (fun v12 _ w => ∃ a : Nat, v12 = .int .i64 a ∧ Aside0 (RdS W w W.heap.size t g l lv wv sv (.slice wA l.length wk) s a))
    case first =>
      cases fb with
      | true =>
        have hfit : 0 + m ≤ 8 * s.size := of_decide_eq_true HFB.out
        have HC6 := Aside0.mk (r_ok g s 0 m w5 HS5.out.rd HSZ.out (by have := HM7.out; omega) hfit)
        have HF := Aside0.mk hfit
        clear hfit
        go_wp2_with fail
        refine HC6.out.mono ?_
        rintro e w6 ⟨rfl, hr6, hf6⟩
        rw [Nat.zero_add] at hr6
        have HS6 := Aside0.mk (HS5.out.read hr6 (by have := HF.out; omega) hf6)
        clear hr6 hf6 HC6
        go_wp2_with fail
        go_meet
        case rel => exact ⟨m, rfl, HS6⟩
      | false =>
        go_wp2_with fail
        go_meet
        case rel => exact ⟨0, rfl, HS5⟩
    case rest =>
      clear HS5 hm HM7
      obtain ⟨a0, rfl, HS⟩ := hcut
      go_wp2_with fail
      go_loopw [12, 15] (fun v12 v15 wr => ∃ a k : Nat, v12 = .int .i64 a ∧ v15 = .int .i64 k ∧ k ≤ 100 ∧ Aside0 (RdS W wr W.heap.size t g l lv wv sv (.slice wA l.length wk) s a)) (fun _ v15 _ => 100 - (intOf v15).toNat)
      case atStart => exact ⟨a0, 0, rfl, rfl, by decide, HS⟩
      case round =>
        clear HS
        obtain ⟨a, k, rfl, rfl, hk, HS⟩ := hrel
        by_cases hlt : k < 100
        · have hb1 : decide ((k : Int) < 100) = true := by simp; omega
          have hk1 : (k : Int) < 100 := by omega
          have HC6 := Aside0.mk (symbol_ok HS.out.tb HO.out HS.out.rd HSZ.out HS.out.le)
          have HK := Aside0.mk hlt
          clear hlt
          go_wp2_with fail
          refine HC6.out.mono ?_
          rintro e w6 ⟨rfl, hr6, hf6⟩
          have HS6 := Aside0.mk (HS.out.read hr6 (symF_le l s a HS.out.le) hf6)
          have HC7 := Aside0.mk (refSym_any A0 c0 l wA wk s a w6 (Kd.C_below HR.out HS6.out.be) HCC.out (by have := (Kd.R_reads' HS6.out.cw).2.2; rw [codesL_len] at this; exact this) (Kd.R_reads' HS6.out.cw).2.1 HO.out HSZ.out HS.out.le)
          have HSL := Aside0.mk HS.out.le
          clear hr6 hf6 HC6 HS
          generalize hrr : symF l s a = r at *
          obtain ⟨y, e, p⟩ := r
          unfold symR at HC7
          simp only at HC7 ⊢
          by_cases he : e = 0
          · subst he
            rw [if_pos rfl] at HC7
            go_wp2_with fail
            refine HC7.out.mono ?_
            rintro e7 w7 ⟨rfl, hb7⟩
            have HS7 := Aside0.mk (HS6.out.below hb7)
            have HC8 := Aside0.mk (r_place g s p w7 HS7.out.rd)
            clear hb7 HC7 HS6
            go_wp2_with fail
            refine HC8.out.mono ?_
            rintro e8 w8 ⟨rfl, hr8, hf8⟩
            have HS8 := Aside0.mk (HS7.out.read hr8 HS7.out.le hf8)
            clear hr8 hf8 HC8 HS7
            go_wp2_with fail
            go_roundw
            case rel => exact ⟨p, k + 1, rfl, by simp, by have := HK.out; omega, HS8⟩
            case measure => simp [intOf]; have := HK.out; omega
          · rw [if_neg he] at HC7
            have he1 : decide (e = 0) = false := decide_eq_false he
            go_wp2_with fail
            refine HC7.out.mono ?_
            rintro e7 w7 ⟨rfl, hb7⟩
            have HS7 := Aside0.mk (HS6.out.below hb7)
            have HA := Aside0.mk (awake_any w7)
            clear hb7 HC7 HS6
            go_wp2_with fail
            refine HA.out.mono ?_
            rintro e8 w8 ⟨rfl, hb8⟩
            go_wp2_with fail
            go_ret
            exact ⟨rfl, HS7.out.be.trans (hb8.mono HS7.out.be.size)⟩
        · have hle : k = 100 := by omega
          subst hle
          have hb1 : decide ((100 : Int) < 100) = false := by decide
          have HA := Aside0.mk (awake_any wr)
          clear hlt
          go_wp2_with fail
          refine HA.out.mono ?_
          rintro e8 w8 ⟨rfl, hb8⟩
          go_wp2_with fail
          go_ret
          exact ⟨rfl, HS.out.be.trans (hb8.mono HS.out.be.size)⟩
end Go.Proofs.Ytmmoenleldcadaa.HF
