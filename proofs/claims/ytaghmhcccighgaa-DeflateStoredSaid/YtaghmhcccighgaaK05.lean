/- Parts: HTbl2 HTKeep PRd PInf PInf3 PInf4 HLawI PInf2 HInfD HRq1 -/
import Derived.Test.YtaghmhcccighgaaK04
import Derived.Test.YtaghmhcccighgaaK03
import Derived.Test.YtaghmhcccighgaaK01
import Derived.Test.YtaghmhcccighgaaK02
set_option linter.unusedVariables false
set_option linter.unusedSimpArgs false
section
/- huff.NewTable: walked. -/
namespace Go.Proofs.Ytaghmhcccighgaa.HF
open Go.RowKit Go.Proofs.YtaghmhcccighgaaW.PrintWords Go.Proofs.YtaghmhcccighgaaW.PrintLast Go.Proofs.YtaghmhcccighgaaW.PrintMore Go.Proofs.Ytaghmhcccighgaa.HW Go.Proofs.Ytaghmhcccighgaa.MB Go.Proofs.Ytaghmhcccighgaa.Fn
attribute [local go_sem] max2_int min2_int max_two min_two max_three min_three max_four min_four   -- for this text's walks alone
def cntN (lens : List Int) (k : Nat) : Int := if k = 0 then 0 else cntL lens k
/-- Block t is the table of lengths; all of it lies from B on. -/
structure IsTab (W : World) (B t : Nat) (lens : List Int) (lv wv sv : Value) : Prop where
  bt : TabS W t lv wv (cntN lens) sv (lngT lens 15)
  ht : B ≤ t
  rl : Kd.R (Kd.int .i64) 3 W B (fun _ => True) lv lens
  nn : ∃ b, lv.ownBlock = some b
  rw : Kd.R (Kd.int .i64) 3 W B (fun _ => True) wv (codesL lens)
  rs : Kd.R (Kd.int .i64) 3 W B (fun _ => True) sv (symsT lens 15)
/-- What NewTable tells. -/
def NTQ (lens : List Int) (W : World) (e : Ending) (w' : World) : Prop :=
  (okL lens = true → ∃ t lv wv sv, e = .returned (.tuple #[.pointer (some ⟨t, 0, none⟩), .int .i64 0]) ∧ IsTab w' W.heap.size t lens lv wv sv) ∧ (okL lens = false → e = .returned (.tuple #[.pointer none, .int .i64 30])) ∧ Below W.heap.size W w'
theorem row_keep {W W' : World} {B : Nat} {v : Value} {xs : List Int} (h : Kd.R (Kd.int .i64) 3 W B (fun _ => True) v xs) (hb : ∀ k, v.ownBlock = some k → k < W.heap.size → W'.heap[k]? = W.heap[k]?) : Kd.R (Kd.int .i64) 3 W' B (fun _ => True) v xs :=
  Kd.R_mono (Kd.R_step (Kd.R_tight rfl h) (fun k hk hlt => hb k hk.symm hlt)) (fun _ _ => trivial)
/-- The state of NewTable. -/
structure NTS (W w : World) (t : Nat) (lens : List Int) (lv wv sv : Value) (f : Nat → Int) (ys : List Int) (g : Int) : Prop where
  be : Below W.heap.size W w
  bt : TabS w t lv wv f sv g
  ht : W.heap.size ≤ t
  rl : Kd.R (Kd.int .i64) 3 w W.heap.size (fun _ => True) lv lens
  rw : Kd.R (Kd.int .i64) 3 w W.heap.size (fun _ => True) wv (codesL lens)
  rs : Kd.R (Kd.int .i64) 3 w W.heap.size (fun _ => True) sv ys
  dl : ∀ k, sv.ownBlock = some k → lv.ownBlock ≠ some k ∧ wv.ownBlock ≠ some k
section
variable {W w : World} {t : Nat} {lens : List Int} {lv wv sv : Value} {f : Nat → Int} {ys : List Int} {g : Int}
theorem NTS.below {w' : World} (h : NTS W w t lens lv wv sv f ys g) (hb : Below w.heap.size w w') : NTS W w' t lens lv wv sv f ys g :=
  ⟨h.be.trans (hb.mono h.be.size), h.bt.below hb, h.ht, row_keep h.rl (fun k _ hk => hb.block k hk), row_keep h.rw (fun k _ hk => hb.block k hk), row_keep h.rs (fun k _ hk => hb.block k hk), h.dl⟩
theorem NTS.ne (h : NTS W w t lens lv wv sv f ys g) : lv.ownBlock ≠ some t ∧ wv.ownBlock ≠ some t ∧ sv.ownBlock ≠ some t :=
  ⟨fun e => Kd.R_ne h.rl h.bt (by decide) e.symm, fun e => Kd.R_ne h.rw h.bt (by decide) e.symm, fun e => Kd.R_ne h.rs h.bt (by decide) e.symm⟩
/-- A cell of the table itself is written. -/
theorem NTS.cell (h : NTS W w t lens lv wv sv f ys g) (i : Nat) (u : Value) {f' : Nat → Int} {g' : Int} (hb : TabS (w.setCell ⟨t, i, none⟩ u) t lv wv f' sv g') : NTS W (w.setCell ⟨t, i, none⟩ u) t lens lv wv sv f' ys g' := by
  have hn := h.ne
  have hk : ∀ k, k ≠ t → (w.setCell ⟨t, i, none⟩ u).heap[k]? = w.heap[k]? := fun k e => Below.heap_setCell _ _ _ _ e
  exact ⟨h.be.setCell h.ht _, hb, h.ht, row_keep h.rl (fun k e _ => hk k (fun e2 => hn.1 (by rw [e, e2]))), row_keep h.rw (fun k e _ => hk k (fun e2 => hn.2.1 (by rw [e, e2]))), row_keep h.rs (fun k e _ => hk k (fun e2 => hn.2.2 (by rw [e, e2]))), h.dl⟩
theorem NTS.set19 (h : NTS W w t lens lv wv sv f ys g) (m : Int) : NTS W (w.setCell ⟨t, 19, none⟩ (.int .i64 m)) t lens lv wv sv f ys m := h.cell 19 _ (h.bt.set19 m)
theorem NTS.setn0 (h : NTS W w t lens lv wv sv f ys g) (m : Int) : NTS W (w.setCell ⟨t, 2, none⟩ (.int .i64 m)) t lens lv wv sv (upd f 0 m) ys g := h.cell 2 _ (h.bt.setn0 m)
theorem NTS.congr {f' : Nat → Int} (h : NTS W w t lens lv wv sv f ys g) (e : ∀ k, k < 16 → f k = f' k) : NTS W w t lens lv wv sv f' ys g := ⟨h.be, h.bt.congr e, h.ht, h.rl, h.rw, h.rs, h.dl⟩
theorem NTS.arr (h : NTS W w t lens lv wv sv f ys g) (f' : Nat → Int) : NTS W (w.setCells t 2 (arrV f').toList) t lens lv wv sv f' ys g := by
  have hn := h.ne
  have hF := setCells_fr (g := t) (arrV f').toList 2 w
  have hlt := h.bt.lt
  exact ⟨h.be.trans (hF.below h.be.size (fun k hk => by rw [hk]; exact h.ht)), h.bt.setArr f', h.ht, row_keep h.rl (fun k e hk => hF.block k hk (fun e2 => hn.1 (by rw [e, e2]))), row_keep h.rw (fun k e hk => hF.block k hk (fun e2 => hn.2.1 (by rw [e, e2]))), row_keep h.rs (fun k e hk => hF.block k hk (fun e2 => hn.2.2 (by rw [e, e2]))), h.dl⟩
theorem empty_row {W : World} {b q : Nat} (hb : b ≤ q) (hq : W.heap[q]? = some (.cells #[] 3 (0, 0))) : Kd.R (Kd.int .i64) 3 W b (fun _ => True) (.slice (some ⟨q, 0, none⟩) 0 0) [] :=
  ⟨fun _ _ => trivial, [], ⟨by simp, .inr ⟨q, 0, #[], rfl, hb, hq, Nat.zero_le _, by decide, by simp, by simp⟩⟩, ⟨by simp, fun j p hj => by simp at hj⟩⟩
/-- The lengths' field is written anew: a row without elements that is not nil. -/
theorem NTS.set0 (h : NTS W w t [] lv wv (.slice none 0 0) f ys g) {q : Nat} (hq : w.heap[q]? = some (.cells #[] 3 (0, 0))) (hqW : W.heap.size ≤ q) : NTS W (w.setCell ⟨t, 0, none⟩ (.slice (some ⟨q, 0, none⟩) 0 0)) t [] (.slice (some ⟨q, 0, none⟩) 0 0) wv (.slice none 0 0) f ys g := by
  have hn := h.ne
  have hk : ∀ k, k ≠ t → (w.setCell ⟨t, 0, none⟩ (.slice (some ⟨q, 0, none⟩) 0 0)).heap[k]? = w.heap[k]? := fun k e => Below.heap_setCell _ _ _ _ e
  have hqt : q ≠ t := fun e => by
    have := h.bt
    unfold TabS at this
    rw [← e, hq] at this
    cases this
  exact ⟨h.be.setCell h.ht _, h.bt.set0 _, h.ht, empty_row hqW ((hk q hqt).trans hq), row_keep h.rw (fun k e _ => hk k (fun e2 => hn.2.1 (by rw [e, e2]))), row_keep h.rs (fun k e _ => hk k (fun e2 => hn.2.2 (by rw [e, e2]))), fun k hk => by cases hk⟩
theorem NTS.grownT {w1 : World} (h : NTS W w t lens lv wv sv f ys g) (hg : w.grownBy w1 sv.ownBlock) : TabS w1 t lv wv f sv g := (hg.block t h.bt.lt (fun e => h.ne.2.2 e.symm)).trans h.bt
/-- A symbol is appended: the grown row, then the field. -/
theorem NTS.app {w1 : World} {sv1 : Value} {zs : List Int} (h : NTS W w t lens lv wv sv f ys g) (ho : Kd.R (Kd.int .i64) 3 w1 W.heap.size (fun _ => True) sv1 zs) (hb : Below W.heap.size W w1) (hg : w.grownBy w1 sv.ownBlock) (hat : sv1.ownBlock = sv.ownBlock ∨ ∃ b, sv1.ownBlock = some b ∧ w.heap.size ≤ b) :
    NTS W (w1.setCell ⟨t, 18, none⟩ sv1) t lens lv wv sv1 f zs g := by
  have hn := h.ne
  have bt1 : TabS w1 t lv wv f sv g := (hg.block t h.bt.lt (fun e => hn.2.2 e.symm)).trans h.bt
  have dl1 : ∀ k, sv1.ownBlock = some k → lv.ownBlock ≠ some k ∧ wv.ownBlock ≠ some k := fun k hk => by
    rcases hat with e | ⟨b, e, hbb⟩
    · exact h.dl k (e ▸ hk)
    · rw [hk] at e
      injection e with e
      subst e
      exact ⟨fun e => by have := Kd.R_lt h.rl k e; omega, fun e => by have := Kd.R_lt h.rw k e; omega⟩
  have n1 : NTS W w1 t lens lv wv sv1 f zs g → NTS W (w1.setCell ⟨t, 18, none⟩ sv1) t lens lv wv sv1 f zs g := fun n => n.cell 18 _ (by have := n.bt.set18 sv1; exact this)
  have r1 := row_keep h.rl (W' := w1) (fun k e hk => hg.block k hk (fun e2 => (h.dl k e2.symm).1 e))
  have r2 := row_keep h.rw (W' := w1) (fun k e hk => hg.block k hk (fun e2 => (h.dl k e2.symm).2 e))
  have hk : ∀ k, k ≠ t → (w1.setCell ⟨t, 18, none⟩ sv1).heap[k]? = w1.heap[k]? := fun k e => Below.heap_setCell _ _ _ _ e
  have n3 : sv1.ownBlock ≠ some t := fun e => Kd.R_ne ho bt1 (by decide) e.symm
  exact ⟨hb.setCell h.ht _, bt1.set18 sv1, h.ht, row_keep r1 (fun k e _ => hk k (fun e2 => hn.1 (by rw [e, e2]))), row_keep r2 (fun k e _ => hk k (fun e2 => hn.2.1 (by rw [e, e2]))), row_keep ho (fun k e _ => hk k (fun e2 => n3 (by rw [e, e2]))), dl1⟩
end
set_option maxRecDepth 100000 in
set_option maxHeartbeats 8000000 in
theorem newTable_ok (A : Option Addr) (c : Nat) (lens : List Int) (W : World) (hr : Kd.C (Kd.int .i64) W A lens.length lens) (hc : lens.length ≤ c) : Calls Try.prog 50 #[.slice A lens.length c] W (NTQ lens W) := by
  have HR := Aside0.mk hr
  have hu := Try.underlying99
  have q1 := eql_some
  have q2 := eql_none
  have HCC := Aside0.mk hc
  have HC := Aside0.mk (codes_any A c lens W hr hc)
  clear hr hc
  go_enter Try.func50, Try.ntmps50
  go_wp2_with fail
  refine HC.out.mono ?_
  rintro e w1 ⟨v1, rfl, hr1, hb1⟩
  have HR1 := Aside0.mk hr1
  have HB1 := Aside0.mk hb1
  clear hr1 hb1 HC
  cases hok : okL lens with
  | false =>
    have HO := Aside0.mk hok
    clear hok
    simp only [if_false, Bool.false_eq_true]
    go_wp2_with fail
    go_ret2
    exact ⟨(fun h => by rw [HO.out] at h; cases h), fun _ => rfl, HB1.out⟩
  | true =>
    have HO := Aside0.mk hok
    have HCL := Aside0.mk (clone_ok A c lens w1 (Kd.C_below HR.out HB1.out)  (by have := (okL_len hok).1; omega))
    rw [hok] at HR1
    clear hok
    simp only [if_true] at HR1 ⊢
    obtain ⟨wA, wk, rfl⟩ := Kd.R_slice HR1.out
    rw [codesL_len] at HR1 ⊢
    go_wp2_with fail
    refine HCL.out.mono ?_
    rintro e w2 ⟨v2, rfl, hr2, hn2, hb2⟩
    obtain ⟨lA, lc, rfl⟩ := Kd.R_slice hr2
    have HR2 := Aside0.mk hr2
    have HN2 := Aside0.mk hn2
    have HB2 := Aside0.mk hb2
    clear hr2 hn2 hb2 HCL
    go_upto_region 5 with (fail)
    have HN0 := Aside0.mk (show NTS W (w2.alloc (.cells #[.slice lA lens.length lc, .slice wA lens.length wk, .int .i64 0, .int .i64 0, .int .i64 0, .int .i64 0, .int .i64 0, .int .i64 0, .int .i64 0, .int .i64 0, .int .i64 0, .int .i64 0, .int .i64 0, .int .i64 0, .int .i64 0, .int .i64 0, .int .i64 0, .int .i64 0, .slice none 0 0, .int .i64 0] 99)) w2.heap.size lens (.slice lA lens.length lc) (.slice wA lens.length wk) (.slice none 0 0) (fun _ => 0) [] 0 from by
      have hb := below_alloc (Below.refl w2.heap.size w2) (.cells #[.slice lA lens.length lc, .slice wA lens.length wk, .int .i64 0, .int .i64 0, .int .i64 0, .int .i64 0, .int .i64 0, .int .i64 0, .int .i64 0, .int .i64 0, .int .i64 0, .int .i64 0, .int .i64 0, .int .i64 0, .int .i64 0, .int .i64 0, .int .i64 0, .int .i64 0, .slice none 0 0, .int .i64 0] 99)
      have hbW : Below W.heap.size W w2 := HB1.out.trans (HB2.out.mono HB1.out.size)
      refine ⟨hbW.trans (hb.mono hbW.size), heap_alloc_new w2 _, hbW.size, row_keep (Kd.R_lower HR2.out HB1.out.size) (fun k _ hk => hb.block k hk), row_keep (Kd.R_below HR1.out (HB2.out)) (fun k _ hk => hb.block k hk), Kd.R_nil _ _ _ _ _, fun k hk => by cases hk⟩)
    obtain ⟨t, ht⟩ : ∃ t, w2.heap.size = t := ⟨_, rfl⟩
    rw [ht] at HN0
    rw [ht]
    clear ht
    generalize w2.alloc (.cells #[.slice lA lens.length lc, .slice wA lens.length wk, .int .i64 0, .int .i64 0, .int .i64 0, .int .i64 0, .int .i64 0, .int .i64 0, .int .i64 0, .int .i64 0, .int .i64 0, .int .i64 0, .int .i64 0, .int .i64 0, .int .i64 0, .int .i64 0, .int .i64 0, .int .i64 0, .slice none 0 0, .int .i64 0] 99) = w3 at HN0 ⊢
    have hc0 := HN0.out.bt.c0
    clear HR1 HR2 HB1 HB2
    have hq : (binOp .eql 48 (.slice lA lens.length lc) (.slice none 0 0)).run Try.prog w3 = .ok (.bool lA.isNone) w3 := Lib.run_eql_slice_nil w3 48 3 lA lens.length lc 0 0 Try.underlying48
    go_upto_if 27 with (fail)
    go_cut [] (fun w => ∃ lv : Value, Aside0 (∃ b, lv.ownBlock = some b) ∧ Aside0 (NTS W w t lens lv (.slice wA lens.length wk) (.slice none 0 0) (fun _ => 0) [] 0))
    case first =>
      clear hc0 hq
      cases lA with
      | none =>
        have hz : lens = [] := by
          rcases HN2.out with ⟨h1, _⟩ | ⟨b, hb⟩
          · subst h1; exact nil_empty HR.out
          · cases hb
        subst hz
        have hB3 := below_alloc (Below.refl w3.heap.size w3) (.cells #[] 3)
        have hN1 := HN0.out.below hB3
        have d0 := hN1.bt.c0
        have f0 := hN1.bt.fz 0
        have HN1 := Aside0.mk hN1
        clear hN1 hB3
        go_wp2_with fail
        go_meet
        case rel => exact ⟨_, ⟨⟨w3.heap.size, rfl⟩⟩, ⟨HN1.out.set0 (heap_alloc_new w3 _) HN0.out.be.size⟩⟩
      | some ad =>
        go_wp2_with fail
        go_meet
        case rel => exact ⟨_, ⟨⟨ad.block, rfl⟩⟩, HN0⟩
    case rest =>
      clear HN0 hc0 hq HN2
      obtain ⟨lv, HV, HN0⟩ := hcut
      have HC2 := Aside0.mk (counts_any A c lens wc (Kd.C_below HR.out HN0.out.be) HCC.out)
      go_wp2_with fail
      refine HC2.out.mono ?_
      rintro e w4 ⟨f, rfl, hf, hb4⟩
      have HF := Aside0.mk (hf HO.out)
      have HN1 := Aside0.mk (HN0.out.below hb4)
      clear hf hb4 HC2 HN0
      go_upto_region 8 with (first | ((with_reducible refine gate_store (t := 97) (p := 39) (v := .tmp 36) rfl ?_); go_must (refine store_seg rfl rfl rfl t 2 (tabC lv (.slice wA lens.length wk) (fun _ => 0) (.slice none 0 0) 0) (arrV f) 99 (by rfl) (by rfl) HN1.out.bt (by rw [arrV_size]; show 2 + 16 ≤ 20; omega) (by rw [arrV_size]; kernel_rfl) (arrV_one _) ?_)))
      have HN2 := Aside0.mk (HN1.out.arr f)
      clear HN1
      generalize w4.setCells t 2 (arrV f).toList = w5 at HN2 ⊢
      have c2 : w5.cell? ⟨t, 2, none⟩ = some (.int .i64 (f 0)) := HN2.out.bt.cn 0 (by omega)
      have f2 := HN2.out.bt.fz 2
      have HN3 := Aside0.mk ((HN2.out.setn0 0).congr (f' := cntN lens) (fun k hk => by
        unfold upd cntN
        by_cases h0 : k = 0
        · rw [if_pos h0, if_pos h0]
        · rw [if_neg h0, if_neg h0, HF.out k hk]
          exact if_neg h0))
      go_upto_region 9 with (fail)
      generalize w5.setCell ⟨t, 2, none⟩ (.int .i64 0) = w6 at HN3 ⊢
      clear c2 f2 HN2
      go_wp2_with fail
      go_loopw [7] (fun v7 wr => ∃ l : Nat, v7 = .int .i64 l ∧ 1 ≤ l ∧ l ≤ 16 ∧ ∃ sv, Aside0 (NTS W wr t lens lv (.slice wA lens.length wk) sv (cntN lens) (symsT lens (l - 1)) (lngT lens (l - 1)))) (fun v7 _ => 16 - (intOf v7).toNat)
      case atStart => exact ⟨1, rfl, by decide, by decide, _, HN3⟩
      case round =>
        clear HN3
        obtain ⟨l, rfl, hl1, hl2, sv, HN⟩ := hrel
        by_cases hlt : l ≤ 15
        · have hb1 : decide ((l : Int) ≤ 15) = true := by simp; omega
          go_wp2_with fail
          go_loopw [50] (fun v50 wr => ∃ i : Nat, v50 = .int .i64 i ∧ i ≤ lens.length ∧ ∃ sv, Aside0 (NTS W wr t lens lv (.slice wA lens.length wk) sv (cntN lens) (symsT lens (l - 1) ++ idxL lens l i) (lngI lens l i (lngT lens (l - 1))))) (fun v50 _ => lens.length - (intOf v50).toNat)
          case atStart => exact ⟨0, rfl, Nat.zero_le _, sv, ⟨by have := HN.out; rw [show idxL lens l 0 = [] from rfl, List.append_nil, lngI_zero]; exact this⟩⟩
          case round =>
            clear HN
            obtain ⟨i, rfl, hi, sv, HN⟩ := hrel
            by_cases hlt2 : i < lens.length
            · have hb2 : decide ((i : Int) < (lens.length : Int)) = true := by simp; omega
              obtain ⟨ad1, hA1, x0⟩ := Kd.at_int (Kd.C_below HR.out HN.out.be) (i : Int) (by omega) (by omega)
              subst hA1
              simp only [Int.toNat_natCast] at x0
              have q1 : (0 : Int) ≤ (i : Int) := by omega
              have q2' : (i : Int) < (lens.length : Int) := by omega
              have hgd : lens.getD i 0 = rd lens (i : Int) := by unfold rd; rw [Int.toNat_natCast]
              have HGD := Aside0.mk hgd
              have hi288 : (i : Int) ≤ 288 := by have := (okL_len HO.out).1; omega
              have HI := Aside0.mk hlt2
              clear hgd
              obtain ⟨x, hx⟩ : ∃ x, rd lens (i : Int) = x := ⟨_, rfl⟩
              rw [hx] at x0 HGD
              clear hx
              by_cases hxl : x = (l : Int)
              · have hb3 : decide (x = (l : Int)) = true := decide_eq_true hxl
                have hYL : (symsT lens (l - 1) ++ idxL lens l i).length ≤ 100000 := by
                  have h1 := symsT_len lens (l - 1)
                  have h2 := idxL_len lens l i
                  have h3 := (okL_len HO.out).1
                  have h4 : (l - 1) * lens.length ≤ 15 * 288 := Nat.mul_le_mul (by omega) h3
                  rw [List.length_append]
                  omega
                have HY := Aside0.mk hYL
                have HX := Aside0.mk hxl
                have c18 := HN.out.bt.c18
                clear hYL hlt2
                go_upto_region 17 with ((with_reducible refine gate_builtin (b := .append) (xs := #[.tmp 62, .tmp 64]) rfl ?_); at_builtin; go_must (refine Kd.R_append (Kd.int .i64) (w0 := W) W.heap.size rfl (.tmp 62) (.tmp 64) 48 3 (.int .i64 0) 8 rfl Try.underlying48 info3 rfl (by decide) (by decide) sv (symsT lens (l - 1) ++ idxL lens l i) (i : Int) [.int .i64 (i : Int)] (fun _ => True) (fun _ => False) rfl rfl ?aP (fun _ hk => hk.elim) ?aF ?aO ?aB ?aS ?aL ?_); go_must ((case aP => exact rfl)); go_must ((case aF => exact (fun _ _ => trivial))); go_must ((case aO => exact HN.out.rs)); go_must ((case aB => exact HN.out.be)); go_must ((case aS => exact HN.out.be.size)); go_must ((case aL => have := HY.out; omega)); intro v65 w7 ho hb hg hat; obtain ⟨zs, hzs⟩ : ∃ z, symsT lens (l - 1) ++ idxL lens l i ++ [(i : Int)] = z := ⟨_, rfl⟩; rw [hzs] at ho; obtain ⟨A65, c65, rfl⟩ := Kd.R_slice ho; have HZ := Aside0.mk hzs; clear hzs; go_must (have hT7 := HN.out.grownT hg); have c18b := hT7.c18; have f18b := hT7.fz 18; go_must (have HN4 := Aside0.mk (HN.out.app ho hb hg hat)); clear ho hb hg hat hT7 c18)
                clear HN
                generalize w7.setCell ⟨t, 18, none⟩ (.slice A65 zs.length c65) = w8 at HN4 ⊢
                have c19 := HN4.out.bt.c19
                have f19 := HN4.out.bt.fz 19
                have HN5 := Aside0.mk (HN4.out.set19 l)
                have HN6 : Aside0 (NTS W (w8.setCell ⟨t, 19, none⟩ (.int .i64 (l : Int))) t lens lv (.slice wA lens.length wk) (.slice A65 zs.length c65) (cntN lens) (symsT lens (l - 1) ++ idxL lens l (i + 1)) (lngI lens l (i + 1) (lngT lens (l - 1)))) := ⟨by
                  have := HN5.out
                  rw [idxL_succ, HGD.out, if_pos HX.out, lngI_hit lens l i _ (by rw [HGD.out]; exact HX.out), ← List.append_assoc, HZ.out]
                  exact this⟩
                clear HN4 HN5 c18b f18b
                go_wp2_with fail
                go_roundw
                case rel => exact ⟨i + 1, by simp, HI.out, _, HN6⟩
                case measure => simp [intOf]; have := HI.out; omega
              · have hb3 : decide (x = (l : Int)) = false := decide_eq_false hxl
                have HX := Aside0.mk hxl
                have HN5 : Aside0 (NTS W wr t lens lv (.slice wA lens.length wk) sv (cntN lens) (symsT lens (l - 1) ++ idxL lens l (i + 1)) (lngI lens l (i + 1) (lngT lens (l - 1)))) := ⟨by
                  have := HN.out
                  rw [idxL_succ, HGD.out, if_neg HX.out, List.append_nil, lngI_miss lens l i _ (by rw [HGD.out]; exact HX.out)]
                  exact this⟩
                clear HN hlt2
                go_wp2_with fail
                go_roundw
                case rel => exact ⟨i + 1, by simp, HI.out, sv, HN5⟩
                case measure => simp [intOf]; have := HI.out; omega
            · have hie : i = lens.length := by omega
              subst hie
              have hb2 : decide ((lens.length : Int) < (lens.length : Int)) = false := by simp
              clear hlt2
              have HN5 : Aside0 (NTS W wr t lens lv (.slice wA lens.length wk) sv (cntN lens) (symsT lens (l + 1 - 1)) (lngT lens (l + 1 - 1))) := ⟨by
                have := HN.out
                obtain ⟨m, rfl⟩ : ∃ m, l = m + 1 := ⟨l - 1, by omega⟩
                simp only [Nat.add_sub_cancel] at this ⊢
                exact this⟩
              have hw3 : IntKind.i64.wrap ((l : Int) + 1) = (l : Int) + 1 := IntWalk.i64_in _ (by omega)
              have HL := Aside0.mk hlt
              clear HN hlt
              go_wp2_with fail
              go_roundw
              case rel => exact ⟨l + 1, by simp, by omega, by have := HL.out; omega, sv, HN5⟩
              case measure => simp [intOf]; have := HL.out; omega
        · have hle : l = 16 := by omega
          subst hle
          have hb1 : decide ((16 : Int) ≤ 15) = false := by decide
          clear hlt
          go_wp2_with fail
          go_ret2
          exact ⟨fun _ => ⟨t, lv, _, sv, rfl, HN.out.bt, HN.out.ht, HN.out.rl, HV.out, HN.out.rw, HN.out.rs⟩, (fun h => by rw [HO.out] at h; cases h), HN.out.be⟩
end Go.Proofs.Ytaghmhcccighgaa.HF
end
section
/- A table is kept by what does not write it. -/
namespace Go.Proofs.Ytaghmhcccighgaa.HF
open Go.RowKit Go.Proofs.YtaghmhcccighgaaW.PrintWords Go.Proofs.YtaghmhcccighgaaW.PrintLast Go.Proofs.YtaghmhcccighgaaW.PrintMore Go.Proofs.Ytaghmhcccighgaa.HW Go.Proofs.Ytaghmhcccighgaa.MB Go.Proofs.Ytaghmhcccighgaa.Fn
/-- The table's own blocks. -/
def TabB (t : Nat) (lv wv sv : Value) (k : Nat) : Prop := k = t ∨ lv.ownBlock = some k ∨ wv.ownBlock = some k ∨ sv.ownBlock = some k
section
variable {W W' : World} {B t : Nat} {lens : List Int} {lv wv sv : Value}
theorem IsTab.keep {S : Nat → Prop} (h : IsTab W B t lens lv wv sv) (hf : Fr S W W') (hn : ∀ k, TabB t lv wv sv k → ¬ S k) : IsTab W' B t lens lv wv sv :=
  ⟨h.bt.keep hf (hn t (Or.inl rfl)), h.ht, row_keep h.rl (fun k e hk => hf.block k hk (hn k (Or.inr (Or.inl e)))), h.nn, row_keep h.rw (fun k e hk => hf.block k hk (hn k (Or.inr (Or.inr (Or.inl e))))), row_keep h.rs (fun k e hk => hf.block k hk (hn k (Or.inr (Or.inr (Or.inr e)))))⟩
theorem IsTab.below (h : IsTab W B t lens lv wv sv) (hb : Below W.heap.size W W') : IsTab W' B t lens lv wv sv := h.keep (Fr.of_below_all hb (fun _ => False)) (fun _ _ h => h)
/-- A block of another type is none of the table's. -/
theorem IsTab.other (h : IsTab W B t lens lv wv sv) {g : Nat} {cells : Array Value} {e : TypeId} (hb : W.heap[g]? = some (.cells cells e (0, 0))) (h1 : e ≠ 99) (h2 : e ≠ 3) : ¬ TabB t lv wv sv g := by
  rintro (rfl | hk | hk | hk)
  · have := h.bt
    unfold TabS at this
    rw [hb] at this
    injection this with this
    injection this with _ h3
    exact h1 h3
  · exact Kd.R_ne h.rl hb (fun e => h2 e.symm) hk.symm
  · exact Kd.R_ne h.rw hb (fun e => h2 e.symm) hk.symm
  · exact Kd.R_ne h.rs hb (fun e => h2 e.symm) hk.symm
theorem IsTab.lt (h : IsTab W B t lens lv wv sv) (k : Nat) (hk : TabB t lv wv sv k) : B ≤ k ∧ k < W.heap.size := by
  rcases hk with rfl | hk | hk | hk
  · exact ⟨h.ht, h.bt.lt⟩
  · exact ⟨Kd.R_base h.rl k hk, Kd.R_lt h.rl k hk⟩
  · exact ⟨Kd.R_base h.rw k hk, Kd.R_lt h.rw k hk⟩
  · exact ⟨Kd.R_base h.rs k hk, Kd.R_lt h.rs k hk⟩
end
end Go.Proofs.Ytaghmhcccighgaa.HF
end
section
/- Readings as trees: what a reading of bits does, bit by bit; plain. -/
namespace Go.Proofs.Ytaghmhcccighgaa.RT
open Go.Proofs.Ytaghmhcccighgaa.MB Go.Proofs.Ytaghmhcccighgaa.HF
/-- A reading: told, ended for a reason, a bit asked, gone on to the next byte. -/
inductive Rd (α : Type) where
  | ret (v : α)
  | err (e : Int)
  | bit (k : Bool → Rd α)
  | align (k : Rd α)
namespace Rd
variable {α β γ : Type}
def bind : Rd α → (α → Rd β) → Rd β
  | ret v, f => f v
  | err e, _ => err e
  | bit k, f => bit fun b => (k b).bind f
  | align k, f => align (k.bind f)
/-- What it comes to. -/
inductive Res (α : Type) where
  | ok (v : α) (a : Nat)
  | no (e : Int)
def run : Rd α → ByteArray → Nat → Res α
  | ret v, _, a => .ok v a
  | err e, _, _ => .no e
  | bit k, s, a => if a < 8 * s.size then (k (sbit s a)).run s (a + 1) else .no 5
  | align k, s, a => k.run s ((a + 7) / 8 * 8)
theorem run_bind (f : α → Rd β) (s : ByteArray) : ∀ (t : Rd α) (a : Nat), (t.bind f).run s a = match t.run s a with | .ok v a' => (f v).run s a' | .no e => .no e
  | ret v, a => rfl
  | err e, a => rfl
  | bit k, a => by
    show (if a < 8 * s.size then ((k (sbit s a)).bind f).run s (a + 1) else .no 5) = match (if a < 8 * s.size then (k (sbit s a)).run s (a + 1) else .no 5 : Res α) with | .ok v a' => (f v).run s a' | .no e => .no e
    split
    · exact run_bind f s (k (sbit s a)) (a + 1)
    · rfl
  | align k, a => run_bind f s k ((a + 7) / 8 * 8)
theorem bind_assoc (f : α → Rd β) (g : β → Rd γ) : ∀ t : Rd α, (t.bind f).bind g = t.bind fun v => (f v).bind g
  | ret v => rfl
  | err e => rfl
  | bit k => by
    show bit (fun b => ((k b).bind f).bind g) = bit fun b => (k b).bind fun v => (f v).bind g
    congr 1
    funext b
    exact bind_assoc f g (k b)
  | align k => congrArg align (bind_assoc f g k)
/-- The place grows, and stays in the text. -/
theorem run_place (s : ByteArray) : ∀ (t : Rd α) (a : Nat) (v : α) (a' : Nat), a ≤ 8 * s.size → t.run s a = .ok v a' → a ≤ a' ∧ a' ≤ 8 * s.size
  | ret v, a, _, _, h, e => by
    injection e with _ e2
    omega
  | err _, _, _, _, _, e => by cases e
  | bit k, a, v, a', h, e => by
    unfold run at e
    split at e
    · have := run_place s (k (sbit s a)) (a + 1) v a' (by omega) e
      omega
    · cases e
  | align k, a, v, a', h, e => by
    have := run_place s k ((a + 7) / 8 * 8) v a' (by omega) e
    omega
/-- A number of so many bits, the lowest first. -/
def bitsN : Nat → Rd Nat
  | 0 => ret 0
  | n + 1 => bit fun b => (bitsN n).bind fun x => ret ((if b then 1 else 0) + 2 * x)
theorem nb_front (f : Nat → Bool) : ∀ (n a : Nat), nb f a (n + 1) = (if f a then 1 else 0) + 2 * nb f (a + 1) n
  | 0, a => by
    show nb f a 0 + (if f (a + 0) = true then 2 ^ 0 else 0) = _
    simp [nb]
  | n + 1, a => by
    have ih := nb_front f n a
    show nb f a (n + 1) + (if f (a + (n + 1)) = true then 2 ^ (n + 1) else 0) = (if f a = true then 1 else 0) + 2 * (nb f (a + 1) n + (if f (a + 1 + n) = true then 2 ^ n else 0))
    rw [ih, show a + (n + 1) = a + 1 + n by omega, Nat.mul_add, Nat.add_assoc]
    congr 2
    split
    · rw [Nat.pow_succ]; omega
    · rfl
theorem run_bitsN (s : ByteArray) : ∀ (n a : Nat), a ≤ 8 * s.size → (bitsN n).run s a = if a + n ≤ 8 * s.size then .ok (nb (sbit s) a n) (a + n) else .no 5
  | 0, a, h => by
    rw [if_pos (by omega)]
    rfl
  | n + 1, a, h => by
    unfold bitsN run
    by_cases ha : a < 8 * s.size
    · rw [if_pos ha, run_bind, run_bitsN s n (a + 1) (by omega)]
      by_cases hn : a + (n + 1) ≤ 8 * s.size
      · rw [if_pos (by omega), if_pos hn, nb_front]
        simp only [run]
        rw [show a + 1 + n = a + (n + 1) by omega]
      · rw [if_neg (by omega), if_neg hn]
    · rw [if_neg ha, if_neg (by omega)]
end Rd
end Go.Proofs.Ytaghmhcccighgaa.RT
end
section
/- DEFLATE as a tree of bits: what a reading comes to; plain. -/
namespace Go.Proofs.Ytaghmhcccighgaa.RT
open Go.Proofs.Ytaghmhcccighgaa.MB Go.Proofs.Ytaghmhcccighgaa.HF Go.Proofs.YtaghmhcccighgaaW.PrintWords
open Rd
/-- A symbol by a code. -/
def symG (lens : List Int) : Nat → Nat → Int → Rd Int
  | 0, _, _ => err 40
  | d + 1, l, w => bit fun b =>
    if 2 * w + (if b then 1 else 0) < eT (cF lens) l then ret ((symsT lens 15).getD ((symsT lens (l - 1)).length + (2 * w + (if b then 1 else 0) - 2 * eT (cF lens) (l - 1)).toNat) 0) else
    if l < lngT lens 15 ∧ (2 * w + (if b then 1 else 0)) * 2 ^ (lngT lens 15 - l) < eT (cF lens) (lngT lens 15) then symG lens d (l + 1) (2 * w + (if b then 1 else 0)) else err 40
def symT (lens : List Int) : Rd Int := symG lens 15 1 0
/-- What Symbol's answer is to a reading. -/
def symQ (r : Int × Int × Nat) : Res Int := if r.2.1 = 0 then .ok r.1 r.2.2 else .no (if r.2.1 = 30 then 40 else r.2.1)
theorem symQ_ok (v : Int) (a : Nat) : symQ (v, 0, a) = .ok v a := if_pos rfl
theorem symQ_30 (v : Int) (a : Nat) : symQ (v, 30, a) = .no 40 := by
  unfold symQ
  rw [if_neg (show ¬ (30 : Int) = 0 by decide), if_pos rfl]
theorem symQ_5 (v : Int) (a : Nat) : symQ (v, 5, a) = .no 5 := by
  unfold symQ
  rw [if_neg (show ¬ (5 : Int) = 0 by decide), if_neg (show ¬ (5 : Int) = 30 by decide)]
theorem bitI_if (s : ByteArray) (a : Nat) : bitI s a = if sbit s a = true then 1 else 0 := by
  show ((nb (sbit s) a 0 + (if sbit s (a + 0) = true then 2 ^ 0 else 0) : Nat) : Int) = _
  rw [Nat.add_zero]
  unfold nb
  split <;> rfl
theorem run_symG (lens : List Int) (s : ByteArray) : ∀ (d l : Nat) (w : Int) (a : Nat), (symG lens d l w).run s a = symQ (symS lens s d l w a)
  | 0, _, _, _ => rfl
  | d + 1, l, w, a => by
    unfold symG symS run
    rw [bitI_if]
    by_cases ha : a < 8 * s.size
    · rw [if_pos ha, if_neg (by omega)]
      simp only
      generalize (if sbit s a = true then (1 : Int) else 0) = b
      by_cases h1 : 2 * w + b < eT (cF lens) l
      · rw [if_pos h1, if_pos h1, symQ_ok, run]
      · rw [if_neg h1, if_neg h1]
        by_cases h2 : l < lngT lens 15 ∧ (2 * w + b) * 2 ^ (lngT lens 15 - l) < eT (cF lens) (lngT lens 15)
        · rw [if_pos h2, if_pos h2]
          exact run_symG lens s d (l + 1) _ (a + 1)
        · rw [if_neg h2, if_neg h2, symQ_30, run]
    · rw [if_neg ha, if_pos (by omega), symQ_5]
theorem run_symT (lens : List Int) (s : ByteArray) (a : Nat) : (symT lens).run s a = symQ (symF lens s a) := run_symG lens s 15 1 0 a
/-- Symbol's place stays in the text; its errors. -/
theorem symS_place (lens : List Int) (s : ByteArray) : ∀ (d l : Nat) (w : Int) (a : Nat), a ≤ 8 * s.size → (symS lens s d l w a).2.2 ≤ 8 * s.size ∧ ((symS lens s d l w a).2.1 = 0 ∨ (symS lens s d l w a).2.1 = 5 ∨ (symS lens s d l w a).2.1 = 30)
  | 0, _, _, _, h => ⟨h, Or.inr (Or.inr rfl)⟩
  | d + 1, l, w, a, h => by
    unfold symS
    by_cases h1 : 8 * s.size < a + 1
    · rw [if_pos h1]; exact ⟨h, Or.inr (Or.inl rfl)⟩
    · rw [if_neg h1]
      by_cases h2 : 2 * w + bitI s a < eT (cF lens) l
      · rw [if_pos h2]; exact ⟨by show a + 1 ≤ _; omega, Or.inl rfl⟩
      · rw [if_neg h2]
        by_cases h3 : l < lngT lens 15 ∧ (2 * w + bitI s a) * 2 ^ (lngT lens 15 - l) < eT (cF lens) (lngT lens 15)
        · rw [if_pos h3]; exact symS_place lens s d (l + 1) _ (a + 1) (by omega)
        · rw [if_neg h3]; exact ⟨by show a + 1 ≤ _; omega, Or.inr (Or.inr rfl)⟩
theorem symF_place (lens : List Int) (s : ByteArray) (a : Nat) (h : a ≤ 8 * s.size) : (symF lens s a).2.2 ≤ 8 * s.size ∧ ((symF lens s a).2.1 = 0 ∨ (symF lens s a).2.1 = 5 ∨ (symF lens s a).2.1 = 30) := symS_place lens s 15 1 0 a h
/-- So many bytes. -/
def bytesN : Nat → Rd (List Int)
  | 0 => ret []
  | n + 1 => (bitsN 8).bind fun b => (bytesN n).bind fun r => ret ((b : Int) :: r)
/-- A block of kind 0. -/
def storedT (most : Nat) (out : List Int) : Rd (List Int) :=
  align ((bitsN 16).bind fun n => (bitsN 16).bind fun m =>
    if m + n = 65535 then (if most < out.length + n then err 4 else (bytesN n).bind fun bs => ret (out ++ bs)) else err 40)
/-- A copy's length, its distance: the least, and how many bits besides. -/
def lenB (k : Nat) : Nat × Nat := if k = 285 then (258, 0) else if k < 265 then (k - 254, 0) else (3 + (4 + (k - 257) % 4) * 2 ^ ((k - 257) / 4 - 1), (k - 257) / 4 - 1)
def distB (j : Nat) : Nat × Nat := if j < 4 then (1 + j, 0) else (1 + (2 + j % 2) * 2 ^ (j / 2 - 1), j / 2 - 1)
/-- So many bytes from so far back. -/
def copyN (far : Nat) : Nat → List Int → List Int
  | 0, out => out
  | n + 1, out => copyN far n (out ++ [out.getD (out.length - far) 0])
/-- A copy, whose length's symbol was read. -/
def copiesT (most : Nat) (out : List Int) (k : Nat) (dist : Option (List Int)) : Rd (List Int) :=
  if 285 < k then err 40 else
  (bitsN (lenB k).2).bind fun x =>
  match dist with
  | none => err 40
  | some dl => (symT dl).bind fun j =>
    if 30 ≤ j then err 40 else
    (bitsN (distB j.toNat).2).bind fun y =>
    if out.length < (distB j.toNat).1 + y then err 40 else
    if most < out.length + ((lenB k).1 + x) then err 4 else ret (copyN ((distB j.toNat).1 + y) ((lenB k).1 + x) out)
/-- The symbols of a block. -/
def packedT (most : Nat) (lens : List Int) (dist : Option (List Int)) : Nat → List Int → Rd (List Int)
  | 0, _ => err 99
  | f + 1, out => (symT lens).bind fun k =>
    if k = 256 then ret out else
    if 256 < k then (copiesT most out k.toNat dist).bind fun o => packedT most lens dist f o else
    if most < out.length + 1 then err 4 else packedT most lens dist f (out ++ [k])
/-- The lengths of the fixed code. -/
def fixL : List Int := List.replicate 144 8 ++ (List.replicate 112 9 ++ (List.replicate 24 7 ++ List.replicate 8 8))
def fixD : List Int := List.replicate 32 5
/-- A table; none: there are no words. -/
def tableO (lens : List Int) : Option (List Int) := if lens.all (fun l => decide (l = 0)) then none else some lens
def orderL : List Nat := [16, 17, 18, 0, 8, 7, 9, 6, 10, 5, 11, 4, 12, 3, 13, 2, 14, 1, 15]
/-- The lengths of the lengths' code. -/
def firstT : List Nat → List Int → Rd (List Int)
  | [], l => ret l
  | k :: r, l => (bitsN 3).bind fun x => firstT r (l.set k (x : Int))
/-- So many lengths, by a code. -/
def lengthsT (first : List Int) (n : Nat) : Nat → List Int → Rd (List Int)
  | 0, l => if l.length < n then err 99 else ret l
  | f + 1, l => if l.length < n then
      (symT first).bind fun k =>
      (if k = 16 then (if l.length = 0 then err 40 else (bitsN 2).bind fun x => ret (l.getD (l.length - 1) 0, 3 + x))
        else if k = 17 then (bitsN 3).bind fun x => ret (0, 3 + x)
        else if k = 18 then (bitsN 7).bind fun x => ret (0, 11 + x)
        else ret (k, 1)).bind fun (v, many) =>
      if l.length + many ≤ n then lengthsT first n f (l ++ List.replicate many v) else err 40
    else ret l
def isWhole (l : List Int) : Bool := okL l && wholeL l
/-- The tables of a block of kind 2. -/
def dynamicT : Rd (List Int × List Int) :=
  (bitsN 5).bind fun a => (bitsN 5).bind fun b => (bitsN 4).bind fun c =>
  if 257 + a ≤ 286 ∧ 1 + b ≤ 30 then
    (firstT (orderL.take (4 + c)) (List.replicate 19 0)).bind fun first =>
    if isWhole first = true then
      (lengthsT first (257 + a + (1 + b)) (257 + a + (1 + b)) []).bind fun all =>
      if 0 < (all.take (257 + a)).getD 256 0 ∧ isWhole (all.take (257 + a)) = true ∧ (isWhole (all.drop (257 + a)) = true ∨ (all.drop (257 + a)).sum ≤ 1) then ret (all.take (257 + a), all.drop (257 + a)) else err 40
    else err 40
  else err 40
/-- A block: was it the last one, and the bytes. -/
def blockT (most F : Nat) (out : List Int) : Rd (Bool × List Int) :=
  (bitsN 1).bind fun last => (bitsN 2).bind fun kind =>
  (if kind = 0 then storedT most out
    else if kind = 1 then packedT most fixL (some fixD) F out
    else if kind = 2 then dynamicT.bind fun (lens, dist) => packedT most lens (tableO dist) F out
    else err 40).bind fun o => ret (decide (last = 1), o)
/-- All blocks. -/
def inflT (most F : Nat) : Nat → List Int → Rd (List Int)
  | 0, _ => err 99
  | f + 1, out => (blockT most F out).bind fun (last, o) => if last = true then ret o else inflT most F f o
/-- More rounds than there can be bits. -/
def manyF : Nat := 10000000000000000
def infl (most : Nat) (s : ByteArray) : Res (List Int) := (inflT most manyF manyF []).run s 0
end Go.Proofs.Ytaghmhcccighgaa.RT
end
section
/- inflate's trees: what numbers they tell; plain. -/
namespace Go.Proofs.Ytaghmhcccighgaa.RT
open Go.Proofs.Ytaghmhcccighgaa.MB Go.Proofs.Ytaghmhcccighgaa.HF Go.Proofs.YtaghmhcccighgaaW.PrintWords
open Rd
theorem symsT_rng (lens : List Int) : ∀ (l : Nat) (x : Int), x ∈ symsT lens l → 0 ≤ x ∧ x < lens.length
  | 0, x, h => by cases h
  | l + 1, x, h => by
    unfold symsT at h
    rcases List.mem_append.1 h with h | h
    · exact symsT_rng lens l x h
    · unfold idxL at h
      obtain ⟨j, hj, rfl⟩ := List.mem_map.1 h
      have := List.mem_range.1 (List.mem_filter.1 hj).1
      omega
theorem getD_rng (lens : List Int) (i : Nat) (h0 : 0 < lens.length) : 0 ≤ (symsT lens 15).getD i 0 ∧ (symsT lens 15).getD i 0 < lens.length := by
  by_cases h : i < (symsT lens 15).length
  · rw [List.getD_eq_getElem?_getD, List.getElem?_eq_getElem h]
    exact symsT_rng lens 15 _ (List.getElem_mem h)
  · rw [List.getD_eq_getElem?_getD, List.getElem?_eq_none (by omega)]
    exact ⟨Int.le_refl _, by show (0 : Int) < _; omega⟩
theorem symG_rng (lens : List Int) (s : ByteArray) (h0 : 0 < lens.length) : ∀ (d l : Nat) (w : Int) (a : Nat) (v : Int) (a' : Nat), (symG lens d l w).run s a = .ok v a' → 0 ≤ v ∧ v < lens.length
  | 0, _, _, _, _, _, h => by cases h
  | d + 1, l, w, a, v, a', h => by
    unfold symG run at h
    split at h
    · simp only at h
      generalize (if sbit s a = true then (1 : Int) else 0) = b at h
      split at h
      · injection h with h1 _
        rw [← h1]
        exact getD_rng lens _ h0
      · split at h
        · exact symG_rng lens s h0 d (l + 1) _ (a + 1) v a' h
        · cases h
    · cases h
theorem symT_rng {lens : List Int} {s : ByteArray} (h0 : 0 < lens.length) {a : Nat} {v : Int} {a' : Nat} (h : (symT lens).run s a = .ok v a') : 0 ≤ v ∧ v < lens.length := symG_rng lens s h0 15 1 0 a v a' h
/-- The symbol of a length: what it stands for, so many times. -/
def manyT (first : List Int) (l : List Int) : Rd (Int × Nat) := (symT first).bind fun k =>
  if k = 16 then (if l.length = 0 then err 40 else (bitsN 2).bind fun x => ret (l.getD (l.length - 1) 0, 3 + x))
  else if k = 17 then (bitsN 3).bind fun x => ret (0, 3 + x)
  else if k = 18 then (bitsN 7).bind fun x => ret (0, 11 + x)
  else ret (k, 1)
theorem lengthsT_step (first : List Int) (n f : Nat) (l : List Int) (h : l.length < n) : lengthsT first n (f + 1) l = (manyT first l).bind fun p => if l.length + p.2 ≤ n then lengthsT first n f (l ++ List.replicate p.2 p.1) else err 40 := by
  unfold manyT
  rw [bind_assoc]
  show (if l.length < n then _ else _) = _
  rw [if_pos h]
theorem lengthsT_end (first : List Int) (n f : Nat) (l : List Int) (h : ¬ l.length < n) : lengthsT first n f l = ret l := by
  cases f with
  | zero => exact if_neg h
  | succ f => exact if_neg h
end Go.Proofs.Ytaghmhcccighgaa.RT
end
section
/- lengths that are few, lengths that are whole; plain. -/
namespace Go.Proofs.Ytaghmhcccighgaa.RT
open Go.Proofs.Ytaghmhcccighgaa.MB Go.Proofs.Ytaghmhcccighgaa.HF Go.Proofs.YtaghmhcccighgaaW.PrintWords
open Rd Go.Proofs.Ytaghmhcccighgaa.HP
theorem sum_nn : ∀ (l : List Int), (∀ x ∈ l, 0 ≤ x) → 0 ≤ l.sum
  | [], _ => Int.le_refl _
  | x :: r, h => by
    rw [List.sum_cons]
    have := h x (List.mem_cons_self ..)
    have := sum_nn r (fun y hy => h y (List.mem_cons_of_mem _ hy))
    omega
theorem share_few : ∀ (l : List Int), (∀ x ∈ l, 0 ≤ x) → l.sum ≤ 1 → shareS l ≤ 16384 * l.sum
  | [], _, _ => Int.le_refl _
  | x :: r, h, hs => by
    rw [List.sum_cons] at hs
    have hx := h x (List.mem_cons_self ..)
    have hr := sum_nn r (fun y hy => h y (List.mem_cons_of_mem _ hy))
    have ih := share_few r (fun y hy => h y (List.mem_cons_of_mem _ hy)) (by omega)
    rw [shareS_cons, List.sum_cons]
    by_cases h0 : 0 < x
    · have hx1 : x = 1 := by omega
      subst hx1
      rw [if_pos (by decide)]
      have : ((2 ^ (15 - (1 : Int).toNat) : Nat) : Int) = 16384 := rfl
      rw [this]
      omega
    · rw [if_neg h0]
      omega
theorem sum_all : ∀ (l : List Int), (∀ x ∈ l, 0 ≤ x) → ∀ x ∈ l, x ≤ l.sum
  | [], _, x, h => by cases h
  | y :: r, h, x, hx => by
    have hr := sum_nn r (fun z hz => h z (List.mem_cons_of_mem _ hz))
    have hy := h y (List.mem_cons_self ..)
    rw [List.sum_cons]
    rcases List.mem_cons.1 hx with rfl | hx
    · omega
    · have := sum_all r (fun z hz => h z (List.mem_cons_of_mem _ hz)) x hx
      omega
theorem okL_few {l : List Int} (h : ∀ x ∈ l, 0 ≤ x) (hs : l.sum ≤ 1) (hl : l.length ≤ 288) : okL l = true := by
  have ha : l.all lenOk = true := List.all_eq_true.2 (fun x hx => decide_eq_true (by have := h x hx; have := sum_all l h x hx; omega))
  unfold okL
  rw [Bool.and_eq_true, Bool.and_eq_true]
  refine ⟨decide_eq_true hl, ha, decide_eq_true ?_⟩
  rw [rooms_share l ha]
  have := share_few l h hs
  omega
theorem share_zero : ∀ (l : List Int), l.all (fun x => decide (x = 0)) = true → shareS l = 0
  | [], _ => rfl
  | x :: r, h => by
    rw [List.all_cons, Bool.and_eq_true] at h
    have hx : x = 0 := of_decide_eq_true h.1
    subst hx
    rw [shareS_cons, if_neg (by decide), share_zero r h.2]
    rfl
theorem isWhole_ok {l : List Int} (h : isWhole l = true) : okL l = true := by
  unfold isWhole at h
  rw [Bool.and_eq_true] at h
  exact h.1
theorem isWhole_some {l : List Int} (h : isWhole l = true) : l.all (fun x => decide (x = 0)) = false := by
  have ho := isWhole_ok h
  unfold isWhole at h
  rw [Bool.and_eq_true] at h
  have hw : rooms (fun k => cntL l k) 15 = 0 := of_decide_eq_true h.2
  unfold okL at ho
  rw [Bool.and_eq_true, Bool.and_eq_true] at ho
  rw [rooms_share l ho.2.1] at hw
  cases he : l.all (fun x => decide (x = 0)) with
  | false => rfl
  | true =>
    rw [share_zero l he] at hw
    omega
theorem sum_take (l : List Int) (i : Nat) (h : i < l.length) : (l.take (i + 1)).sum = (l.take i).sum + l.getD i 0 := by
  rw [List.take_add_one, List.sum_append, List.getD_eq_getElem?_getD, List.getElem?_eq_getElem h]
  simp
theorem sum_le (l : List Int) (m : Int) (h : ∀ x ∈ l, x ≤ m) : l.sum ≤ l.length * m := by
  induction l with
  | nil => simp
  | cons x r ih =>
    rw [List.sum_cons, List.length_cons]
    have h1 := h x (List.mem_cons_self ..)
    have h2 := ih (fun y hy => h y (List.mem_cons_of_mem _ hy))
    have h3 : ((r.length + 1 : Nat) : Int) * m = r.length * m + m := by rw [Int.natCast_add, Int.add_mul]; simp
    omega
end Go.Proofs.Ytaghmhcccighgaa.RT
end
section
/- What the document's reader calls: Bits, Symbol, Codes, Full, Aligned. -/
namespace Go.Proofs.Ytaghmhcccighgaa.HF
open Go.RowKit Go.Proofs.YtaghmhcccighgaaW.PrintWords Go.Proofs.YtaghmhcccighgaaW.PrintLast Go.Proofs.YtaghmhcccighgaaW.PrintMore Go.Proofs.Ytaghmhcccighgaa.HW Go.Proofs.Ytaghmhcccighgaa.MB Go.Proofs.Ytaghmhcccighgaa.Fn Go.Proofs.Ytaghmhcccighgaa.HP Go.Proofs.Ytaghmhcccighgaa.PR
theorem refCodes_any (A : Option Addr) (c : Nat) (l : List Int) (W : World) (hr : Kd.C (Kd.int .i64) W A l.length l) (hc : l.length ≤ c) : Calls Try.prog 52 #[.slice A l.length c] W fun e w' => ∃ v z, e = .returned (.tuple #[v, .int .i64 z]) ∧ Kd.R (Kd.int .i64) 3 w' W.heap.size (fun _ => True) v (if okL l = true then codesL l else []) ∧ Below W.heap.size W w' := by
  obtain ⟨k, hk⟩ := PC.refcodes_ok l
  cases ho : okL l with
  | true =>
    rw [ho] at hk
    exact (postroadref03_Codes.calls k A c l _ _ W hr hc hk).mono (fun _ _ ⟨v, h1, h2, h3⟩ => ⟨v, _, h1, h2, h3⟩)
  | false =>
    rw [ho] at hk
    exact (postroadref03_Codes.calls k A c l _ _ W hr hc hk).mono (fun _ _ ⟨v, h1, h2, h3⟩ => ⟨v, _, h1, h2, h3⟩)
theorem refBits_any (s : ByteArray) (hs : s.size ≤ 1000000000000000) (a n : Nat) (ha : a ≤ 8 * s.size) (hn : n ≤ 57) (W : World) : Calls Try.prog 37 #[.string s, .int .i64 a, .int .i64 n] W fun e w' => e = .returned (.tuple #[.int .i64 (if 8 * s.size < a + n then 0 else (nb (sbit s) a n : Int)), .bool (decide (a + n ≤ 8 * s.size))]) ∧ Below W.heap.size W w' := by
  have h := rbits_f s hs a ha (n : Int) (by omega) (by omega) 60 (Nat.le_refl _)
  rw [Int.toNat_natCast] at h
  by_cases hf : 8 * s.size < a + n
  · rw [if_pos (by omega)] at h
    have := postroadref01_Bits.calls 60 s a n _ _ W h
    rw [if_pos hf, decide_eq_false (by omega)]
    exact this.mono (fun _ _ h => ⟨h.1, h.2.below⟩)
  · rw [if_neg (by omega)] at h
    have := postroadref01_Bits.calls 60 s a n _ _ W h
    rw [if_neg hf, decide_eq_true (by omega)]
    exact this.mono (fun _ _ h => ⟨h.1, h.2.below⟩)
theorem refSym_any (A : Option Addr) (c : Nat) (l : List Int) (A2 : Option Addr) (c2 : Nat) (s : ByteArray) (a : Nat) (W : World) (hr : Kd.C (Kd.int .i64) W A l.length l) (hc : l.length ≤ c) (hr2 : Kd.C (Kd.int .i64) W A2 l.length (codesL l)) (hc2 : l.length ≤ c2) (ho : okL l = true) (hs : s.size ≤ 1000000000000000) (ha : a ≤ 8 * s.size) :
    Calls Try.prog 53 #[.slice A l.length c, .slice A2 l.length c2, .string s, .int .i64 a] W fun e w' => e = .returned (.tuple #[.int .i64 (symR (symF l s a)).1, .int .i64 (symR (symF l s a)).2.1, .int .i64 (symR (symF l s a)).2.2]) ∧ Below W.heap.size W w' := by
  obtain ⟨k, hk⟩ := refsym_ok ho s hs a ha
  have h := fun hr2 hc2 => postroadref03_Symbol.calls k A c l A2 c2 (codesL l) s a _ _ _ W hr hc hr2 hc2 hk
  rw [codesL_len] at h
  exact (h hr2 hc2).mono (fun _ _ h => ⟨h.1, h.2.below⟩)
theorem aligned_any (a : Nat) (ha : a ≤ 8000000000000000) (W : World) : Calls Try.prog 30 #[.int .i64 a] W fun e w' => e = .returned (.int .i64 (((a + 7) / 8 * 8 : Nat) : Int)) ∧ Below W.heap.size W w' := by
  have h : postroadref01_Aligned.f (a : Int) = some (((a + 7) / 8 * 8 : Nat) : Int) := by
    unfold postroadref01_Aligned.f
    rw [wrap64_id ((a : Int) + 7) (by omega) (by omega), show Int.tdiv ((a : Int) + 7) 8 = (((a + 7) / 8 : Nat) : Int) by rw [Int.tdiv_eq_ediv_of_nonneg (by omega)]; omega, wrap64_id (((a + 7) / 8 : Nat) : Int) (by omega) (by omega), wrap64_id ((((a + 7) / 8 : Nat) : Int) * 8) (by omega) (by omega)]
    congr 1
  exact (postroadref01_Aligned.calls a _ W h).mono (fun _ _ h => ⟨h.1, h.2.below⟩)
theorem full_all (l : List Int) : ∃ k, postroadref03_Full.f k l = some (RT.isWhole l) := by
  cases ho : okL l with
  | true =>
    obtain ⟨k, hk⟩ := full_ok l ho
    refine ⟨k, hk.trans ?_⟩
    unfold RT.isWhole
    rw [ho, Bool.true_and]
  | false =>
    obtain ⟨k, hk⟩ := share_ok l
    refine ⟨k, ?_⟩
    unfold postroadref03_Full.f RT.isWhole
    rw [hk, ho, Bool.false_and]
    simp only [Option.bind_some]
    congr 1
    rw [beq_eq_false_iff_ne]
    intro e
    rw [okL_share, e] at ho
    exact absurd ho (by decide)
theorem refFull_any (A : Option Addr) (c : Nat) (l : List Int) (W : World) (hr : Kd.C (Kd.int .i64) W A l.length l) (hc : l.length ≤ c) : Calls Try.prog 42 #[.slice A l.length c] W fun e w' => e = .returned (.bool (RT.isWhole l)) ∧ Below W.heap.size W w' := by
  obtain ⟨k, hk⟩ := full_all l
  exact (postroadref03_Full.calls k A c l _ W hr hc hk).mono (fun _ _ h => ⟨h.1, h.2.below⟩)
end Go.Proofs.Ytaghmhcccighgaa.HF
end
section
/- Bytes as readings of bits: plain. -/
namespace Go.Proofs.Ytaghmhcccighgaa.RT
open Go.Proofs.Ytaghmhcccighgaa.MB Go.Proofs.Ytaghmhcccighgaa.HF Go.Proofs.YtaghmhcccighgaaW.PrintWords
open Rd
theorem data_list (s : ByteArray) (i j : Nat) : (s.extract i j).data.toList = (s.data.toList.drop i).take (j - i) := by
  rw [ByteArray.data_extract, Array.toList_extract, List.extract_eq_take_drop]
theorem bytesOf_extract (s : ByteArray) (i n : Nat) : bytesOf (s.extract i (i + n)) = ((bytesOf s).drop i).take n := by
  unfold bytesOf
  rw [data_list, Nat.add_sub_cancel_left, List.map_take, List.map_drop]
theorem byte_nb (s : ByteArray) (q : Nat) : nb (sbit s) (8 * q) 8 = (bt s (q : Int)).toNat := by
  obtain ⟨b, hb, h256⟩ := bt_nat s (q : Int)
  rw [hb, Int.toNat_natCast]
  refine (nb_unique (x := b) (by omega) (fun i hi => ?_)).symm
  unfold sbit
  rw [show (8 * q + i) / 8 = q by omega, show (8 * q + i) % 8 = i by omega, hb, Int.toNat_natCast]
theorem bytes_at (s : ByteArray) (q : Nat) (h : q < s.size) : (bytesOf s)[q]'(by rw [bytesOf_length]; exact h) = ((nb (sbit s) (8 * q) 8 : Nat) : Int) := by
  have h1 := rd_bytesOf s (q : Int)
  obtain ⟨b, hb, _⟩ := bt_nat s (q : Int)
  rw [byte_nb, hb, Int.toNat_natCast, ← hb, ← h1]
  unfold rd
  rw [Int.toNat_natCast, List.getD_eq_getElem?_getD, List.getElem?_eq_getElem (by rw [bytesOf_length]; exact h)]
  rfl
theorem run_bytesN (s : ByteArray) : ∀ (n a : Nat), a % 8 = 0 → a ≤ 8 * s.size → (bytesN n).run s a = if a / 8 + n ≤ s.size then .ok (bytesOf (s.extract (a / 8) (a / 8 + n))) (a + 8 * n) else .no 5
  | 0, a, h8, h => by
    rw [if_pos (by omega), bytesOf_extract]
    rfl
  | n + 1, a, h8, h => by
    unfold bytesN
    rw [run_bind, run_bitsN s 8 a h]
    by_cases h1 : a + 8 ≤ 8 * s.size
    · rw [if_pos h1]
      simp only
      rw [run_bind, run_bytesN s n (a + 8) (by omega) (by omega)]
      by_cases h2 : a / 8 + (n + 1) ≤ s.size
      · rw [if_pos (by omega), if_pos h2]
        simp only [run]
        rw [show a + 8 + 8 * n = a + 8 * (n + 1) by omega, bytesOf_extract, bytesOf_extract, show (a + 8) / 8 = a / 8 + 1 by omega]
        congr 1
        have hq : a / 8 < (bytesOf s).length := by rw [bytesOf_length]; omega
        rw [List.drop_eq_getElem_cons hq, List.take_succ_cons, bytes_at s (a / 8) (by omega), show 8 * (a / 8) = a by omega]
      · rw [if_neg (by omega), if_neg h2]
    · rw [if_neg h1, if_neg (by omega)]
/-- What a stored block comes to, step by step. -/
theorem run_stored (most : Nat) (out : List Int) (s : ByteArray) (a al : Nat) (ha : a ≤ 8 * s.size) (hal : (a + 7) / 8 * 8 = al) :
    (storedT most out).run s a = if al + 16 ≤ 8 * s.size then (if al + 32 ≤ 8 * s.size then (if nb (sbit s) (al + 16) 16 + nb (sbit s) al 16 = 65535 then (if most < out.length + nb (sbit s) al 16 then .no 4 else
      (if al / 8 + 4 + nb (sbit s) al 16 ≤ s.size then .ok (out ++ bytesOf (s.extract (al / 8 + 4) (al / 8 + 4 + nb (sbit s) al 16))) (al + 32 + 8 * nb (sbit s) al 16) else .no 5)) else .no 40) else .no 5) else .no 5 := by
  unfold storedT
  rw [run, hal, run_bind, run_bitsN s 16 al (by omega)]
  by_cases h1 : al + 16 ≤ 8 * s.size
  · rw [if_pos h1, if_pos h1]
    simp only
    rw [run_bind, run_bitsN s 16 (al + 16) (by omega), show al + 16 + 16 = al + 32 by omega]
    by_cases h2 : al + 32 ≤ 8 * s.size
    · rw [if_pos h2, if_pos h2]
      simp only
      generalize nb (sbit s) al 16 = n
      generalize nb (sbit s) (al + 16) 16 = m
      by_cases h3 : m + n = 65535
      · rw [if_pos h3, if_pos h3]
        by_cases h4 : most < out.length + n
        · rw [if_pos h4, if_pos h4]; rfl
        · rw [if_neg h4, if_neg h4, run_bind, run_bytesN s n (al + 32) (by omega) (by omega), show (al + 32) / 8 = al / 8 + 4 by omega]
          by_cases h5 : al / 8 + 4 + n ≤ s.size
          · rw [if_pos h5, if_pos h5]
            rfl
          · rw [if_neg h5, if_neg h5]
      · rw [if_neg h3, if_neg h3]; rfl
    · rw [if_neg h2, if_neg h2]
  · rw [if_neg h1, if_neg h1]
end Go.Proofs.Ytaghmhcccighgaa.RT
end
section
/- Readings' plain parts (from the inflate seat's texts). -/
namespace Go.Proofs.Ytaghmhcccighgaa.HI
open Go.RowKit Go.Proofs.YtaghmhcccighgaaW.PrintWords Go.Proofs.YtaghmhcccighgaaW.PrintLast Go.Proofs.YtaghmhcccighgaaW.PrintMore Go.Proofs.Ytaghmhcccighgaa.HW Go.Proofs.Ytaghmhcccighgaa.MB Go.Proofs.Ytaghmhcccighgaa.Fn Go.Proofs.Ytaghmhcccighgaa.HF Go.Proofs.Ytaghmhcccighgaa.RT Go.Proofs.Ytaghmhcccighgaa.RT.Rd Go.Proofs.Ytaghmhcccighgaa.HP
theorem rowB_keep {W W' : World} {B : Nat} {v : Value} {xs : List Int} (h : Kd.R (Kd.int .u8) 5 W B (fun _ => True) v xs) (hb : ∀ k, v.ownBlock = some k → k < W.heap.size → W'.heap[k]? = W.heap[k]?) : Kd.R (Kd.int .u8) 5 W' B (fun _ => True) v xs :=
  Kd.R_mono (Kd.R_step (Kd.R_tight rfl h) (fun k hk hlt => hb k hk.symm hlt)) (fun _ _ => trivial)
theorem info5 : (Try.prog.info? 5).map (fun i => (i.zero, i.size, i.bytes)) = some (some (.int .u8 0), 1, 1) := by kernel_rfl
theorem lenB_le : ∀ q : Nat, q < 29 → (lenB (257 + q)).1 ≤ 258 ∧ 3 ≤ (lenB (257 + q)).1 ∧ (lenB (257 + q)).2 ≤ 5 := by decide +kernel
theorem distB_le : ∀ j : Nat, j < 30 → (distB j).1 ≤ 24577 ∧ 1 ≤ (distB j).1 ∧ (distB j).2 ≤ 13 := by decide +kernel
theorem fixL_ok : okL fixL = true := by decide +kernel
theorem fixD_ok : okL fixD = true := by decide +kernel
def slen : Value → Nat
  | .slice _ n _ => n
  | _ => 0
/-- The order of the lengths' lengths. -/
def ordI : List Int := orderL.map (fun k : Nat => (k : Int))
theorem ord_cell {w : World} {g3 : Nat} (h : w.heap[g3]? = some (.cells (ordI.map (fun y => Value.int .i64 y)).toArray 3 (0, 0))) (i : Nat) (hi : i < 19) : w.cell? ⟨g3, i, none⟩ = some (.int .i64 (rd ordI (i : Int))) := by
  refine (blk_cell h i).trans ?_
  show ((ordI.map (fun y => Value.int .i64 y)).toArray)[i]? = _
  have hl : ordI.length = 19 := rfl
  rw [List.getElem?_toArray, List.getElem?_map, List.getElem?_eq_getElem (by omega)]
  unfold rd
  rw [Int.toNat_natCast, List.getD_eq_getElem?_getD, List.getElem?_eq_getElem (by omega)]
  rfl
theorem add_at (g o j : Nat) : (⟨g, o, none⟩ : Addr).add j = ⟨g, o + j, none⟩ := by
  unfold Addr.add
  split
  · rename_i h; rw [h]; rfl
  · rfl
theorem ord_rng : ∀ i : Nat, i < 19 → 0 ≤ rd ordI (i : Int) ∧ rd ordI (i : Int) < 19 := by decide +kernel
theorem ord_at (i k : Nat) (h : i < orderL.length) (hk : orderL[i] = k) : rd ordI (i : Int) = (k : Int) := by
  unfold rd ordI
  rw [Int.toNat_natCast, List.getD_eq_getElem?_getD, List.getElem?_map, List.getElem?_eq_getElem h, hk]
  rfl
theorem copyN_succ (far : Nat) : ∀ (n : Nat) (out : List Int), copyN far (n + 1) out = copyN far n out ++ [(copyN far n out).getD ((copyN far n out).length - far) 0]
  | 0, _ => rfl
  | n + 1, out => copyN_succ far n (out ++ [out.getD (out.length - far) 0])
theorem copyN_len (far : Nat) : ∀ (n : Nat) (out : List Int), (copyN far n out).length = out.length + n
  | 0, out => rfl
  | n + 1, out => by
    show (copyN far n (out ++ [out.getD (out.length - far) 0])).length = _
    rw [copyN_len far n, List.length_append, List.length_singleton]
    omega
theorem lenK (k : Nat) (h1 : 256 < k) (h2 : k < 286) : (lenB k).1 ≤ 258 ∧ 3 ≤ (lenB k).1 ∧ (lenB k).2 ≤ 5 := by
  obtain ⟨q, rfl⟩ : ∃ q, k = 257 + q := ⟨k - 257, by omega⟩
  exact lenB_le q (by omega)
/-- A symbol takes a bit at least. -/
theorem symT_pos {lens : List Int} {s : ByteArray} {a a' : Nat} {v : Int} (ha : a ≤ 8 * s.size) (h : (symT lens).run s a = .ok v a') : a < a' ∧ a' ≤ 8 * s.size := by
  have hp := run_place s (symT lens) a v a' ha h
  refine ⟨?_, hp.2⟩
  unfold symT symG run at h
  split at h
  · have := run_place s _ (a + 1) v a' (by omega) h
    omega
  · cases h
/-- What Inflate comes to. -/
def inflR (s : ByteArray) (most : Int) : ByteArray × Int × Int :=
  if most < 0 ∨ 1048576 < most then (⟨#[]⟩, 0, 1) else
  match infl most.toNat s with
  | .ok o a => (strOfNums o, ((a + 7) / 8 : Nat), 0)
  | .no er => (⟨#[]⟩, 0, er)
end Go.Proofs.Ytaghmhcccighgaa.HI
end
section
/- The document's reader: bits, ends; walked. -/
namespace Go.Proofs.Ytaghmhcccighgaa.HI
open Go.RowKit Go.Proofs.YtaghmhcccighgaaW.PrintWords Go.Proofs.YtaghmhcccighgaaW.PrintLast Go.Proofs.YtaghmhcccighgaaW.PrintMore Go.Proofs.Ytaghmhcccighgaa.HW Go.Proofs.Ytaghmhcccighgaa.MB Go.Proofs.Ytaghmhcccighgaa.Fn Go.Proofs.Ytaghmhcccighgaa.HF Go.Proofs.Ytaghmhcccighgaa.RT Go.Proofs.Ytaghmhcccighgaa.RT.Rd
attribute [local go_sem] max2_int min2_int max_two min_two max_three min_three max_four min_four   -- for this text's walks alone
/-- A reader of the document's: its bytes, where it stands, its room, what it has, why it ended. -/
structure IsQ (W : World) (B r : Nat) (ov : Value) (s : ByteArray) (a most : Nat) (out : List Int) (er : Int) : Prop where
  bx : W.heap[r]? = some (.cells #[.string s, .int .i64 a, .int .i64 most, ov, .int .i64 er] 46 (0, 0))
  ro : Kd.R (Kd.int .u8) 5 W B (fun _ => True) ov out
  hr : B ≤ r
  le : a ≤ 8 * s.size
  sz : s.size ≤ 1000000000000000
  ml : most ≤ 1048576
  ol : out.length ≤ most
/-- What a reader's calls may write. -/
def QS (r : Nat) (ov : Value) (k : Nat) : Prop := k = r ∨ ov.ownBlock = some k
section
variable {W W' : World} {B r : Nat} {ov : Value} {s : ByteArray} {a most : Nat} {out : List Int} {er : Int}
theorem IsQ.lt (h : IsQ W B r ov s a most out er) : r < W.heap.size := blk_lt h.bx
theorem IsQ.base (h : IsQ W B r ov s a most out er) : B ≤ W.heap.size := Nat.le_of_lt (Nat.lt_of_le_of_lt h.hr h.lt)
theorem IsQ.ne (h : IsQ W B r ov s a most out er) : ov.ownBlock ≠ some r := fun e => Kd.R_ne h.ro h.bx (by decide) e.symm
theorem IsQ.ge (h : IsQ W B r ov s a most out er) (k : Nat) (hk : QS r ov k) : B ≤ k := by
  rcases hk with rfl | hk
  · exact h.hr
  · exact Kd.R_base h.ro k hk
theorem IsQ.keep {S : Nat → Prop} (h : IsQ W B r ov s a most out er) (hf : Fr S W W') (hn : ∀ k, QS r ov k → ¬ S k) : IsQ W' B r ov s a most out er :=
  ⟨hf.blk h.bx (hn r (Or.inl rfl)), rowB_keep h.ro (fun k e hk => hf.block k hk (hn k (Or.inr e))), h.hr, h.le, h.sz, h.ml, h.ol⟩
theorem IsQ.below (h : IsQ W B r ov s a most out er) (hb : Below W.heap.size W W') : IsQ W' B r ov s a most out er := h.keep (Fr.of_below_all hb (fun _ => False)) (fun _ _ h => h)
theorem IsQ.c0 (h : IsQ W B r ov s a most out er) : W.cell? ⟨r, 0, none⟩ = some (.string s) := (blk_cell h.bx 0).trans rfl
theorem IsQ.c1 (h : IsQ W B r ov s a most out er) : W.cell? ⟨r, 1, none⟩ = some (.int .i64 a) := (blk_cell h.bx 1).trans rfl
theorem IsQ.c2 (h : IsQ W B r ov s a most out er) : W.cell? ⟨r, 2, none⟩ = some (.int .i64 most) := (blk_cell h.bx 2).trans rfl
theorem IsQ.c3 (h : IsQ W B r ov s a most out er) : W.cell? ⟨r, 3, none⟩ = some ov := (blk_cell h.bx 3).trans rfl
theorem IsQ.c4 (h : IsQ W B r ov s a most out er) : W.cell? ⟨r, 4, none⟩ = some (.int .i64 er) := (blk_cell h.bx 4).trans rfl
theorem IsQ.fz (h : IsQ W B r ov s a most out er) (i : Nat) : W.frozen? ⟨r, i, none⟩ = false := blk_frozen h.bx i
theorem IsQ.slice (h : IsQ W B r ov s a most out er) : ∃ A c, ov = .slice A out.length c := Kd.R_slice h.ro
/-- A field that holds no row is written. -/
theorem IsQ.rowK (h : IsQ W B r ov s a most out er) (i : Nat) (v : Value) : Kd.R (Kd.int .u8) 5 (W.setCell ⟨r, i, none⟩ v) B (fun _ => True) ov out :=
  rowB_keep h.ro (fun k e _ => Below.heap_setCell _ _ _ _ (fun e2 => h.ne (by rw [e, e2])))
theorem IsQ.setA (h : IsQ W B r ov s a most out er) (a' : Nat) (ha : a' ≤ 8 * s.size) : IsQ (W.setCell ⟨r, 1, none⟩ (.int .i64 a')) B r ov s a' most out er :=
  ⟨blk_set h.bx 1 _, h.rowK 1 _, h.hr, ha, h.sz, h.ml, h.ol⟩
theorem IsQ.setE (h : IsQ W B r ov s a most out er) (e : Int) : IsQ (W.setCell ⟨r, 4, none⟩ (.int .i64 e)) B r ov s a most out e :=
  ⟨blk_set h.bx 4 _, h.rowK 4 _, h.hr, h.le, h.sz, h.ml, h.ol⟩
theorem QS_set (i : Nat) (v : Value) : Fr (QS r ov) W (W.setCell ⟨r, i, none⟩ v) := (Fr.refl _ W).setCell (p := ⟨r, i, none⟩) (Or.inl (Or.inl rfl)) v
end
/-- What a reader's call tells. -/
def PQ {α : Type} (V : α → Value) (J : Value) (O : α → List Int) (B r : Nat) (ov : Value) (s : ByteArray) (most : Nat) (W : World) (res : Res α) (e : Ending) (w' : World) : Prop :=
  match res with
  | .ok v a => e = .returned (V v) ∧ ∃ ov', IsQ w' B r ov' s a most (O v) 0 ∧ Fr (QS r ov) W w' ∧ AtB W ov ov'
  | .no er => e = .returned J ∧ er ≠ 0 ∧ ∃ a' ov' out', IsQ w' B r ov' s a' most out' er ∧ Fr (QS r ov) W w' ∧ AtB W ov ov'
theorem QS_then {W w w' : World} {r : Nat} {ov ov1 : Value} (h : Fr (QS r ov) W w) (k : Fr (QS r ov1) w w') (ha : AtB W ov ov1) : Fr (QS r ov) W w' :=
  h.then_ k (fun q hq => by
    rcases hq with hq | hq
    · exact Or.inl (Or.inl hq)
    · rcases ha with ha | ⟨b, hb, hb2⟩
      · exact Or.inl (Or.inr (ha ▸ hq))
      · rw [hb] at hq
        injection hq with hq
        subst hq
        exact Or.inr hb2)
set_option maxRecDepth 100000 in
set_option maxHeartbeats 4000000 in
theorem bitsQ_bad {W : World} {B r : Nat} {ov : Value} {s : ByteArray} {a most : Nat} {out : List Int} {er : Int} (h : IsQ W B r ov s a most out er) (he : er ≠ 0) (n : Int) :
    Calls Try.prog 24 #[.pointer (some ⟨r, 0, none⟩), .int .i64 n] W fun e w' => e = .returned (.int .i64 0) ∧ Below W.heap.size W w' := by
  have c4 := h.c4
  have b1 : (er == 0) = false := by rw [beq_eq_false_iff_ne]; exact he
  have b2 : decide (er = 0) = false := decide_eq_false he
  clear h he
  go_enter Try.func24, Try.ntmps24
  go_wp2_with fail
  go_ret
  exact ⟨rfl, Below.refl _ _⟩
set_option maxRecDepth 100000 in
set_option maxHeartbeats 4000000 in
theorem bitsQ_ok {W : World} {B r : Nat} {ov : Value} {s : ByteArray} {a most : Nat} {out : List Int} (h : IsQ W B r ov s a most out 0) (n : Nat) (hn : n ≤ 57) (hf : a + n ≤ 8 * s.size) :
    Calls Try.prog 24 #[.pointer (some ⟨r, 0, none⟩), .int .i64 n] W fun e w' => e = .returned (.int .i64 (nb (sbit s) a n : Nat)) ∧ IsQ w' B r ov s (a + n) most out 0 ∧ Fr (fun k => k = r) W w' := by
  have H := Aside0.mk h
  have c0 := h.c0
  have c1 := h.c1
  have c4 := h.c4
  have HC := Aside0.mk (fun W => refBits_any s h.sz a n h.le hn W)
  have b0 := Below.refl W.heap.size W
  have HK := Aside0.mk (fun (w' : World) (hb : Below W.heap.size W w') => (And.intro ((H.out.below hb).c0) ((H.out.below hb).c1)))
  have HF := Aside0.mk hf
  rw [decide_eq_true hf, if_neg (by omega)] at HC
  have hw : IntKind.i64.wrap ((a : Int) + (n : Int)) = (a : Int) + (n : Int) := IntWalk.i64_in _ (by have := h.sz; omega)
  clear h hf
  go_enter Try.func24, Try.ntmps24
  go_upto_region 3 with (fail)
  have b0d : Below W.heap.size W W.drew := below_drew b0
  go_region_held3 (fun w' => Below W.heap.size W w' ∧ w'.cell? ⟨r, 0, none⟩ = some (.string s) ∧ w'.cell? ⟨r, 1, none⟩ = some (.int .i64 a)) ((refine ⟨?_, ?_, ?_⟩ <;> first | assumption | (exact (HK.out _ (by assumption)).1) | (exact (HK.out _ (by assumption)).2) | go_keep)) ((first | (go_at_call 37; refine (HC.out _).mono ?_; rintro e w8 ⟨rfl, hb8⟩; have b8 := b0d.trans hb8)))
  rename_i hHeld
  have HQ := Aside0.mk (H.out.below b8)
  have HB := Aside0.mk b8
  clear hHeld b0 b0d b8 HK HC c0 c1 c4
  have c1 := HQ.out.c1
  have f1 := HQ.out.fz 1
  go_wp2_with fail
  go_ret
  refine ⟨rfl, ?_, (Fr.of_below_all HB.out (fun k => k = r)).setCell (p := ⟨r, 1, none⟩) (Or.inl rfl) _⟩
  have := HQ.out.setA (a + n) HF.out
  rw [Int.natCast_add] at this
  exact this
set_option maxRecDepth 100000 in
set_option maxHeartbeats 4000000 in
theorem bitsQ_short {W : World} {B r : Nat} {ov : Value} {s : ByteArray} {a most : Nat} {out : List Int} (h : IsQ W B r ov s a most out 0) (n : Nat) (hn : n ≤ 57) (hf : ¬ a + n ≤ 8 * s.size) :
    Calls Try.prog 24 #[.pointer (some ⟨r, 0, none⟩), .int .i64 n] W fun e w' => e = .returned (.int .i64 0) ∧ IsQ w' B r ov s a most out 5 ∧ Fr (fun k => k = r) W w' := by
  have H := Aside0.mk h
  have c0 := h.c0
  have c1 := h.c1
  have c4 := h.c4
  have HC := Aside0.mk (fun W => refBits_any s h.sz a n h.le hn W)
  have b0 := Below.refl W.heap.size W
  have HK := Aside0.mk (fun (w' : World) (hb : Below W.heap.size W w') => (And.intro ((H.out.below hb).c0) ((H.out.below hb).c1)))
  rw [decide_eq_false hf, if_pos (by omega)] at HC
  clear h hf
  go_enter Try.func24, Try.ntmps24
  go_upto_region 3 with (fail)
  have b0d : Below W.heap.size W W.drew := below_drew b0
  go_region_held3 (fun w' => Below W.heap.size W w' ∧ w'.cell? ⟨r, 0, none⟩ = some (.string s) ∧ w'.cell? ⟨r, 1, none⟩ = some (.int .i64 a)) ((refine ⟨?_, ?_, ?_⟩ <;> first | assumption | (exact (HK.out _ (by assumption)).1) | (exact (HK.out _ (by assumption)).2) | go_keep)) ((first | (go_at_call 37; refine (HC.out _).mono ?_; rintro e w8 ⟨rfl, hb8⟩; have b8 := b0d.trans hb8)))
  rename_i hHeld
  have HQ := Aside0.mk (H.out.below b8)
  have HB := Aside0.mk b8
  clear hHeld b0 b0d b8 HK HC c0 c1 c4
  have c4 := HQ.out.c4
  have f4 := HQ.out.fz 4
  go_wp2_with fail
  go_ret
  exact ⟨rfl, HQ.out.setE 5, (Fr.of_below_all HB.out (fun k => k = r)).setCell (p := ⟨r, 4, none⟩) (Or.inl rfl) _⟩
theorem QS_of_r {W W' : World} {r : Nat} {ov : Value} (h : Fr (fun k => k = r) W W') : Fr (QS r ov) W W' := h.mono (fun _ _ hk => Or.inl hk)
/-- A reading under way. -/
structure QG (W w : World) (B r : Nat) (ov : Value) (s : ByteArray) (most : Nat) (a1 : Nat) (ov1 : Value) (o1 : List Int) (er : Int) : Prop where
  ix : IsQ w B r ov1 s a1 most o1 er
  fr : Fr (QS r ov) W w
  atb : AtB W ov ov1
section
variable {W w w1 : World} {B r : Nat} {ov ov1 v1 : Value} {s : ByteArray} {most a1 : Nat} {o1 zs : List Int} {er : Int}
theorem QG.start (h : IsQ W B r ov s a1 most o1 er) : QG W W B r ov s most a1 ov o1 er := ⟨h, Fr.refl _ _, AtB.refl _ _⟩
theorem QG.below (h : QG W w B r ov s most a1 ov1 o1 er) (hb : Below w.heap.size w w1) : QG W w1 B r ov s most a1 ov1 o1 er := ⟨h.ix.below hb, h.fr.add hb, h.atb⟩
theorem QG.used {a2 : Nat} {ov2 : Value} {o2 : List Int} {e2 : Int} (h : QG W w B r ov s most a1 ov1 o1 er) (hx : IsQ w1 B r ov2 s a2 most o2 e2) (hf : Fr (QS r ov1) w w1) (ha : AtB w ov1 ov2) : QG W w1 B r ov s most a2 ov2 o2 e2 :=
  ⟨hx, QS_then h.fr hf h.atb, AtB.trans h.atb ha h.fr.size⟩
theorem QG.setA (h : QG W w B r ov s most a1 ov1 o1 er) (a' : Nat) (ha : a' ≤ 8 * s.size) : QG W (w.setCell ⟨r, 1, none⟩ (.int .i64 a')) B r ov s most a' ov1 o1 er := h.used (h.ix.setA a' ha) (QS_set 1 _) (AtB.refl _ _)
theorem QG.setE (h : QG W w B r ov s most a1 ov1 o1 er) (e : Int) : QG W (w.setCell ⟨r, 4, none⟩ (.int .i64 e)) B r ov s most a1 ov1 o1 e := h.used (h.ix.setE e) (QS_set 4 _) (AtB.refl _ _)
theorem IsQ.grow (h : IsQ w B r ov1 s a1 most o1 er) (ho : Kd.R (Kd.int .u8) 5 w1 B (fun _ => True) v1 zs) (hg : w.grownBy w1 ov1.ownBlock) (hat : v1.ownBlock = ov1.ownBlock ∨ ∃ b, v1.ownBlock = some b ∧ w.heap.size ≤ b) (hz : zs.length ≤ most) :
    IsQ (w1.setCell ⟨r, 3, none⟩ v1) B r v1 s a1 most zs er ∧ Fr (QS r ov1) w (w1.setCell ⟨r, 3, none⟩ v1) ∧ AtB w ov1 v1 := by
  have hn := h.ne
  have hbx := (hg.block r h.lt (fun e => hn e.symm)).trans h.bx
  have n1 : v1.ownBlock ≠ some r := fun e => Kd.R_ne ho hbx (by decide) e.symm
  have hk : ∀ k, k ≠ r → (w1.setCell ⟨r, 3, none⟩ v1).heap[k]? = w1.heap[k]? := fun k e => Below.heap_setCell _ _ _ _ e
  refine ⟨⟨blk_set hbx 3 v1, rowB_keep ho (fun k e _ => hk k (fun e2 => n1 (by rw [e, e2]))), h.hr, h.le, h.sz, h.ml, hz⟩, ?_, hat⟩
  exact ((Fr.refl (QS r ov1) w).grown hg (fun k hk => Or.inl (Or.inr hk))).setCell (p := ⟨r, 3, none⟩) (Or.inl (Or.inl rfl)) v1
theorem QG.grow (h : QG W w B r ov s most a1 ov1 o1 er) (ho : Kd.R (Kd.int .u8) 5 w1 B (fun _ => True) v1 zs) (hg : w.grownBy w1 ov1.ownBlock) (hat : v1.ownBlock = ov1.ownBlock ∨ ∃ b, v1.ownBlock = some b ∧ w.heap.size ≤ b) (hz : zs.length ≤ most) :
    QG W (w1.setCell ⟨r, 3, none⟩ v1) B r ov s most a1 v1 zs er := by
  obtain ⟨h1, h2, h3⟩ := h.ix.grow ho hg hat hz
  exact h.used h1 h2 h3
/-- What a reading comes to. -/
theorem QG.ok {α : Type} {V : α → Value} {J : Value} {O : α → List Int} {v : α} (h : QG W w B r ov s most a1 ov1 (O v) 0) {e : Ending} (he : e = .returned (V v)) : PQ V J O B r ov s most W (.ok v a1) e w := ⟨he, ov1, h.ix, h.fr, h.atb⟩
theorem QG.no {α : Type} {V : α → Value} {J : Value} {O : α → List Int} (h : QG W w B r ov s most a1 ov1 o1 er) (h0 : er ≠ 0) {e : Ending} (he : e = .returned J) : PQ V J O B r ov s most W (.no er) e w := ⟨he, h0, a1, ov1, o1, h.ix, h.fr, h.atb⟩
end
/-- A reader that goes on, or has ended. -/
theorem endsQ {W : World} {B r : Nat} {ov : Value} {s : ByteArray} {a most : Nat} {out : List Int} (h : IsQ W B r ov s a most out 0) (er : Int) :
    Calls Try.prog 29 #[.pointer (some ⟨r, 0, none⟩), .int .i64 er] W fun e w' => e = .returned (.tuple #[]) ∧ IsQ w' B r ov s a most out er ∧ Fr (QS r ov) W w' := by
  have H := Aside0.mk h
  have c4 := h.c4
  have f4 := h.fz 4
  clear h
  go_enter Try.func29, Try.ntmps29
  go_wp2_with fail
  go_end0
  exact ⟨rfl, H.out.setE er, QS_set 4 _⟩
theorem endsQ_bad {W : World} {B r : Nat} {ov : Value} {s : ByteArray} {a most : Nat} {out : List Int} {e0 : Int} (h : IsQ W B r ov s a most out e0) (he : e0 ≠ 0) (er : Int) :
    Calls Try.prog 29 #[.pointer (some ⟨r, 0, none⟩), .int .i64 er] W fun e w' => e = .returned (.tuple #[]) ∧ w' = W := by
  have c4 := h.c4
  have b1 : (e0 == 0) = false := by rw [beq_eq_false_iff_ne]; exact he
  have b2 : decide (e0 = 0) = false := decide_eq_false he
  clear h he
  go_enter Try.func29, Try.ntmps29
  go_wp2_with fail
  go_end0
  exact ⟨rfl, rfl⟩
end Go.Proofs.Ytaghmhcccighgaa.HI
end
