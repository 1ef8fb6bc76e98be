/- The state of HuffWrites: a table, a writer, rows of numbers. -/
import Derived.Test.YtmmoenleldcadaaHLaw
import Derived.Test.YtmmoenleldcadaaHTPut
import Derived.Test.YtmmoenleldcadaaPWord
import Derived.Test.YtmmoenleldcadaaPTextS
namespace Go.Proofs.Ytmmoenleldcadaa.HF
open Go.RowKit Go.Proofs.YtmmoenleldcadaaW.PrintWords Go.Proofs.YtmmoenleldcadaaW.PrintLast Go.Proofs.YtmmoenleldcadaaW.PrintMore Go.Proofs.Ytmmoenleldcadaa.HW Go.Proofs.Ytmmoenleldcadaa.MB Go.Proofs.Ytmmoenleldcadaa.Fn Go.Proofs.Ytmmoenleldcadaa.HP
theorem refWord_any (c L : Nat) (hc : c < 2 ^ 63) (hL : L ≤ 15) (W : World) : Calls Try.prog 32 #[.int .i64 L, .int .i64 c] W fun e w' => ∃ v, e = .returned v ∧ Kd.R (Kd.int .i64) 3 w' W.heap.size (fun _ => True) v (ib (wordB c L)) ∧ Below W.heap.size W w' := by
  obtain ⟨k, hk⟩ := word_ok c L hc hL
  exact postroadref03_Word.calls k L c _ W hk
theorem refText_any (A : Option Addr) (c : Nat) (l : List Bool) (hl : l.length ≤ 1000000) (W : World) (hr : Kd.C (Kd.int .i64) W A (ib l).length (ib l)) (hc : (ib l).length ≤ c) : Calls Try.prog 34 #[.slice A (ib l).length c] W fun e w' => ∃ s, e = .returned (.string s) ∧ STold s l ∧ Below W.heap.size W w' := by
  obtain ⟨s, hs, ht⟩ := PT.text_f l (by omega)
  exact (postroadref01_Text.calls (l.length + 1) A c (ib l) _ W hr hc hs).mono (fun _ _ h => ⟨s, h.1, ht, h.2⟩)
/-- A symbol's word; the words of symbols. -/
def wd (l : List Int) (x : Int) : List Bool := wordB (rd (codesL l) x).toNat (rd l x).toNat
def wds (l xs : List Int) : List Bool := xs.flatMap (wd l)
theorem wds_snoc (l xs : List Int) (x : Int) : wds l (xs ++ [x]) = wds l xs ++ wd l x := by unfold wds; simp [List.flatMap_append]
/-- A symbol with a word. -/
def okS (l : List Int) (x : Int) : Prop := 0 ≤ x ∧ x < l.length ∧ rd l x ≠ 0
theorem okS_open {l : List Int} (ho : okL l = true) {x : Int} (h : okS l x) : ∃ n L c : Nat, x = n ∧ ∃ hn : n < l.length, l[n] = (L : Int) ∧ 0 < L ∧ L ≤ 15 ∧ codeAt l n = (c : Int) ∧ c < 2 ^ 15 ∧ rd l x = (L : Int) ∧ rd (codesL l) x = (c : Int) ∧ wd l x = wordB c L := by
  obtain ⟨h1, h2, h3⟩ := h
  obtain ⟨n, rfl⟩ : ∃ n : Nat, x = n := ⟨x.toNat, by omega⟩
  have hn : n < l.length := by omega
  have e1 := rd_get l n hn
  have e2 := codes_rd l n hn
  have hr := (okL_open ho).2.1 l[n] (List.getElem_mem _)
  obtain ⟨L, hL⟩ : ∃ L : Nat, l[n] = L := ⟨l[n].toNat, by omega⟩
  have h0 : 0 < L := by
    rw [e1, hL] at h3
    omega
  obtain ⟨c1, c2, c3⟩ := code_fits ho n L hn hL h0
  obtain ⟨c, hc⟩ : ∃ c : Nat, codeAt l n = c := ⟨(codeAt l n).toNat, by omega⟩
  have hp := pow_bd (d := L) (by omega)
  refine ⟨n, L, c, rfl, hn, hL, h0, by omega, hc, by omega, by rw [e1, hL], by rw [e2, hc], ?_⟩
  unfold wd
  rw [e1, e2, hL, hc, Int.toNat_natCast, Int.toNat_natCast]
theorem wd_len {l : List Int} (ho : okL l = true) {x : Int} (h : okS l x) : (wd l x).length ≤ 15 := by
  obtain ⟨n, L, c, _, _, _, _, h15, _, _, _, _, e⟩ := okS_open ho h
  rw [e, wordB_len]
  exact h15
theorem wds_len {l : List Int} (ho : okL l = true) : ∀ xs : List Int, (∀ x ∈ xs, okS l x) → (wds l xs).length ≤ 15 * xs.length
  | [], _ => by simp [wds]
  | x :: xs, h => by
    have h1 := wd_len ho (h x (by simp))
    have h2 := wds_len ho xs (fun y hy => h y (by simp [hy]))
    show (wd l x ++ wds l xs).length ≤ _
    rw [List.length_append, List.length_cons]
    omega
theorem wordB_get (c : Nat) : ∀ (L j : Nat), j < L → (wordB c L).getD j false = c.testBit (L - 1 - j)
  | 0, j, h => absurd h (Nat.not_lt_zero j)
  | L + 1, 0, _ => by rw [wordB]; show c.testBit L = _; rw [Nat.add_sub_cancel, Nat.sub_zero]
  | L + 1, j + 1, h => by
    have ih := wordB_get c L j (by omega)
    rw [wordB, show L + 1 - 1 - (j + 1) = L - 1 - j by omega, ← ih]
    rfl
/-- The words' text is read as the symbols. -/
theorem told_word {l : List Int} (ho : okL l = true) {xs : List Int} (hx : ∀ x ∈ xs, okS l x) {s : ByteArray} (hs : STold s (wds l xs)) (i : Nat) (hi : i < xs.length) :
    symF l s (wds l (xs.take i)).length = (xs[i], 0, (wds l (xs.take (i + 1))).length) ∧ (wds l (xs.take i)).length ≤ 8 * s.size := by
  obtain ⟨n, L, c, hxn, hn, hL, h0, h15, hc, _, _, _, hwd⟩ := okS_open ho (hx xs[i] (List.getElem_mem _))
  have e1 : wds l (xs.take (i + 1)) = wds l (xs.take i) ++ wd l xs[i] := by rw [List.take_succ_eq_append_getElem hi, wds_snoc]
  have e2 : wds l xs = wds l (xs.take i) ++ (wd l xs[i] ++ wds l (xs.drop (i + 1))) := by
    conv => lhs; rw [← List.take_append_drop (i + 1) xs]
    show List.flatMap (wd l) _ = _
    rw [List.flatMap_append]
    show wds l (xs.take (i + 1)) ++ wds l (xs.drop (i + 1)) = _
    rw [e1, List.append_assoc]
  have hlen : (wds l (xs.take (i + 1))).length = (wds l (xs.take i)).length + L := by rw [e1, List.length_append, hwd, wordB_len]
  have htot : (wds l (xs.take i)).length + L ≤ (wds l xs).length := by rw [e2, List.length_append, List.length_append, hwd, wordB_len]; omega
  have hsz := hs.1
  refine ⟨?_, by omega⟩
  rw [hlen, hxn]
  refine symF_word ho s n L c _ hn hL h0 hc (by omega) (fun j hj => ?_)
  rw [hs.2, e2, getD_append, if_neg (by omega), Nat.add_sub_cancel_left, getD_append, if_pos (by rw [hwd, wordB_len]; exact hj), hwd, wordB_get c L j hj]
/-- The state of the reading back. -/
structure RbS (W w : World) (B t gr gw : Nat) (l : List Int) (lv wv sv vd : Value) (xs : List Int) (s : ByteArray) (p : Nat) : Prop where
  tb : IsTab w B t l lv wv sv
  rd : IsR w gr s p
  dn : Kd.R (Kd.int .i64) 3 w gw (fun _ => True) vd xs
  gg : W.heap.size ≤ gr
  be : Below W.heap.size W w
theorem RbS.read {W w w' : World} {B t gr gw : Nat} {l : List Int} {lv wv sv vd : Value} {xs : List Int} {s : ByteArray} {p p' : Nat} (h : RbS W w B t gr gw l lv wv sv vd xs s p) (hr : IsR w' gr s p') (hf : Fr (fun k => k = gr) w w') : RbS W w' B t gr gw l lv wv sv vd xs s p' :=
  ⟨h.tb.keepR h.rd hf, hr, row_keep h.dn (fun k e hk => hf.block k hk (fun e2 => Kd.R_ne h.dn h.rd (by decide) (by rw [e, e2]))), h.gg, h.be.trans (hf.below h.be.size (fun k hk => by rw [hk]; exact h.gg))⟩
theorem notWS {w : World} {b B2 g : Nat} {vr v : Value} {ys : List Int} {bl : List Bool} (hr : Kd.R (Kd.int .i64) 3 w b (fun _ => True) vr ys) (hi : IsW w B2 g v bl) : ∀ k, vr.ownBlock = some k → ¬ WS g v k := by
  rintro k hk (rfl | e)
  · exact Kd.R_ne hr hi.1 (by decide) hk.symm
  · obtain ⟨_, _, bs, ho, _⟩ := hi
    obtain ⟨cells, hc⟩ := own_typed ho k e
    exact Kd.R_ne hr hc (by decide) hk.symm
structure WtS (W w : World) (B t gw : Nat) (l : List Int) (lv wv sv vw v va vd : Value) (bl al : List Bool) (xs : List Int) : Prop where
  tb : IsTab w B t l lv wv sv
  tl : ∀ k, TabB t lv wv sv k → k < gw
  iw : IsW w gw gw v bl
  cw : Kd.R (Kd.int .i64) 3 w W.heap.size (fun _ => True) vw (codesL l)
  cl : ∀ k, vw.ownBlock = some k → k < gw
  ra : Kd.R (Kd.int .i64) 3 w gw (fun _ => True) va (ib al)
  rd : Kd.R (Kd.int .i64) 3 w gw (fun _ => True) vd xs
  da : ∀ k, va.ownBlock = some k → vd.ownBlock ≠ some k
  be : Below W.heap.size W w
  ge : W.heap.size ≤ gw
section
variable {W w w' : World} {B t gw : Nat} {l : List Int} {lv wv sv vw v va vd : Value} {bl al : List Bool} {xs : List Int}
theorem WtS.below (h : WtS W w B t gw l lv wv sv vw v va vd bl al xs) (hb : Below w.heap.size w w') : WtS W w' B t gw l lv wv sv vw v va vd bl al xs :=
  ⟨h.tb.below hb, h.tl, h.iw.below hb, row_keep h.cw (fun k _ hk => hb.block k hk), h.cl, row_keep h.ra (fun k _ hk => hb.block k hk), row_keep h.rd (fun k _ hk => hb.block k hk), h.da, h.be.trans (hb.mono h.be.size), h.ge⟩
theorem WtS.put {v' : Value} {bl' : List Bool} (h : WtS W w B t gw l lv wv sv vw v va vd bl al xs) (hi : IsW w' gw gw v' bl') (hf : Fr (WS gw v) w w') : WtS W w' B t gw l lv wv sv vw v' va vd bl' al xs :=
  ⟨h.tb.keepW h.iw hf, h.tl, hi, row_keep h.cw (fun k e hk => hf.block k hk (notWS h.cw h.iw k e)), h.cl, row_keep h.ra (fun k e hk => hf.block k hk (notWS h.ra h.iw k e)), row_keep h.rd (fun k e hk => hf.block k hk (notWS h.rd h.iw k e)), h.da,
    h.be.trans (hf.below h.be.size (fun k hk => by
      rcases hk with rfl | hk
      · exact h.ge
      · exact Nat.le_trans h.ge (h.iw.row_lt k hk).1)), h.ge⟩
theorem WtS.row (h : WtS W w B t gw l lv wv sv vw v va vd bl al xs) {vr : Value} (hg : w.grownBy w' vr.ownBlock) (h1 : ∀ k, vr.ownBlock = some k → gw ≤ k ∧ k < w.heap.size ∧ k ≠ gw ∧ v.ownBlock ≠ some k) :
    IsTab w' B t l lv wv sv ∧ IsW w' gw gw v bl ∧ Kd.R (Kd.int .i64) 3 w' W.heap.size (fun _ => True) vw (codesL l) ∧ Below W.heap.size W w' := by
  have hf := (Fr.refl (fun k => vr.ownBlock = some k) w).grown hg (fun k hk => Or.inl hk)
  exact ⟨h.tb.keep hf (fun k hk e => by have := h.tl k hk; have := (h1 k e).1; omega), h.iw.keep hf (fun e => (h1 gw e).2.2.1 rfl) (fun k hk e => (h1 k e).2.2.2 hk), row_keep h.cw (fun k e hk => hf.block k hk (fun e2 => by have := h.cl k e; have := (h1 k e2).1; omega)), h.be.trans (hf.below h.be.size (fun k hk => Nat.le_trans h.ge (h1 k hk).1))⟩
theorem WtS.own (h : WtS W w B t gw l lv wv sv vw v va vd bl al xs) {vr : Value} {ys : List Int} (hr : Kd.R (Kd.int .i64) 3 w gw (fun _ => True) vr ys) : ∀ k, vr.ownBlock = some k → gw ≤ k ∧ k < w.heap.size ∧ k ≠ gw ∧ v.ownBlock ≠ some k := fun k hk =>
  ⟨Kd.R_base hr k hk, Kd.R_lt hr k hk, fun e => notWS hr h.iw k hk (Or.inl e), fun e => notWS hr h.iw k hk (Or.inr e)⟩
theorem WtS.appA {v1 : Value} {al' : List Bool} (h : WtS W w B t gw l lv wv sv vw v va vd bl al xs) (ho : Kd.R (Kd.int .i64) 3 w' gw (fun _ => True) v1 (ib al')) (hg : w.grownBy w' va.ownBlock) (hat : v1.ownBlock = va.ownBlock ∨ ∃ b, v1.ownBlock = some b ∧ w.heap.size ≤ b) : WtS W w' B t gw l lv wv sv vw v v1 vd bl al' xs := by
  obtain ⟨g1, g2, g3, g4⟩ := h.row hg (h.own h.ra)
  refine ⟨g1, h.tl, g2, g3, h.cl, ho, row_keep h.rd (fun k e hk => hg.block k hk (fun e2 => h.da k e2.symm e)), fun k hk => ?_, g4, h.ge⟩
  rcases hat with e | ⟨b, e, hb⟩
  · exact h.da k (e ▸ hk)
  · rw [hk] at e
    injection e with e
    subst e
    exact fun e => by have := Kd.R_lt h.rd k e; omega
theorem WtS.appD {v1 : Value} {xs' : List Int} (h : WtS W w B t gw l lv wv sv vw v va vd bl al xs) (ho : Kd.R (Kd.int .i64) 3 w' gw (fun _ => True) v1 xs') (hg : w.grownBy w' vd.ownBlock) (hat : v1.ownBlock = vd.ownBlock ∨ ∃ b, v1.ownBlock = some b ∧ w.heap.size ≤ b) : WtS W w' B t gw l lv wv sv vw v va v1 bl al xs' := by
  obtain ⟨g1, g2, g3, g4⟩ := h.row hg (h.own h.rd)
  refine ⟨g1, h.tl, g2, g3, h.cl, row_keep h.ra (fun k e hk => hg.block k hk (fun e2 => h.da k e e2.symm)), ho, fun k hk => ?_, g4, h.ge⟩
  rcases hat with e | ⟨b, e, hb⟩
  · rw [e]; exact h.da k hk
  · rw [e]
    intro e2
    injection e2 with e2
    subst e2
    have := Kd.R_lt h.ra b hk
    omega
end
end Go.Proofs.Ytmmoenleldcadaa.HF
