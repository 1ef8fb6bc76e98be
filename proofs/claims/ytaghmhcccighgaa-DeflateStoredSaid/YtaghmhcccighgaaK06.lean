/- Parts: HRq2 HRq3 HRs -/
import Derived.Test.YtaghmhcccighgaaK05
set_option linter.unusedVariables false
set_option linter.unusedSimpArgs false
section
/- The document's codes: times, made, symbol; walked. -/
namespace Go.Proofs.Ytaghmhcccighgaa.HI
open Go.RowKit Go.Proofs.YtaghmhcccighgaaW.PrintWords Go.Proofs.YtaghmhcccighgaaW.PrintLast Go.Proofs.YtaghmhcccighgaaW.PrintMore Go.Proofs.Ytaghmhcccighgaa.HW Go.Proofs.Ytaghmhcccighgaa.MB Go.Proofs.Ytaghmhcccighgaa.Fn Go.Proofs.Ytaghmhcccighgaa.HF Go.Proofs.Ytaghmhcccighgaa.RT Go.Proofs.Ytaghmhcccighgaa.RT.Rd
attribute [local go_sem] max2_int min2_int max_two min_two max_three min_three max_four min_four   -- for this text's walks alone
/-- A row of numbers, read: its block holds numbers and lies below N. -/
def RowIn (w : World) (N : Nat) (v : Value) (xs : List Int) : Prop :=
  ∃ (b o c : Nat) (cells : Array Value), v = .slice (some ⟨b, o, none⟩) xs.length c ∧ xs.length ≤ c ∧ b < N ∧ w.heap[b]? = some (.cells cells 3 (0, 0)) ∧ Kd.C (Kd.int .i64) w (some ⟨b, o, none⟩) xs.length xs
theorem cell_same {w w' : World} {b : Nat} (h : w'.heap[b]? = w.heap[b]?) (o : Nat) : w'.cell? ⟨b, o, none⟩ = w.cell? ⟨b, o, none⟩ := by
  unfold World.cell?
  simp only [h]
theorem RowIn.keep {w w' : World} {N : Nat} {v : Value} {xs : List Int} {S : Nat → Prop} (h : RowIn w N v xs) (hf : Fr S w w') (hn : ∀ k cells, k < N → w.heap[k]? = some (.cells cells 3 (0, 0)) → ¬ S k) : RowIn w' N v xs := by
  obtain ⟨b, o, c, cells, h1, h2, h3, h4, h5⟩ := h
  have hb := hf.block b (blk_lt h4) (hn b cells h3 h4)
  refine ⟨b, o, c, cells, h1, h2, h3, hb.trans h4, h5.1, h5.2.1, fun hp => ?_⟩
  obtain ⟨ad, e, hc⟩ := h5.2.2 hp
  refine ⟨ad, e, fun j p hj => ?_⟩
  obtain ⟨cs, g1, g2, g3⟩ := hc j p hj
  refine ⟨cs, g1, g2, fun i u hu => ?_⟩
  have := g3 i u hu
  injection e with e
  subst e
  rw [add_at] at this ⊢
  rw [cell_same hb]
  exact this
theorem RowIn.below {w w' : World} {N : Nat} {v : Value} {xs : List Int} (h : RowIn w N v xs) (hb : Below w.heap.size w w') : RowIn w' N v xs := h.keep (Fr.of_below_all hb (fun _ => False)) (fun _ _ _ _ h => h)
theorem RowIn.mono {w : World} {N N' : Nat} {v : Value} {xs : List Int} (h : RowIn w N v xs) (hN : N ≤ N') : RowIn w N' v xs := by
  obtain ⟨b, o, c, cells, h1, h2, h3, h4, h5⟩ := h
  exact ⟨b, o, c, cells, h1, h2, by omega, h4, h5⟩
theorem RowIn.of_R {w : World} {B : Nat} {v : Value} {xs : List Int} (h : Kd.R (Kd.int .i64) 3 w B (fun _ => True) v xs) (hn : 0 < xs.length) : RowIn w w.heap.size v xs := by
  obtain ⟨g, cap, hv, h1, h2, cells, hc⟩ := Kd.R_form h hn
  subst hv
  have := Kd.R_reads' h
  exact ⟨g, 0, cap, cells, rfl, this.2.1, h2, hc, this.2.2⟩
/-- A code: its lengths, its words. -/
def CodeIs (w : World) (N : Nat) (c : Value) (lens : List Int) : Prop := ∃ v1 v2, c = .agg #[v1, v2] ∧ RowIn w N v1 lens ∧ RowIn w N v2 (codesL lens)
theorem CodeIs.keep {w w' : World} {N : Nat} {c : Value} {xs : List Int} {S : Nat → Prop} (h : CodeIs w N c xs) (hf : Fr S w w') (hn : ∀ k cells, k < N → w.heap[k]? = some (.cells cells 3 (0, 0)) → ¬ S k) : CodeIs w' N c xs := by
  obtain ⟨v1, v2, h1, h2, h3⟩ := h
  exact ⟨v1, v2, h1, h2.keep hf hn, h3.keep hf hn⟩
theorem CodeIs.below {w w' : World} {N : Nat} {c : Value} {xs : List Int} (h : CodeIs w N c xs) (hb : Below w.heap.size w w') : CodeIs w' N c xs := h.keep (Fr.of_below_all hb (fun _ => False)) (fun _ _ _ _ h => h)
theorem CodeIs.mono {w : World} {N N' : Nat} {c : Value} {xs : List Int} (h : CodeIs w N c xs) (hN : N ≤ N') : CodeIs w N' c xs := by
  obtain ⟨v1, v2, h1, h2, h3⟩ := h
  exact ⟨v1, v2, h1, h2.mono hN, h3.mono hN⟩
/-- A block of numbers is none of a reader's. -/
theorem IsQ.apartB {W : World} {B r : Nat} {ov : Value} {s : ByteArray} {a most : Nat} {out : List Int} {er : Int} (hx : IsQ W B r ov s a most out er) {k : Nat} {cells : Array Value} (hk : W.heap[k]? = some (.cells cells 3 (0, 0))) : ¬ QS r ov k := by
  rintro (rfl | e)
  · have h1 := hx.bx
    rw [hk] at h1
    injection h1 with h1
    injection h1 with _ h1
    exact absurd h1 (by decide)
  · exact Kd.R_ne hx.ro hk (by decide) e.symm
theorem CodeIs.keepQ {W W' : World} {N : Nat} {c : Value} {xs : List Int} {B r : Nat} {ov : Value} {s : ByteArray} {a most : Nat} {out : List Int} {er : Int} (h : CodeIs W N c xs) (hx : IsQ W B r ov s a most out er) (hf : Fr (QS r ov) W W') : CodeIs W' N c xs := h.keep hf (fun _ _ _ hk => hx.apartB hk)
set_option maxRecDepth 100000 in
set_option maxHeartbeats 4000000 in
theorem times_ok (v : Value) (l : List Int) (x : Int) (n B : Nat) (W : World) (h : Kd.R (Kd.int .i64) 3 W B (fun _ => True) v l) (hB : B ≤ W.heap.size) (hl : l.length + n ≤ 1000) :
    Calls Try.prog 38 #[v, .int .i64 x, .int .i64 n] W fun e w' => ∃ v', e = .returned v' ∧ Kd.R (Kd.int .i64) 3 w' B (fun _ => True) v' (l ++ List.replicate n x) ∧ Fr (fun k => v.ownBlock = some k) W w' ∧ AtB W v v' := by
  have HL := Aside0.mk hl
  have HB := Aside0.mk hB
  have HR0 : Aside0 (Kd.R (Kd.int .i64) 3 W B (fun _ => True) v (l ++ List.replicate 0 x) ∧ Fr (fun k => v.ownBlock = some k) W W ∧ AtB W v v) := ⟨by rw [List.replicate_zero, List.append_nil]; exact h, Fr.refl _ _, AtB.refl _ _⟩
  clear h hl hB
  go_enter Try.func38, Try.ntmps38
  go_wp2_with fail
  go_loopw [0, 7] (fun v0 v7 wr => ∃ (i : Nat) (u : Value), v7 = .int .i64 i ∧ v0 = u ∧ i ≤ n ∧ Aside0 (Kd.R (Kd.int .i64) 3 wr B (fun _ => True) u (l ++ List.replicate i x) ∧ Fr (fun k => v.ownBlock = some k) W wr ∧ AtB W v u)) (fun _ v7 _ => n - (intOf v7).toNat)
  case atStart => exact ⟨0, v, rfl, rfl, Nat.zero_le _, HR0⟩
  case round =>
    clear HR0
    obtain ⟨i, u, rfl, hu, hi, HR⟩ := hrel
    have hu' := hu.symm
    clear hu
    subst hu'
    by_cases hlt : i < n
    · have b1 : decide (i < n) = true := decide_eq_true hlt
      have b2 : decide ((i : Int) < (n : Int)) = true := decide_eq_true (by omega)
      have hw : IntKind.i64.wrap ((i : Int) + 1) = (i : Int) + 1 := IntWalk.i64_in _ (by have := HL.out; omega)
      have HI := Aside0.mk hlt
      clear hlt hi
      go_wp2_with ((with_reducible refine gate_builtin (b := .append) (xs := #[.tmp 13, .tmp 15]) rfl ?_); at_builtin; go_must (refine Kd.R_append (Kd.int .i64) (w0 := wr) B rfl (.tmp 13) (.tmp 15) 48 3 (.int .i64 0) 8 rfl Try.underlying48 info3 rfl (by decide) (by decide) u (l ++ List.replicate i x) x [.int .i64 x] (fun _ => True) (fun _ => False) rfl rfl ?aP (fun _ hk => hk.elim) ?aF ?aO ?aB ?aS ?aL ?_); (case aP => exact rfl); (case aF => exact (fun _ _ => trivial)); (case aO => exact HR.out.1); (case aB => exact Below.refl _ _); (case aS => exact Nat.le_trans HB.out HR.out.2.1.size); (case aL => rw [List.length_append, List.length_replicate]; have := HL.out; have := HI.out; omega); intro v1 w8 ho hb hg hat; have HR8 : Aside0 (Kd.R (Kd.int .i64) 3 w8 B (fun _ => True) v1 (l ++ List.replicate (i + 1) x) ∧ Fr (fun k => v.ownBlock = some k) W w8 ∧ AtB W v v1) := ⟨by rw [List.replicate_succ', ← List.append_assoc]; exact ho, HR.out.2.1.grown hg (fun k hk => by rcases HR.out.2.2 with e | ⟨b, e, hb2⟩; exact Or.inl (e ▸ hk); rw [e] at hk; injection hk with hk; subst hk; exact Or.inr hb2), AtB.trans HR.out.2.2 hat HR.out.2.1.size⟩; clear ho hb hg hat)
      go_roundw
      case rel => exact ⟨i + 1, _, by simp, rfl, HI.out, HR8⟩
      case measure => simp [intOf]; have := HI.out; omega
    · have hie : i = n := by omega
      subst hie
      have b1 : decide (i < i) = false := decide_eq_false (by omega)
      have b2 : decide ((i : Int) < (i : Int)) = false := decide_eq_false (by omega)
      clear hlt hi
      go_wp2_with fail
      go_ret
      exact ⟨_, rfl, HR.out⟩
set_option maxRecDepth 100000 in
set_option maxHeartbeats 4000000 in
theorem made_ok (v : Value) (lens : List Int) (N : Nat) (W : World) (h : RowIn W N v lens) (hN : N ≤ W.heap.size) (hl : 0 < lens.length) :
    Calls Try.prog 39 #[v] W fun e w' => (∃ A2 n2 c2, e = .returned (.agg #[v, .slice A2 n2 c2]) ∧ (okL lens = true → CodeIs w' w'.heap.size (.agg #[v, .slice A2 n2 c2]) lens)) ∧ Below W.heap.size W w' := by
  have H := Aside0.mk h
  have HL := Aside0.mk hl
  obtain ⟨b, o, c, cells, rfl, hc, hb, hcells, hC⟩ := h
  have HN := Aside0.mk hN
  have HC := Aside0.mk (fun (W' : World) (hb : Below W.heap.size W W') => refCodes_any (some ⟨b, o, none⟩) c lens W' (Kd.C_below hC hb) hc)
  clear hb hcells hC hN hl
  go_enter Try.func39, Try.ntmps39
  go_wp2_with fail
  refine (HC.out _ (below_alloc (Below.refl _ _) _)).mono ?_
  rintro e w2 ⟨v2, z, rfl, hr2, hb2⟩
  obtain ⟨A2, c2, e2⟩ := Kd.R_slice hr2
  subst e2
  generalize hn2 : (if okL lens = true then codesL lens else []).length = n2 at hr2 ⊢
  obtain ⟨q, hq⟩ : ∃ z, W.heap.size = z := ⟨_, rfl⟩
  have HBQ := Aside0.mk (below_alloc (Below.refl W.heap.size W) (.cells #[.slice none 0 0, .slice none 0 0] 50))
  have bq : (W.alloc (.cells #[.slice none 0 0, .slice none 0 0] 50)).heap[q]? = some (.cells #[.slice none 0 0, .slice none 0 0] 50 (0, 0)) := by rw [← hq]; exact heap_alloc_new _ _
  have HB2 := Aside0.mk (hb2)
  have b2 := (hb2.block q (blk_lt bq)).trans bq
  have HR2 := Aside0.mk hr2
  have HB := Aside0.mk b2
  have c0 := blk_cell b2 0
  have c1 := blk_cell b2 1
  have f0 := blk_frozen b2 0
  have f1 := blk_frozen b2 1
  rw [hq]
  clear hr2 hb2 bq b2 HC
  go_wp2_with fail
  have B1 := blk_set HB.out 0 (.slice (some ⟨b, o, none⟩) lens.length c)
  have B2 := blk_set B1 1 (.slice A2 n2 c2)
  refine bodyPost_ret (results_cell_row rfl _ _ q 50 #[.slice (some ⟨b, o, none⟩) lens.length c, .slice A2 n2 c2] (0, 0) _ rfl B2 Try.underlying50 rfl (by kernel_rfl)) rfl ?_
  have hf : Fr (fun k => k = q) w2 ((w2.setCell ⟨q, 0, none⟩ (.slice (some ⟨b, o, none⟩) lens.length c)).setCell ⟨q, 1, none⟩ (.slice A2 n2 c2)) := ((Fr.refl (fun k => k = q) w2).setCell (p := ⟨q, 0, none⟩) (Or.inl rfl) _).setCell (p := ⟨q, 1, none⟩) (Or.inl rfl) _
  have hs : (W.alloc (.cells #[.slice none 0 0, .slice none 0 0] 50)).heap.size = W.heap.size + 1 := by unfold World.alloc; exact Array.size_push _
  have hw : Below W.heap.size W w2 := HBQ.out.trans (HB2.out.mono (by omega))
  have hq3 : ∀ k cells, w2.heap[k]? = some (.cells cells 3 (0, 0)) → ¬ k = q := by
    intro k cells hk e
    subst e
    rw [HB.out] at hk
    injection hk with hk
    injection hk with _ hk
    exact absurd hk (by decide)
  refine ⟨⟨_, _, _, rfl, fun ho => ⟨_, _, rfl, ?_, ?_⟩⟩, hw.trans (hf.below hw.size (fun k hk => by omega))⟩
  · exact ((H.out.below hw).keep hf (fun k cells _ hk => hq3 k cells hk)).mono (Nat.le_trans HN.out (Nat.le_trans hw.size hf.size))
  · have hr := HR2.out
    have hlen : (codesL lens).length = lens.length := codesL_len lens
    rw [if_pos ho] at hr hn2
    have hr3 := RowIn.of_R hr (by rw [hlen]; exact HL.out)
    exact (hr3.keep hf (fun k cells _ hk => hq3 k cells hk)).mono hf.size
end Go.Proofs.Ytaghmhcccighgaa.HI
end
section
/- The document's symbol, stored, none; walked. -/
namespace Go.Proofs.Ytaghmhcccighgaa.HI
open Go.RowKit Go.Proofs.YtaghmhcccighgaaW.PrintWords Go.Proofs.YtaghmhcccighgaaW.PrintLast Go.Proofs.YtaghmhcccighgaaW.PrintMore Go.Proofs.Ytaghmhcccighgaa.HW Go.Proofs.Ytaghmhcccighgaa.MB Go.Proofs.Ytaghmhcccighgaa.Fn Go.Proofs.Ytaghmhcccighgaa.HF Go.Proofs.Ytaghmhcccighgaa.RT Go.Proofs.Ytaghmhcccighgaa.RT.Rd Go.Proofs.Ytaghmhcccighgaa.HP
attribute [local go_sem] max2_int min2_int max_two min_two max_three min_three max_four min_four   -- for this text's walks alone
theorem alloc_size (w : World) (o : Obj) : (w.alloc o).heap.size = w.heap.size + 1 := by
  unfold World.alloc
  exact Array.size_push _
set_option maxRecDepth 100000 in
set_option maxHeartbeats 4000000 in
theorem symbolQ_bad {W : World} {B r : Nat} {ov : Value} {s : ByteArray} {a most : Nat} {out : List Int} {er : Int} (h : IsQ W B r ov s a most out er) (he : er ≠ 0) (A1 : Option Addr) (n1 c1 : Nat) (A2 : Option Addr) (n2 c2 : Nat) :
    Calls Try.prog 40 #[.pointer (some ⟨r, 0, none⟩), .agg #[.slice A1 n1 c1, .slice A2 n2 c2]] W fun e w' => e = .returned (.int .i64 0) ∧ Below W.heap.size W w' := by
  have b1 : (er == 0) = false := by rw [beq_eq_false_iff_ne]; exact he
  have b2 : decide (er = 0) = false := decide_eq_false he
  have HB := Aside0.mk (below_alloc (Below.refl W.heap.size W) (.cells #[.slice A1 n1 c1, .slice A2 n2 c2] 50))
  have h4 := (h.below HB.out).c4
  clear h he
  go_enter Try.func40, Try.ntmps40
  go_wp2_with fail
  go_ret
  exact ⟨rfl, HB.out⟩
/-- Has a code no words? -/
def noneL (l : List Int) : Bool := l.all (fun x => decide (x ≤ 0))
set_option maxRecDepth 100000 in
set_option maxHeartbeats 4000000 in
theorem none_ok {W : World} {N : Nat} {c : Value} {lens : List Int} (hc : CodeIs W N c lens) (hl : lens.length ≤ 1000) :
    Calls Try.prog 54 #[c] W fun e w' => e = .returned (.bool (noneL lens)) ∧ Below W.heap.size W w' := by
  obtain ⟨v1, v2, rfl, h1, h2⟩ := hc
  obtain ⟨k1, o1, e1, cells1, rfl, hc1, hb1, hx1, hC1⟩ := h1
  obtain ⟨k2, o2, e2, cells2, rfl, hc2, hb2, hx2, hC2⟩ := h2
  have hb := below_alloc (Below.refl W.heap.size W) (.cells #[.slice (some ⟨k1, o1, none⟩) lens.length e1, .slice (some ⟨k2, o2, none⟩) (codesL lens).length e2] 50)
  have HB := Aside0.mk hb
  obtain ⟨q, hq⟩ : ∃ z, W.heap.size = z := ⟨_, rfl⟩
  have bq : (W.alloc (.cells #[.slice (some ⟨k1, o1, none⟩) lens.length e1, .slice (some ⟨k2, o2, none⟩) (codesL lens).length e2] 50)).heap[q]? = some (.cells #[.slice (some ⟨k1, o1, none⟩) lens.length e1, .slice (some ⟨k2, o2, none⟩) (codesL lens).length e2] 50 (0, 0)) := by rw [← hq]; exact heap_alloc_new _ _
  have d0 := blk_cell bq 0
  have hC := Kd.C_below hC1 hb
  have HL := Aside0.mk hl
  clear hb hb1 hb2 hx1 hx2 hC1 hC2 hc2 bq hl
  have H0 : Aside0 (∀ j, j < 0 → ∀ x, lens[j]? = some x → x ≤ 0) := ⟨fun j hj => by omega⟩
  go_enter Try.func54, Try.ntmps54
  go_wp2_with fail
  generalize hW1 : W.alloc (.cells #[.slice (some ⟨k1, o1, none⟩) lens.length e1, .slice (some ⟨k2, o2, none⟩) (codesL lens).length e2] 50) = W1 at *
  go_loopw [3] (fun v3 wr => ∃ (i : Nat), v3 = .int .i64 i ∧ wr = W1 ∧ i ≤ lens.length ∧ Aside0 (∀ j, j < i → ∀ x, lens[j]? = some x → x ≤ 0)) (fun v3 _ => lens.length - (intOf v3).toNat)
  case atStart => exact ⟨0, rfl, rfl, Nat.zero_le _, H0⟩
  case round =>
    clear H0
    obtain ⟨i, rfl, rfl, hi, HR⟩ := hrel
    by_cases hlt : i < lens.length
    · have b1 : decide (i < lens.length) = true := decide_eq_true hlt
      have b2 : decide ((i : Int) < (lens.length : Int)) = true := decide_eq_true (by omega)
      have hw : IntKind.i64.wrap ((i : Int) + 1) = (i : Int) + 1 := IntWalk.i64_in _ (by have := HL.out; omega)
      obtain ⟨ad1, hA1, x0⟩ := Kd.at_int hC (i : Int) (by omega) (by omega)
      injection hA1 with hA1
      subst hA1
      simp only [Int.toNat_natCast, add_at] at x0
      have hgt : lens[i]? = some (rd lens (i : Int)) := by rw [rd_get lens i hlt]; exact List.getElem?_eq_getElem hlt
      obtain ⟨x, hx⟩ : ∃ x, rd lens (i : Int) = x := ⟨_, rfl⟩
      rw [hx] at x0 hgt
      have HG := Aside0.mk hgt
      have q1 : (0 : Int) ≤ (i : Int) := by omega
      have q2 : (i : Int) < (lens.length : Int) := by omega
      have HI := Aside0.mk hlt
      clear hgt hx hlt
      by_cases hx0 : 0 < x
      · have b3 : decide (0 < x) = true := decide_eq_true hx0
        have HX := Aside0.mk hx0
        clear hx0
        go_wp2_with fail
        go_ret
        refine ⟨?_, HB.out⟩
        have : noneL lens = false := by
          unfold noneL
          rw [List.all_eq_false]
          exact ⟨x, List.mem_of_getElem? HG.out, by have := HX.out; simp; omega⟩
        rw [this]
        rfl
      · have b3 : decide (0 < x) = false := decide_eq_false hx0
        have HX := Aside0.mk hx0
        clear hx0
        go_wp2_with fail
        go_roundw
        case rel =>
          refine ⟨i + 1, by simp, trivial, HI.out, ⟨fun j hj y hy => ?_⟩⟩
          by_cases hji : j = i
          · subst hji
            rw [HG.out] at hy
            injection hy with hy
            have := HX.out
            omega
          · exact HR.out j (by omega) y hy
        case measure => simp [intOf]; have := HI.out; omega
    · have hie : i = lens.length := by omega
      have b1 : decide (i < lens.length) = false := decide_eq_false hlt
      have b2 : decide ((i : Int) < (lens.length : Int)) = false := decide_eq_false (by omega)
      have HE := Aside0.mk hie
      clear hlt hi hie
      go_wp2_with fail
      go_ret
      refine ⟨?_, HB.out⟩
      have : noneL lens = true := by
        unfold noneL
        rw [List.all_eq_true]
        intro x hx
        obtain ⟨j, hj, e⟩ := List.mem_iff_getElem.mp hx
        have := HR.out j (by rw [HE.out]; exact hj) x (by rw [← e]; exact List.getElem?_eq_getElem hj)
        simpa using this
      rw [this]
      rfl
end Go.Proofs.Ytaghmhcccighgaa.HI
end
section
/- The document's reader, whatever it came to: bits, ends, symbol as functions of what it stands at; a run that may have ended. -/
namespace Go.Proofs.Ytaghmhcccighgaa.HI
open Go.RowKit Go.Proofs.YtaghmhcccighgaaW.PrintWords Go.Proofs.YtaghmhcccighgaaW.PrintLast Go.Proofs.YtaghmhcccighgaaW.PrintMore Go.Proofs.Ytaghmhcccighgaa.HW Go.Proofs.Ytaghmhcccighgaa.MB Go.Proofs.Ytaghmhcccighgaa.Fn Go.Proofs.Ytaghmhcccighgaa.HF Go.Proofs.Ytaghmhcccighgaa.RT Go.Proofs.Ytaghmhcccighgaa.RT.Rd Go.Proofs.Ytaghmhcccighgaa.HP
/-- A run that may have ended. -/
def runS {α : Type} (er : Int) (t : Rd α) (s : ByteArray) (a : Nat) : Res α := if er = 0 then t.run s a else .no er
theorem runS_0 {α : Type} (t : Rd α) (s : ByteArray) (a : Nat) : runS 0 t s a = t.run s a := if_pos rfl
theorem runS_no {α : Type} {er : Int} (h : er ≠ 0) (t : Rd α) (s : ByteArray) (a : Nat) : runS er t s a = .no er := if_neg h
def bV (s : ByteArray) (a : Nat) (er : Int) (n : Nat) : Nat := if er = 0 ∧ a + n ≤ 8 * s.size then nb (sbit s) a n else 0
def bA (s : ByteArray) (a : Nat) (er : Int) (n : Nat) : Nat := if er = 0 ∧ a + n ≤ 8 * s.size then a + n else a
def bE (s : ByteArray) (a : Nat) (er : Int) (n : Nat) : Int := if er = 0 then (if a + n ≤ 8 * s.size then 0 else 5) else er
theorem bV_lt (s : ByteArray) (a : Nat) (er : Int) (n : Nat) : bV s a er n < 2 ^ n := by
  unfold bV
  split
  · exact nb_lt (sbit s) a n
  · exact Nat.pow_pos (by decide)
theorem bA_le (s : ByteArray) (a : Nat) (er : Int) (n : Nat) (h : a ≤ 8 * s.size) : bA s a er n ≤ 8 * s.size := by
  unfold bA
  split <;> omega
theorem bE_0 {s : ByteArray} {a : Nat} {er : Int} {n : Nat} (h : bE s a er n = 0) : er = 0 := by
  unfold bE at h
  split at h
  · assumption
  · exact h
theorem runS_bits {α : Type} (er : Int) (n : Nat) (f : Nat → Rd α) (s : ByteArray) (a : Nat) (h : a ≤ 8 * s.size) : runS er ((bitsN n).bind f) s a = runS (bE s a er n) (f (bV s a er n)) s (bA s a er n) := by
  unfold runS bE bV bA
  by_cases he : er = 0
  · rw [if_pos he, run_bind, run_bitsN s n a h]
    by_cases hn : a + n ≤ 8 * s.size
    · simp [he, hn]
    · simp [he, hn]
  · simp [he]
def enE (er : Int) : Int := if er = 0 then 40 else er
theorem enE_ne (er : Int) : enE er ≠ 0 := by
  unfold enE
  split <;> simp_all
theorem runS_if {α : Type} {c : Prop} [Decidable c] (er : Int) (t : Rd α) (s : ByteArray) (a : Nat) : runS er (if c then t else err 40) s a = runS (if c then er else enE er) t s a := by
  by_cases h : c
  · rw [if_pos h, if_pos h]
  · rw [if_neg h, if_neg h, runS_no (enE_ne er)]
    unfold runS enE
    by_cases he : er = 0 <;> simp [he, run]
def sV (l : List Int) (s : ByteArray) (a : Nat) (er : Int) : Int := if er = 0 ∧ (symF l s a).2.1 = 0 then (symF l s a).1 else 0
def sA (l : List Int) (s : ByteArray) (a : Nat) (er : Int) : Nat := if er = 0 ∧ (symF l s a).2.1 = 0 then (symF l s a).2.2 else a
def sE (l : List Int) (s : ByteArray) (a : Nat) (er : Int) : Int := if er = 0 then (if (symF l s a).2.1 = 30 then 40 else (symF l s a).2.1) else er
theorem sE_0 {l : List Int} {s : ByteArray} {a : Nat} {er : Int} (h : sE l s a er = 0) : er = 0 ∧ (symF l s a).2.1 = 0 := by
  unfold sE at h
  split at h
  · refine ⟨by assumption, ?_⟩
    split at h
    · exact absurd h (by decide)
    · exact h
  · exact ⟨h, absurd h (by assumption)⟩
theorem runS_sym {α : Type} (er : Int) (l : List Int) (f : Int → Rd α) (s : ByteArray) (a : Nat) : runS er ((symT l).bind f) s a = runS (sE l s a er) (f (sV l s a er)) s (sA l s a er) := by
  unfold runS sE sV sA
  by_cases he : er = 0
  · rw [if_pos he, run_bind, run_symT]
    unfold symQ
    by_cases h0 : (symF l s a).2.1 = 0
    · simp [he, h0]
    · by_cases h3 : (symF l s a).2.1 = 30
      · simp [he, h3]
      · simp [he, h0, h3]
  · simp [he]
theorem sA_le (l : List Int) (s : ByteArray) (a : Nat) (er : Int) (h : a ≤ 8 * s.size) : sA l s a er ≤ 8 * s.size := by
  unfold sA
  split
  · exact (symF_place l s a h).1
  · exact h
theorem sV_rng {l : List Int} (hl : 0 < l.length) (s : ByteArray) (a : Nat) (er : Int) : 0 ≤ sV l s a er ∧ sV l s a er < l.length := by
  unfold sV
  split
  · rename_i h
    have : (symT l).run s a = .ok (symF l s a).1 (symF l s a).2.2 := by
      rw [run_symT]
      unfold symQ
      rw [if_pos h.2]
    exact symT_rng hl this
  · omega
/-- bits, whatever the reader came to. -/
theorem bitsQ_any {W : World} {B r : Nat} {ov : Value} {s : ByteArray} {a most : Nat} {out : List Int} {er : Int} (h : IsQ W B r ov s a most out er) (n : Nat) (hn : n ≤ 57) :
    Calls Try.prog 24 #[.pointer (some ⟨r, 0, none⟩), .int .i64 n] W fun e w' => e = .returned (.int .i64 (bV s a er n : Nat)) ∧ IsQ w' B r ov s (bA s a er n) most out (bE s a er n) ∧ Fr (fun k => k = r) W w' := by
  unfold bV bA bE
  by_cases he : er = 0
  · subst he
    by_cases hf : a + n ≤ 8 * s.size
    · rw [if_pos ⟨rfl, hf⟩, if_pos ⟨rfl, hf⟩, if_pos rfl, if_pos hf]
      exact bitsQ_ok h n hn hf
    · rw [if_neg (fun h => hf h.2), if_neg (fun h => hf h.2), if_pos rfl, if_neg hf]
      exact bitsQ_short h n hn hf
  · rw [if_neg (fun h => he h.1), if_neg (fun h => he h.1), if_neg he]
    exact (bitsQ_bad h he n).mono (fun e w' ⟨h1, h2⟩ => ⟨h1, h.below h2, Fr.of_below_all h2 _⟩)
theorem endsQ_any {W : World} {B r : Nat} {ov : Value} {s : ByteArray} {a most : Nat} {out : List Int} {er : Int} (h : IsQ W B r ov s a most out er) :
    Calls Try.prog 29 #[.pointer (some ⟨r, 0, none⟩), .int .i64 40] W fun e w' => e = .returned (.tuple #[]) ∧ IsQ w' B r ov s a most out (enE er) ∧ Fr (QS r ov) W w' := by
  unfold enE
  by_cases he : er = 0
  · subst he
    rw [if_pos rfl]
    exact endsQ h 40
  · rw [if_neg he]
    exact (endsQ_bad h he 40).mono (fun e w' ⟨h1, h2⟩ => by subst h2; exact ⟨h1, h, Fr.refl _ _⟩)
attribute [local go_sem] max2_int min2_int max_two min_two max_three min_three max_four min_four   -- for this text's walks alone
set_option maxRecDepth 100000 in
set_option maxHeartbeats 4000000 in
theorem symbolQ {W : World} {B r : Nat} {ov : Value} {s : ByteArray} {a most : Nat} {out : List Int} (h : IsQ W B r ov s a most out 0) {N : Nat} {c : Value} {lens : List Int} (hc : CodeIs W N c lens) (ho : okL lens = true) :
    Calls Try.prog 40 #[.pointer (some ⟨r, 0, none⟩), c] W fun e w' => e = .returned (.int .i64 (sV lens s a 0)) ∧ IsQ w' B r ov s (sA lens s a 0) most out (sE lens s a 0) ∧ Fr (QS r ov) W w' := by
  unfold sV sA sE
  obtain ⟨v1, v2, rfl, h1, h2⟩ := hc
  obtain ⟨k1, o1, e1, cells1, rfl, hc1, hb1, hx1, hC1⟩ := h1
  obtain ⟨k2, o2, e2, cells2, rfl, hc2, hb2, hx2, hC2⟩ := h2
  rw [codesL_len] at hC2 hc2 ⊢
  have H := Aside0.mk h
  have hle := symF_place lens s a h.le
  have HC := Aside0.mk (fun (W' : World) (hb : Below W.heap.size W W') => refSym_any (some ⟨k1, o1, none⟩) e1 lens (some ⟨k2, o2, none⟩) e2 s a W' (Kd.C_below hC1 hb) hc1 (Kd.C_below hC2 hb) hc2 ho h.sz h.le)
  generalize symF lens s a = rr at HC hle ⊢
  obtain ⟨v, er, a'⟩ := rr
  simp only [symR] at HC
  simp only at hle
  generalize hP : (if er = 0 then (a' : Int) else 0) = P at HC
  have HLE := Aside0.mk hle
  have HP := Aside0.mk hP
  generalize hV1 : Value.slice (some ⟨k1, o1, none⟩) lens.length e1 = V1 at HC ⊢
  generalize hV2 : Value.slice (some ⟨k2, o2, none⟩) lens.length e2 = V2 at HC ⊢
  obtain ⟨A1, m1, n1, hv1⟩ : ∃ A m n, V1 = .slice A m n := ⟨_, _, _, hV1.symm⟩
  obtain ⟨A2, m2, n2, hv2⟩ : ∃ A m n, V2 = .slice A m n := ⟨_, _, _, hV2.symm⟩
  subst hv1
  subst hv2
  obtain ⟨q, hq⟩ : ∃ z, W.heap.size = z := ⟨_, rfl⟩
  have hb1 := below_alloc (Below.refl W.heap.size W) (.cells #[.slice A1 m1 n1, .slice A2 m2 n2] 50)
  have HB1 := Aside0.mk hb1
  have bq : (W.alloc (.cells #[.slice A1 m1 n1, .slice A2 m2 n2] 50)).heap[q]? = some (.cells #[.slice A1 m1 n1, .slice A2 m2 n2] 50 (0, 0)) := by rw [← hq]; exact heap_alloc_new _ _
  have HBQ := Aside0.mk bq
  clear hle hP h hc1 hc2 hb1 hb2 hx1 hx2 hC1 hC2 hV1 hV2 ho bq
  have c4 := (H.out.below HB1.out).c4
  go_enter Try.func40, Try.ntmps40
  go_upto_region 3 with (fail)
  generalize hW1 : W.alloc (.cells #[.slice A1 m1 n1, .slice A2 m2 n2] 50) = W1 at *
  have HQ1 := Aside0.mk (H.out.below HB1.out)
  have HK := Aside0.mk (fun (w' : World) (hb : Below W1.heap.size W1 w') => (And.intro ((HQ1.out.below hb).c0) (And.intro ((HQ1.out.below hb).c1) (And.intro (blk_cell (blk_below HBQ.out hb) 0) (blk_cell (blk_below HBQ.out hb) 1)))))
  have c0 := HQ1.out.c0
  have c1 := HQ1.out.c1
  have d0 := blk_cell HBQ.out 0
  have d1 := blk_cell HBQ.out 1
  have b0 := Below.refl W1.heap.size W1
  have b0d : Below W1.heap.size W1 W1.drew := below_drew b0
  go_region_held3 (fun w' => Below W1.heap.size W1 w' ∧ w'.cell? ⟨r, 0, none⟩ = some (.string s) ∧ w'.cell? ⟨r, 1, none⟩ = some (.int .i64 a) ∧ w'.cell? ⟨q, 0, none⟩ = #[Value.slice A1 m1 n1, Value.slice A2 m2 n2][0]? ∧ w'.cell? ⟨q, 1, none⟩ = #[Value.slice A1 m1 n1, Value.slice A2 m2 n2][1]?) ((refine ⟨?_, ?_, ?_, ?_, ?_⟩ <;> first | assumption | (exact (HK.out _ (by assumption)).1) | (exact (HK.out _ (by assumption)).2.1) | (exact (HK.out _ (by assumption)).2.2.1) | (exact (HK.out _ (by assumption)).2.2.2) | go_keep)) ((first | (go_at_call 53; refine (HC.out _ (HB1.out.trans (b0d.mono HB1.out.size))).mono ?_; rintro e w8 ⟨rfl, hb8⟩; have b8 := b0d.trans hb8)))
  rename_i hHeld
  have HQ := Aside0.mk (HQ1.out.below b8)
  have HB8 := Aside0.mk (HB1.out.trans (b8.mono HB1.out.size))
  clear hHeld b0 b0d b8 hb8 HK HC c0 c1 d0 d1 c4
  obtain ⟨hle, her⟩ := HLE.out
  rcases her with rfl | rfl | rfl
  · skip
    obtain rfl : (a' : Int) = P := HP.out
    have HA := Aside0.mk hle
    have f1 := HQ.out.fz 1
    have c1 := HQ.out.c1
    clear hle
    go_wp2_with fail
    go_ret
    exact ⟨by simp, by simpa using HQ.out.setA a' HA.out, (Fr.of_below_all HB8.out _).then_ (QS_set (r := r) (ov := ov) 1 _) (fun _ h => Or.inl h)⟩
  · skip
    have f4 := HQ.out.fz 4
    have c4 := HQ.out.c4
    clear hle
    go_wp2_with fail
    go_ret
    exact ⟨by simp, by simpa using HQ.out.setE 5, (Fr.of_below_all HB8.out _).then_ (QS_set (r := r) (ov := ov) 4 _) (fun _ h => Or.inl h)⟩
  · skip
    have f4 := HQ.out.fz 4
    have c4 := HQ.out.c4
    clear hle
    go_wp2_with fail
    go_ret
    exact ⟨by simp, by simpa using HQ.out.setE 40, (Fr.of_below_all HB8.out _).then_ (QS_set (r := r) (ov := ov) 4 _) (fun _ h => Or.inl h)⟩
theorem symbolQ_any {W : World} {B r : Nat} {ov : Value} {s : ByteArray} {a most : Nat} {out : List Int} {er : Int} (h : IsQ W B r ov s a most out er) {N : Nat} {c : Value} {lens : List Int} (hc : CodeIs W N c lens) (ho : okL lens = true) :
    Calls Try.prog 40 #[.pointer (some ⟨r, 0, none⟩), c] W fun e w' => e = .returned (.int .i64 (sV lens s a er)) ∧ IsQ w' B r ov s (sA lens s a er) most out (sE lens s a er) ∧ Fr (QS r ov) W w' := by
  by_cases he : er = 0
  · subst he
    exact symbolQ h hc ho
  · have h1 : sV lens s a er = 0 := by unfold sV; rw [if_neg (fun h => he h.1)]
    have h2 : sA lens s a er = a := by unfold sA; rw [if_neg (fun h => he h.1)]
    have h3 : sE lens s a er = er := by unfold sE; rw [if_neg he]
    rw [h1, h2, h3]
    obtain ⟨v1, v2, rfl, ⟨k1, o1, e1, cells1, rfl, _⟩, ⟨k2, o2, e2, cells2, rfl, _⟩⟩ := hc
    exact (symbolQ_bad h he _ _ _ _ _ _).mono (fun e w' ⟨h1, h2⟩ => ⟨h1, h.below h2, Fr.of_below_all h2 _⟩)
end Go.Proofs.Ytaghmhcccighgaa.HI
end
