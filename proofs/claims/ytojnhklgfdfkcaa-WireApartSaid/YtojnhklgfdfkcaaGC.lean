/- wire.fields, wire.Check: what they come to. wire.Check, walked. wire.Bytes, walked. -/
import Derived.Test.YtojnhklgfdfkcaaGB
namespace Go.Proofs.Ytojnhklgfdfkcaa.WK
open Go.RowKit Go.Proofs.YtojnhklgfdfkcaaW.PrintWords Go.Proofs.YtojnhklgfdfkcaaW.PrintLast Go.Proofs.YtojnhklgfdfkcaaW.PrintMore Go.Proofs.Ytojnhklgfdfkcaa.MB Go.Proofs.Ytojnhklgfdfkcaa.HW Go.Proofs.Ytojnhklgfdfkcaa.Fn Go.Proofs.Ytojnhklgfdfkcaa.PV Go.Proofs.Ytojnhklgfdfkcaa.RB
attribute [local go_sem] max2_int min2_int max_two min_two max_three min_three max_four min_four   -- for this text's walks alone
/-- Where a field's number lies: a message's block, its error's. -/
def fa (q e i : Nat) : Addr := if i = 7 then ⟨e, 0, none⟩ else ⟨q, i, none⟩
def mostOf (i : Nat) : Int := [10, 255, 255, 1099511627776, 1099511627776, 1099511627776, 1099511627776, 999, 1099511627776, 1099511627776, 1099511627776].getD i 0
def fcells (q e : Nat) : Array Value := #[.pointer (some ⟨q, 0, none⟩), .int .i64 10, .pointer (some ⟨q, 1, none⟩), .int .i64 255, .pointer (some ⟨q, 2, none⟩), .int .i64 255, .pointer (some ⟨q, 3, none⟩), .int .i64 1099511627776, .pointer (some ⟨q, 4, none⟩), .int .i64 1099511627776, .pointer (some ⟨q, 5, none⟩), .int .i64 1099511627776, .pointer (some ⟨q, 6, none⟩), .int .i64 1099511627776, .pointer (some ⟨e, 0, none⟩), .int .i64 999, .pointer (some ⟨q, 8, none⟩), .int .i64 1099511627776, .pointer (some ⟨q, 9, none⟩), .int .i64 1099511627776, .pointer (some ⟨q, 10, none⟩), .int .i64 1099511627776]
def FBlk (W : World) (f q e : Nat) : Prop := W.heap[f]? = some (.cells (fcells q e) 55 (0, 0))
theorem FBlk.ptr {W : World} {f q e : Nat} (h : FBlk W f q e) (i : Nat) (hi : i < 11) : W.cell? ⟨f, i * 2, none⟩ = some (.pointer (some (fa q e i))) := by
  refine (blk_cell h (i * 2)).trans ?_
  match i, hi with
  | 0, _ | 1, _ | 2, _ | 3, _ | 4, _ | 5, _ | 6, _ | 7, _ | 8, _ | 9, _ | 10, _ => rfl
theorem FBlk.most {W : World} {f q e : Nat} (h : FBlk W f q e) (i : Nat) (hi : i < 11) : W.cell? ⟨f, i * 2 + 1, none⟩ = some (.int .i64 (mostOf i)) := by
  refine (blk_cell h (i * 2 + 1)).trans ?_
  match i, hi with
  | 0, _ | 1, _ | 2, _ | 3, _ | 4, _ | 5, _ | 6, _ | 7, _ | 8, _ | 9, _ | 10, _ => rfl
set_option maxHeartbeats 4000000 in
set_option maxRecDepth 100000 in
theorem fields_any (q e : Nat) (w : World) : Calls Try.prog 20 #[.pointer (some ⟨q, 0, none⟩), .pointer (some ⟨e, 0, none⟩)] w fun x w' => ∃ f, x = .returned (.slice (some ⟨f, 0, none⟩) 11 11) ∧ w.heap.size ≤ f ∧ FBlk w' f q e ∧ Below w.heap.size w w' := by
  have hu := Try.underlying28
  have hu2 := Try.underlying55
  have hu3 := Try.underlying24
  go_enter Try.func20, Try.ntmps20
  go_wp2_with fail
  go_region
  have HF := Aside0.mk (show FBlk (w.alloc (.cells (fcells q e) 55)).drew w.heap.size q e from heap_alloc_new w _)
  have HB := Aside0.mk (below_drew (below_alloc (Below.refl w.heap.size w) (.cells (fcells q e) 55)))
  unfold fcells at HF HB
  generalize (w.alloc (.cells _ 55)).drew = w1 at HF HB ⊢
  go_wp2_with fail
  go_ret
  exact ⟨_, rfl, Nat.le_refl _, HF.out, HB.out⟩
def okNums (ns : List Int) : Bool := (List.range 11).all fun i => decide (0 ≤ ns.getD i 0) && decide (ns.getD i 0 ≤ mostOf i)
def okBody : Nat → List S63 → Bool
  | _, [] => true
  | i, r :: t => (decide (r.f0 = (i : Int)) && okRec r) && okBody (i + 1) t
/-- May a message be? -/
def okMsg (ns : List Int) (log : List ByteArray) (body : List S63) : Bool :=
  okNums ns && (decide (ns.getD 0 0 ≠ 0) && (decide (log.length ≤ 4096) && (decide (body.length ≤ 256) && (log.all (fun t => decide (t.size ≤ 262154)) && okBody 0 body))))
end Go.Proofs.Ytojnhklgfdfkcaa.WK
namespace Go.Proofs.Ytojnhklgfdfkcaa.WK
open Go.RowKit Go.Proofs.YtojnhklgfdfkcaaW.PrintWords Go.Proofs.YtojnhklgfdfkcaaW.PrintLast Go.Proofs.YtojnhklgfdfkcaaW.PrintMore Go.Proofs.Ytojnhklgfdfkcaa.MB Go.Proofs.Ytojnhklgfdfkcaa.HW Go.Proofs.Ytojnhklgfdfkcaa.Fn Go.Proofs.Ytojnhklgfdfkcaa.PV Go.Proofs.Ytojnhklgfdfkcaa.RB
attribute [local go_sem] max2_int min2_int max_two min_two max_three min_three max_four min_four   -- for this text's walks alone
def mcells (a0 a1 a2 a3 a4 a5 a6 a7 a8 a9 a10 : Int) (v11 v12 : Value) : Array Value := #[.int .i64 a0, .int .i64 a1, .int .i64 a2, .int .i64 a3, .int .i64 a4, .int .i64 a5, .int .i64 a6, .int .i64 a7, .int .i64 a8, .int .i64 a9, .int .i64 a10, v11, v12]
/-- Where a field's number is read, it is. -/
structure Nums (W : World) (q e : Nat) (ns : List Int) : Prop where
  at_ : ∀ i, i < 11 → W.cell? (fa q e i) = some (.int .i64 (ns.getD i 0))
theorem nums_of {W : World} {q e : Nat} {a0 a1 a2 a3 a4 a5 a6 a7 a8 a9 a10 : Int} {v11 v12 : Value} (hq : W.heap[q]? = some (.cells (mcells a0 a1 a2 a3 a4 a5 a6 a7 a8 a9 a10 v11 v12) 28 (0, 0))) (he : W.heap[e]? = some (.cells #[.int .i64 a7] 3 (0, 0))) : Nums W q e [a0, a1, a2, a3, a4, a5, a6, a7, a8, a9, a10] := ⟨fun i hi => by
  unfold fa
  by_cases h7 : i = 7
  · subst h7
    rw [if_pos rfl]
    exact (blk_cell he 0).trans rfl
  · rw [if_neg h7]
    refine (blk_cell hq i).trans ?_
    match i, hi, h7 with
    | 0, _, _ | 1, _, _ | 2, _, _ | 3, _, _ | 4, _, _ | 5, _, _ | 6, _, _ | 8, _, _ | 9, _, _ | 10, _, _ => rfl
    | 7, _, h => exact absurd rfl h⟩
/-- The message's block, its error's, the fields' row. -/
structure CS (w W : World) (q e f : Nat) (a0 a1 a2 a3 a4 a5 a6 a7 a8 a9 a10 : Int) (v11 v12 : Value) : Prop where
  hq : W.heap[q]? = some (.cells (mcells a0 a1 a2 a3 a4 a5 a6 a7 a8 a9 a10 v11 v12) 28 (0, 0))
  he : W.heap[e]? = some (.cells #[.int .i64 a7] 3 (0, 0))
  hf : FBlk W f q e
  be : Below w.heap.size w W
theorem CS.below {w W W' : World} {q e f : Nat} {a0 a1 a2 a3 a4 a5 a6 a7 a8 a9 a10 : Int} {v11 v12 : Value} (h : CS w W q e f a0 a1 a2 a3 a4 a5 a6 a7 a8 a9 a10 v11 v12) (hb : Below W.heap.size W W') : CS w W' q e f a0 a1 a2 a3 a4 a5 a6 a7 a8 a9 a10 v11 v12 :=
  ⟨(hb.block _ (blk_lt h.hq)).trans h.hq, (hb.block _ (blk_lt h.he)).trans h.he, (hb.block _ (blk_lt h.hf)).trans h.hf, h.be.trans (hb.mono h.be.size)⟩
theorem okNums_iff (ns : List Int) : okNums ns = true ↔ ∀ i, i < 11 → 0 ≤ ns.getD i 0 ∧ ns.getD i 0 ≤ mostOf i := by
  unfold okNums
  rw [List.all_eq_true]
  constructor
  · intro h i hi
    have := h i (List.mem_range.2 hi)
    simpa using this
  · intro h i hi
    have := h i (List.mem_range.1 hi)
    simpa using this
theorem okBody_iff : ∀ (l : List S63) (k : Nat), okBody k l = true ↔ ∀ j, j < l.length → (l.getD j z63).f0 = ((k + j : Nat) : Int) ∧ okRec (l.getD j z63) = true := by
  intro l
  induction l with
  | nil => intro k; exact ⟨fun _ j hj => absurd hj (Nat.not_lt_zero j), fun _ => rfl⟩
  | cons r t ih =>
    intro k
    rw [okBody, Bool.and_eq_true, Bool.and_eq_true, decide_eq_true_iff, ih]
    constructor
    · rintro ⟨⟨h1, h2⟩, h3⟩ j hj
      cases j with
      | zero => exact ⟨h1, h2⟩
      | succ j =>
        have := h3 j (by simpa using hj)
        rw [List.getD_cons_succ, show k + (j + 1) = k + 1 + j from by omega]
        exact this
    · intro h
      refine ⟨h 0 (by simp), fun j hj => ?_⟩
      have := h (j + 1) (by simpa using hj)
      rw [List.getD_cons_succ, show k + (j + 1) = k + 1 + j from by omega] at this
      exact this
theorem allLog_iff (l : List ByteArray) : l.all (fun t => decide (t.size ≤ 262154)) = true ↔ ∀ j, j < l.length → (l.getD j ByteArray.empty).size ≤ 262154 := by
  rw [List.all_eq_true]
  constructor
  · intro h j hj
    have := h (l[j]) (List.getElem_mem hj)
    rw [List.getD_eq_getElem?_getD, List.getElem?_eq_getElem hj]
    simpa using this
  · intro h x hx
    obtain ⟨j, hj, rfl⟩ := List.getElem_of_mem hx
    have := h j hj
    rw [List.getD_eq_getElem?_getD, List.getElem?_eq_getElem hj] at this
    simpa using this
set_option maxHeartbeats 4000000 in
set_option maxRecDepth 100000 in
theorem check_any (a0 a1 a2 a3 a4 a5 a6 a7 a8 a9 a10 : Int) (A11 : Option Addr) (c11 : Nat) (log : List ByteArray) (A12 : Option Addr) (c12 : Nat) (body : List S63) (w : World) (hr1 : Kd.C Kd.string w A11 log.length log) (hr2 : Kd.C k63 w A12 body.length body) (hl : log.length ≤ 9223372036854775807) (hb : body.length ≤ 9223372036854775807) :
    Calls Try.prog 11 #[.agg #[.int .i64 a0, .int .i64 a1, .int .i64 a2, .int .i64 a3, .int .i64 a4, .int .i64 a5, .int .i64 a6, .int .i64 a7, .int .i64 a8, .int .i64 a9, .int .i64 a10, .slice A11 log.length c11, .slice A12 body.length c12]] w fun x w' => x = .returned (.int .i64 (if okMsg [a0, a1, a2, a3, a4, a5, a6, a7, a8, a9, a10] log body = true then 0 else 140)) ∧ Below w.heap.size w w' := by
  obtain ⟨rr, hrr⟩ : ∃ r : Int, (if okMsg [a0, a1, a2, a3, a4, a5, a6, a7, a8, a9, a10] log body = true then 0 else 140) = r := ⟨_, rfl⟩
  rw [hrr]
  have HRR := Aside0.mk hrr
  clear hrr
  have hu := Try.underlying28
  have hu2 := Try.underlying55
  have hu3 := Try.underlying24
  have HR1 := Aside0.mk hr1
  have HR2 := Aside0.mk hr2
  have HL := Aside0.mk hl
  have HLB := Aside0.mk hb
  clear hr1 hr2 hl hb
  go_enter Try.func11, Try.ntmps11
  go_wp2_with fail
  have hA := below_alloc (Below.refl w.heap.size w) (.cells (mcells a0 a1 a2 a3 a4 a5 a6 a7 a8 a9 a10 (.slice A11 log.length c11) (.slice A12 body.length c12)) 28)
  have hQ1 := heap_alloc_new w (.cells (mcells a0 a1 a2 a3 a4 a5 a6 a7 a8 a9 a10 (.slice A11 log.length c11) (.slice A12 body.length c12)) 28)
  have hB1 := below_alloc hA (.cells #[.int .i64 a7] 3)
  have hE1 := heap_alloc_new (w.alloc (.cells (mcells a0 a1 a2 a3 a4 a5 a6 a7 a8 a9 a10 (.slice A11 log.length c11) (.slice A12 body.length c12)) 28)) (.cells #[.int .i64 a7] 3)
  rw [show (w.alloc (.cells (mcells a0 a1 a2 a3 a4 a5 a6 a7 a8 a9 a10 (.slice A11 log.length c11) (.slice A12 body.length c12)) 28)).heap.size = w.heap.size + 1 from Array.size_push _] at hE1
  have hQ2 := ((below_alloc (Below.refl _ _) (.cells #[.int .i64 a7] 3)).block _ (blk_lt hQ1)).trans hQ1
  unfold mcells at hA hQ1 hB1 hE1 hQ2
  generalize ((w.alloc (.cells #[.int .i64 a0, .int .i64 a1, .int .i64 a2, .int .i64 a3, .int .i64 a4, .int .i64 a5, .int .i64 a6, .int .i64 a7, .int .i64 a8, .int .i64 a9, .int .i64 a10, .slice A11 log.length c11, .slice A12 body.length c12] 28)).alloc (.cells #[.int .i64 a7] 3)) = w1 at hB1 hE1 hQ2 ⊢
  have HB1 := Aside0.mk hB1
  have HQ1 := Aside0.mk hQ2
  have HE1 := Aside0.mk hE1
  clear hA hQ1 hB1 hE1 hQ2
  refine (fields_any w.heap.size (w.heap.size + 1) _).mono ?_
  rintro x w2 ⟨f, rfl, hfs, hF, hb⟩
  obtain ⟨g, hg⟩ : ∃ g, w.heap.size = g := ⟨_, rfl⟩
  have HC := Aside0.mk (show CS w w2 g (g + 1) f a0 a1 a2 a3 a4 a5 a6 a7 a8 a9 a10 (.slice A11 log.length c11) (.slice A12 body.length c12) from ⟨by rw [← hg]; exact (hb.block _ (blk_lt HQ1.out)).trans HQ1.out, by rw [← hg]; exact (hb.block _ (blk_lt HE1.out)).trans HE1.out, by rw [← hg]; exact hF, HB1.out.trans (hb.mono HB1.out.size)⟩)
  rw [hg]
  clear hb hF hfs HQ1 HE1 HB1 hg
  obtain ⟨ns, hns⟩ : ∃ ns, [a0, a1, a2, a3, a4, a5, a6, a7, a8, a9, a10] = ns := ⟨_, rfl⟩
  have HNS := Aside0.mk hns
  clear hns
  go_wp2_with fail
  go_loopw [14] (fun v14 wr => ∃ i : Nat, v14 = .int .i64 i ∧ i ≤ 11 ∧ Aside0 (CS w wr g (g + 1) f a0 a1 a2 a3 a4 a5 a6 a7 a8 a9 a10 (.slice A11 log.length c11) (.slice A12 body.length c12)) ∧ Aside0 (∀ j, j < i → 0 ≤ ns.getD j 0 ∧ ns.getD j 0 ≤ mostOf j)) (fun v14 _ => 11 - (intOf v14).toNat)
  case atStart => exact ⟨0, rfl, by decide, HC, ⟨fun j hj => absurd hj (Nat.not_lt_zero j)⟩⟩
  case round =>
    clear HC
    obtain ⟨i, rfl, hi, HC, HOK⟩ := hrel
    by_cases hlt : i < 11
    · have hb1 : decide ((i : Int) < 11) = true := by simp; omega
      have hp := HC.out.hf.ptr i hlt
      have hm := HC.out.hf.most i hlt
      have hv := (nums_of HC.out.hq HC.out.he).at_ i hlt
      rw [HNS.out] at hv
      obtain ⟨ad, had⟩ : ∃ ad, fa g (g + 1) i = ad := ⟨_, rfl⟩
      rw [had] at hp hv
      have HAD := Aside0.mk had
      clear had hv
      go_upto_region 5 with (fail)
      have HC5 := Aside0.mk (HC.out.below (below_alloc (Below.refl _ _) (.cells #[.pointer (some ad), .int .i64 (mostOf i)] 55)))
      have hx := (nums_of HC5.out.hq HC5.out.he).at_ i hlt
      rw [HNS.out, HAD.out] at hx
      have d0 := (blk_cell (heap_alloc_new wr (.cells #[.pointer (some ad), .int .i64 (mostOf i)] 55)) 0).trans (rfl : _ = some (Value.pointer (some ad)))
      have d1 := (blk_cell (heap_alloc_new wr (.cells #[.pointer (some ad), .int .i64 (mostOf i)] 55)) 1).trans (rfl : _ = some (Value.int .i64 (mostOf i)))
      obtain ⟨q5, hq5⟩ : ∃ q5, wr.heap.size = q5 := ⟨_, rfl⟩
      rw [hq5] at d0 d1 ⊢
      generalize wr.alloc (.cells #[.pointer (some ad), .int .i64 (mostOf i)] 55) = w5 at HC5 hx d0 d1 ⊢
      clear HC hp hm hq5
      obtain ⟨x, hxx⟩ : ∃ x, ns.getD i 0 = x := ⟨_, rfl⟩
      obtain ⟨mo, hmo⟩ : ∃ x, mostOf i = x := ⟨_, rfl⟩
      rw [hxx] at hx
      rw [hmo] at d1 ⊢
      by_cases c1 : x < 0
      · have b1 : decide (x < 0) = true := by simpa using c1
        have hbad : ¬ okMsg [a0, a1, a2, a3, a4, a5, a6, a7, a8, a9, a10] log body = true := by
          rw [HNS.out]
          intro e
          unfold okMsg at e
          rw [Bool.and_eq_true] at e
          have := (okNums_iff ns).1 e.1 i hlt
          omega
        clear c1 hxx hmo
        go_region
        go_wp2_with fail
        go_ret
        exact ⟨by rw [← HRR.out, if_neg hbad]; rfl, (HC5.out.below (below_drew (Below.refl _ _))).be⟩
      · have b1 : decide (x < 0) = false := by simp; omega
        by_cases c2 : mo < x
        · have b2 : decide (mo < x) = true := by simpa using c2
          have hbad : ¬ okMsg [a0, a1, a2, a3, a4, a5, a6, a7, a8, a9, a10] log body = true := by
            rw [HNS.out]
            intro e
            unfold okMsg at e
            rw [Bool.and_eq_true] at e
            have := (okNums_iff ns).1 e.1 i hlt
            omega
          clear c1 c2 hxx hmo
          go_region
          go_wp2_with fail
          go_ret
          exact ⟨by rw [← HRR.out, if_neg hbad]; rfl, (HC5.out.below (below_drew (Below.refl _ _))).be⟩
        · have b2 : decide (mo < x) = false := by simp; omega
          have HOK2 := Aside0.mk (show ∀ j, j < i + 1 → 0 ≤ ns.getD j 0 ∧ ns.getD j 0 ≤ mostOf j from fun j hj => by
            by_cases hji : j = i
            · subst hji; omega
            · exact HOK.out j (by omega))
          clear c1 c2 hxx hmo
          go_region
          have HC6 := Aside0.mk (HC5.out.below (below_drew (Below.refl _ _)))
          generalize w5.drew = w6 at HC6 ⊢
          go_wp2_with fail
          go_roundw
          case rel => exact ⟨i + 1, by simp, hlt, HC6, HOK2⟩
          case measure => simp [intOf]; omega
    · have hie : i = 11 := by omega
      subst hie
      have HN := Aside0.mk ((okNums_iff ns).2 HOK.out)
      have hb1 : decide ((11 : Int) < 11) = false := by decide
      have e0 : wr.cell? ⟨g, 0, none⟩ = some (.int .i64 a0) := (blk_cell HC.out.hq 0).trans rfl
      have e11 : wr.cell? ⟨g, 11, none⟩ = some (.slice A11 log.length c11) := (blk_cell HC.out.hq 11).trans rfl
      have e12 : wr.cell? ⟨g, 12, none⟩ = some (.slice A12 body.length c12) := (blk_cell HC.out.hq 12).trans rfl
      have HC1 := Aside0.mk (Kd.C_below HR1.out HC.out.be)
      have HC2 := Aside0.mk (Kd.C_below HR2.out HC.out.be)
      by_cases c1 : a0 = 0
      · have b1 : (a0 == 0) = true := by simpa using c1
        have hbad : ¬ okMsg [a0, a1, a2, a3, a4, a5, a6, a7, a8, a9, a10] log body = true := by
          intro e
          unfold okMsg at e
          simp only [Bool.and_eq_true, decide_eq_true_iff] at e
          exact e.2.1 c1
        clear c1
        go_wp2_with fail
        go_ret
        exact ⟨by rw [← HRR.out, if_neg hbad]; rfl, HC.out.be⟩
      · have b1 : (a0 == 0) = false := by simpa using c1
        by_cases c2 : 4096 < log.length
        · have b2 : decide (4096 < (log.length : Int)) = true := by simp; omega
          have hbad : ¬ okMsg [a0, a1, a2, a3, a4, a5, a6, a7, a8, a9, a10] log body = true := by
            intro e
            unfold okMsg at e
            simp only [Bool.and_eq_true, decide_eq_true_iff] at e
            have := e.2.2.1
            omega
          clear c1 c2
          go_wp2_with fail
          go_ret
          exact ⟨by rw [← HRR.out, if_neg hbad]; rfl, HC.out.be⟩
        · have b2 : decide (4096 < (log.length : Int)) = false := by simp; omega
          by_cases c3 : 256 < body.length
          · have b3 : decide (256 < (body.length : Int)) = true := by simp; omega
            have hbad : ¬ okMsg [a0, a1, a2, a3, a4, a5, a6, a7, a8, a9, a10] log body = true := by
              intro e
              unfold okMsg at e
              simp only [Bool.and_eq_true, decide_eq_true_iff] at e
              have := e.2.2.2.1
              omega
            clear c1 c2 c3
            go_wp2_with fail
            go_ret
            exact ⟨by rw [← HRR.out, if_neg hbad]; rfl, HC.out.be⟩
          · have b3 : decide (256 < (body.length : Int)) = false := by simp; omega
            have HM := Aside0.mk (show a0 ≠ 0 ∧ log.length ≤ 4096 ∧ body.length ≤ 256 by omega)
            clear c1 c2 c3
            go_wp2_with fail
            go_loopw [51] (fun v51 wr => ∃ i : Nat, v51 = .int .i64 i ∧ i ≤ log.length ∧ Aside0 (CS w wr g (g + 1) f a0 a1 a2 a3 a4 a5 a6 a7 a8 a9 a10 (.slice A11 log.length c11) (.slice A12 body.length c12)) ∧ Aside0 (∀ j, j < i → (log.getD j ByteArray.empty).size ≤ 262154)) (fun v51 _ => log.length - (intOf v51).toNat)
            case atStart => exact ⟨0, rfl, Nat.zero_le _, HC, ⟨fun j hj => absurd hj (Nat.not_lt_zero j)⟩⟩
            case round =>
              clear HC e0 e11 e12 HC1 HC2 b1 b2 b3
              obtain ⟨i, rfl, hi, HC, HJ⟩ := hrel
              by_cases hlt : i < log.length
              · have hb1 : decide ((i : Int) < (log.length : Int)) = true := by simp; omega
                have HC1 := Kd.C_below HR1.out HC.out.be
                obtain ⟨ad, hA, hx⟩ := Kd.at_string HC1 (i : Int) (by omega) (by omega)
                subst hA
                simp only [Int.toNat_natCast] at hx
                obtain ⟨t, ht⟩ : ∃ t, rdOf ByteArray.empty log (i : Int) = t := ⟨_, rfl⟩
                have htt : log.getD i ByteArray.empty = t := by rw [← ht]; simp [rdOf]
                rw [ht] at hx
                have hi20 : i ≤ 1000000 := by have := HM.out; omega
                clear HC1 ht
                by_cases c4 : 262154 < t.size
                · have b4 : decide (262154 < (t.size : Int)) = true := by simp; omega
                  have hbad : ¬ okMsg [a0, a1, a2, a3, a4, a5, a6, a7, a8, a9, a10] log body = true := by
                    intro e
                    unfold okMsg at e
                    simp only [Bool.and_eq_true, decide_eq_true_iff] at e
                    have := (allLog_iff log).1 e.2.2.2.2.1 i hlt
                    rw [htt] at this
                    omega
                  clear c4
                  go_wp2_with fail
                  go_ret
                  exact ⟨by rw [← HRR.out, if_neg hbad]; rfl, HC.out.be⟩
                · have b4 : decide (262154 < (t.size : Int)) = false := by simp; omega
                  have HJ2 := Aside0.mk (show ∀ j, j < i + 1 → (log.getD j ByteArray.empty).size ≤ 262154 from fun j hj => by
                    by_cases hji : j = i
                    · subst hji; rw [htt]; omega
                    · exact HJ.out j (by omega))
                  clear c4 htt
                  go_wp2_with fail
                  go_roundw
                  case rel => exact ⟨i + 1, by simp, hlt, HC, HJ2⟩
                  case measure => simp [intOf]; omega
              · have hie : i = log.length := by omega
                subst hie
                have HLG := Aside0.mk ((allLog_iff log).2 HJ.out)
                have hb1 : decide ((log.length : Int) < (log.length : Int)) = false := by simp
                have e12 : wr.cell? ⟨g, 12, none⟩ = some (.slice A12 body.length c12) := (blk_cell HC.out.hq 12).trans rfl
                clear HJ
                go_wp2_with fail
                go_loopw [62] (fun v62 wr => ∃ i : Nat, v62 = .int .i64 i ∧ i ≤ body.length ∧ Aside0 (CS w wr g (g + 1) f a0 a1 a2 a3 a4 a5 a6 a7 a8 a9 a10 (.slice A11 log.length c11) (.slice A12 body.length c12)) ∧ Aside0 (∀ j, j < i → (body.getD j z63).f0 = ((0 + j : Nat) : Int) ∧ okRec (body.getD j z63) = true)) (fun v62 _ => body.length - (intOf v62).toNat)
                case atStart => exact ⟨0, rfl, Nat.zero_le _, HC, ⟨fun j hj => absurd hj (Nat.not_lt_zero j)⟩⟩
                case round =>
                  clear HC e12 hb1
                  obtain ⟨i, rfl, hi, HC, HJ⟩ := hrel
                  by_cases hlt : i < body.length
                  · have hb1 : decide ((i : Int) < (body.length : Int)) = true := by simp; omega
                    have HC2 := Kd.C_below HR2.out HC.out.be
                    obtain ⟨ad, hA, k0, k1, k2, k3⟩ := at_T63 HC2 (i : Int) (by omega) (by omega)
                    subst hA
                    obtain ⟨r, hr⟩ : ∃ r, rd_T63 body (i : Int) = r := ⟨_, rfl⟩
                    have hrr : body.getD i z63 = r := by rw [← hr]; simp [rd_T63]
                    rw [hr] at k0 k1 k2 k3
                    simp only [Int.toNat_natCast] at k0 k1 k2 k3
                    have hi20 : i ≤ 1000000 := by have := HM.out; omega
                    clear HC2 hr
                    go_upto_region 19 with (fail)
                    have HA := Aside0.mk (show RBlk (wr.alloc (.cells #[.int .i64 r.f0, .string r.f1, .string r.f2, .bool r.f3] 63)) wr.heap.size r from heap_alloc_new wr _)
                    have HC5 := Aside0.mk (HC.out.below (below_alloc (Below.refl _ _) (.cells #[.int .i64 r.f0, .string r.f1, .string r.f2, .bool r.f3] 63)))
                    obtain ⟨q5, hq5⟩ : ∃ q5, wr.heap.size = q5 := ⟨_, rfl⟩
                    rw [hq5] at HA
                    rw [hq5]
                    generalize wr.alloc (.cells #[.int .i64 r.f0, .string r.f1, .string r.f2, .bool r.f3] 63) = w5 at HC5 HA ⊢
                    clear HC hq5 k0 k1 k2 k3
                    have d0 := HA.out.c0
                    have d1 := HA.out.c1
                    have d2 := HA.out.c2
                    have d3 := HA.out.c3
                    by_cases c5 : r.f0 = (i : Int)
                    · have b5 : (r.f0 != (i : Int)) = false := by simpa using c5
                      have b6 : (r.f0 == (i : Int)) = true := by simpa using c5
                      have HC5' := Aside0.mk c5
                      clear c5
                      go_wp2_with fail
                      refine (record_Check.calls r.f0 r.f1 r.f2 r.f3 _ _ (check_ok r)).mono ?_
                      rintro x w6 ⟨rfl, hb⟩
                      have HC6 := Aside0.mk (HC5.out.below hb)
                      clear hb
                      by_cases hok : okRec r = true
                      · rw [if_pos hok]
                        have HJ2 := Aside0.mk (show ∀ j, j < i + 1 → (body.getD j z63).f0 = ((0 + j : Nat) : Int) ∧ okRec (body.getD j z63) = true from fun j hj => by
                          by_cases hji : j = i
                          · subst hji; rw [hrr, Nat.zero_add]; exact ⟨HC5'.out, hok⟩
                          · exact HJ.out j (by omega))
                        clear hok hrr
                        go_wp2_with fail
                        go_roundw
                        case rel => exact ⟨_, _, _, _, _, _, _, _, _, _, _, _, _, _, _, _, _, _, ⟨i + 1, by first | rfl | simp, hlt, HC6, HJ2⟩, rfl⟩
                        case measure => simp [intOf]; omega
                      · rw [if_neg hok]
                        have hbad : ¬ okMsg [a0, a1, a2, a3, a4, a5, a6, a7, a8, a9, a10] log body = true := by
                          intro e
                          unfold okMsg at e
                          simp only [Bool.and_eq_true, decide_eq_true_iff] at e
                          have := ((okBody_iff body 0).1 e.2.2.2.2.2 i hlt).2
                          rw [hrr] at this
                          exact hok this
                        clear hok hrr
                        go_wp2_with fail
                        go_ret
                        exact ⟨by rw [← HRR.out, if_neg hbad]; rfl, HC6.out.be⟩
                    · have b5 : (r.f0 != (i : Int)) = true := by simpa using c5
                      have b6 : (r.f0 == (i : Int)) = false := by simpa using c5
                      have hbad : ¬ okMsg [a0, a1, a2, a3, a4, a5, a6, a7, a8, a9, a10] log body = true := by
                        intro e
                        unfold okMsg at e
                        simp only [Bool.and_eq_true, decide_eq_true_iff] at e
                        have := ((okBody_iff body 0).1 e.2.2.2.2.2 i hlt).1
                        rw [hrr, Nat.zero_add] at this
                        exact c5 this
                      clear c5
                      go_wp2_with fail
                      go_ret
                      exact ⟨by rw [← HRR.out, if_neg hbad]; rfl, HC5.out.be⟩
                  · have hie : i = body.length := by omega
                    subst hie
                    have hb1 : decide ((body.length : Int) < (body.length : Int)) = false := by simp
                    have hgood : okMsg [a0, a1, a2, a3, a4, a5, a6, a7, a8, a9, a10] log body = true := by
                      unfold okMsg
                      simp only [Bool.and_eq_true, decide_eq_true_iff]
                      exact ⟨by rw [HNS.out]; exact HN.out, HM.out.1, HM.out.2.1, HM.out.2.2, HLG.out, (okBody_iff body 0).2 HJ.out⟩
                    go_wp2_with fail
                    go_ret
                    exact ⟨by rw [← HRR.out, if_pos hgood]; rfl, HC.out.be⟩
end Go.Proofs.Ytojnhklgfdfkcaa.WK
namespace Go.Proofs.Ytojnhklgfdfkcaa.WK
open Go.RowKit Go.Proofs.YtojnhklgfdfkcaaW.PrintWords Go.Proofs.YtojnhklgfdfkcaaW.PrintLast Go.Proofs.YtojnhklgfdfkcaaW.PrintMore Go.Proofs.Ytojnhklgfdfkcaa.MB Go.Proofs.Ytojnhklgfdfkcaa.HW Go.Proofs.Ytojnhklgfdfkcaa.Fn Go.Proofs.Ytojnhklgfdfkcaa.PV Go.Proofs.Ytojnhklgfdfkcaa.RB Go.Proofs.Ytojnhklgfdfkcaa.HB
attribute [local go_sem] max2_int min2_int max_two min_two max_three min_three max_four min_four   -- for this text's walks alone
set_option maxHeartbeats 1000000 in
theorem numc_any (B g : Nat) (s : ByteArray) (n : Nat) (w : World) (h : IsBd w B g s) (hB : B ≤ w.heap.size) (hn : n < 2 ^ 63) (hl : s.size ≤ 100000000000000) :
    Calls Try.prog 17 #[.int .i64 n, .pointer (some ⟨g, 0, none⟩)] w fun e w' => e = .returned (.tuple #[]) ∧ IsBd w' B g (s ++ vs n) ∧ Below B w w' ∧ KeepT w w' := by
  have hp := putvar_nat n hn
  have hl9 : (pv n).length ≤ 9 := pv_len 8 n (Nat.lt_of_lt_of_le hn (by decide))
  have hsz : (strOfNums (pv n)).size = (pv n).length := by simp [strOfNums, ByteArray.size]
  have HP := Aside0.mk hp
  have HL := Aside0.mk (show s.size + (strOfNums (pv n)).size ≤ 140737488355328 by omega)
  have H := Aside0.mk h
  have HB := Aside0.mk hB
  clear h hB hn hl hp hl9 hsz
  unfold vs
  generalize strOfNums (pv n) = t at HP HL
  go_enter Try.func17, Try.ntmps17
  go_wp2_with fail
  refine (bits_PutVar.calls 10 n _ _ _ HP.out).mono ?_
  rintro e w1 ⟨rfl, hb⟩
  have H1 := Aside0.mk (H.out.below hb)
  have HB1 := Aside0.mk (hb.mono HB.out)
  have HK1 := Aside0.mk (KeepT.of_below hb)
  clear hb
  go_wp2_with fail
  refine (writeString B g s t _ H1.out (Nat.le_trans HB.out HB1.out.size) HL.out).mono ?_
  rintro e w2 ⟨rfl, h2, hb2, hk2⟩
  have H2 := Aside0.mk h2
  have HB2 := Aside0.mk hb2
  have HK2 := Aside0.mk hk2
  clear h2 hb2 hk2
  go_wp2
  go_end0
  exact ⟨rfl, H2.out, HB1.out.trans HB2.out, HK1.out.trans HK2.out⟩
theorem len_any (B g : Nat) (s : ByteArray) (w : World) (h : IsBd w B g s) : Calls Try.prog 21 #[.pointer (some ⟨g, 0, none⟩)] w fun e w' => e = .returned (.int .i64 s.size) ∧ w = w' := by
  obtain ⟨p, v, hp, h⟩ := h
  obtain ⟨A, c, hv⟩ := own_slice h.own
  subst hv
  have h1 : w.cell? ⟨g, 1, none⟩ = some (.slice A (bytesOf s).length c) := (blk_cell h.blk 1).trans rfl
  have hl := bytesOf_length s
  clear h hp
  go_enter Try.func21, Try.ntmps21
  go_wp2_with fail
  go_ret
  exact ⟨by rw [← hl]; rfl, rfl⟩
/-- The numbers' bytes, so many of them. -/
def numsB (ns : List Int) : Nat → ByteArray
  | 0 => ⟨#[]⟩
  | k + 1 => numsB ns k ++ vs (ns.getD k 0).toNat
def logB : List ByteArray → ByteArray → Option ByteArray
  | [], acc => some acc
  | t :: r, acc => if 1048576 < (acc ++ vs t.size ++ t).size then none else logB r (acc ++ vs t.size ++ t)
/-- A message's bytes. -/
def wireB (ns : List Int) (log : List ByteArray) (body : List S63) : ByteArray × Int :=
  if okMsg ns log body = true then
    match logB log (numsB ns 11 ++ vs log.length) with
    | none => (⟨#[]⟩, 4)
    | some a => if 1048576 < (a ++ vs body.length ++ (rgo 0 body 0 ⟨#[]⟩).1).size then (⟨#[]⟩, 4) else (a ++ vs body.length ++ (rgo 0 body 0 ⟨#[]⟩).1, 0)
  else (⟨#[]⟩, 140)
theorem CS.keepT {w W W' : World} {q e f : Nat} {a0 a1 a2 a3 a4 a5 a6 a7 a8 a9 a10 : Int} {v11 v12 : Value} (h : CS w W q e f a0 a1 a2 a3 a4 a5 a6 a7 a8 a9 a10 v11 v12) (hk : KeepT W W') (hb : Below w.heap.size W W') : CS w W' q e f a0 a1 a2 a3 a4 a5 a6 a7 a8 a9 a10 v11 v12 :=
  ⟨hk _ _ _ _ h.hq (by decide) (by decide), hk _ _ _ _ h.he (by decide) (by decide), hk _ _ _ _ h.hf (by decide) (by decide), h.be.trans hb⟩
theorem rgo_size (base : Int) (h0 : 0 ≤ base) : ∀ (l : List S63) (next : Int) (acc : ByteArray), (rgo base l next acc).1.size ≤ acc.size + 4200 * l.length := by
  intro l
  induction l with
  | nil => intro next acc; exact Nat.le_refl _
  | cons r t ih =>
    intro next acc
    rw [rgo]
    by_cases h : okRec r = true ∧ next ≤ r.f0
    · rw [if_pos h]
      have h1 := ih (r.f0 + 1) (acc ++ recB (r.f0 - base).toNat r)
      have hm := (okRec_iff r).1 h.1
      have h2 := recB_size (r.f0 - base).toNat r (by omega) h.1
      rw [ByteArray.size_append] at h1
      rw [List.length_cons]
      omega
    · rw [if_neg h]; exact Nat.zero_le _
set_option maxHeartbeats 4000000 in
set_option maxRecDepth 100000 in
theorem wbytes_any (a0 a1 a2 a3 a4 a5 a6 a7 a8 a9 a10 : Int) (A11 : Option Addr) (c11 : Nat) (log : List ByteArray) (A12 : Option Addr) (c12 : Nat) (body : List S63) (w : World) (hr1 : Kd.C Kd.string w A11 log.length log) (hr2 : Kd.C k63 w A12 body.length body) (hl : log.length ≤ 9223372036854775807) (hb : body.length ≤ 9223372036854775807) (hcb : body.length ≤ c12) (r1 : ByteArray) (r2 : Int) (hw : wireB [a0, a1, a2, a3, a4, a5, a6, a7, a8, a9, a10] log body = (r1, r2)) :
    Calls Try.prog 9 #[.agg #[.int .i64 a0, .int .i64 a1, .int .i64 a2, .int .i64 a3, .int .i64 a4, .int .i64 a5, .int .i64 a6, .int .i64 a7, .int .i64 a8, .int .i64 a9, .int .i64 a10, .slice A11 log.length c11, .slice A12 body.length c12]] w fun x w' => x = .returned (.tuple #[.string r1, .int .i64 r2]) ∧ Below w.heap.size w w' := by
  have hu := Try.underlying28
  have hu2 := Try.underlying55
  have hu3 := Try.underlying24
  have hu4 := Try.underlying43
  have hmf : ∀ (fn : Fn) (first cap : Array Value) (w : World), (Instr.makeFunc fn first cap).run Try.prog w = .ok (.func fn first cap) w := fun _ _ _ _ => rfl
  have HR1 := Aside0.mk hr1
  have HR2 := Aside0.mk hr2
  have HL := Aside0.mk hl
  have HLB := Aside0.mk hb
  have HWR := Aside0.mk hw
  have HCB := Aside0.mk hcb
  clear hr1 hr2 hl hb hw hcb
  go_enter Try.func9, Try.ntmps9
  go_wp2_with fail
  have hA := below_alloc (Below.refl w.heap.size w) (.cells (mcells a0 a1 a2 a3 a4 a5 a6 a7 a8 a9 a10 (.slice A11 log.length c11) (.slice A12 body.length c12)) 28)
  have hQ1 := heap_alloc_new w (.cells (mcells a0 a1 a2 a3 a4 a5 a6 a7 a8 a9 a10 (.slice A11 log.length c11) (.slice A12 body.length c12)) 28)
  unfold mcells at hA hQ1
  generalize (w.alloc (.cells #[.int .i64 a0, .int .i64 a1, .int .i64 a2, .int .i64 a3, .int .i64 a4, .int .i64 a5, .int .i64 a6, .int .i64 a7, .int .i64 a8, .int .i64 a9, .int .i64 a10, .slice A11 log.length c11, .slice A12 body.length c12] 28)) = w1 at hA hQ1 ⊢
  have HB1 := Aside0.mk hA
  have HQ1 := Aside0.mk hQ1
  clear hA hQ1
  refine (check_any a0 a1 a2 a3 a4 a5 a6 a7 a8 a9 a10 A11 c11 log A12 c12 body _ (Kd.C_below HR1.out HB1.out) (Kd.C_below HR2.out HB1.out) HL.out HLB.out).mono ?_
  rintro x w2 ⟨rfl, hb⟩
  have HB2 := Aside0.mk (HB1.out.trans (hb.mono HB1.out.size))
  have HQ2 := Aside0.mk ((hb.block _ (blk_lt HQ1.out)).trans HQ1.out)
  clear hb HB1 HQ1
  by_cases hok : okMsg [a0, a1, a2, a3, a4, a5, a6, a7, a8, a9, a10] log body = true
  · rw [if_pos hok]
    have HOK := Aside0.mk hok
    have HLLB := Aside0.mk (show log.length ≤ 1000000000 ∧ body.length ≤ 1000000000 by
      have h1 := hok
      unfold okMsg at h1
      simp only [Bool.and_eq_true, decide_eq_true_iff] at h1
      have h2 := h1.2.2.1
      have h3 := h1.2.2.2.1
      omega)
    clear HL HLB
    have HL := Aside0.mk HLLB.out.1
    have HLB := Aside0.mk HLLB.out.2
    clear hok
    obtain ⟨q, hq⟩ : ∃ q, w.heap.size = q := ⟨_, rfl⟩
    rw [hq] at HQ2
    rw [hq]
    have HQ := Aside0.mk hq
    clear hq
    go_upto_region 6 with (fail)
    have HI := Aside0.mk (show IsBd (w2.alloc (.cells #[.pointer none, .slice none 0 0] 43)) q w2.heap.size ⟨#[]⟩ from ⟨_, _, Or.inl rfl, heap_alloc_new w2 _, by rw [← HQ.out]; exact HB2.out.size, own_nil _ _ _ _⟩)
    have hbb := below_alloc (Below.refl w2.heap.size w2) (.cells #[.pointer none, .slice none 0 0] 43)
    have HB3 := Aside0.mk (HB2.out.trans (hbb.mono HB2.out.size))
    have HQ3 := Aside0.mk ((hbb.block _ (blk_lt HQ2.out)).trans HQ2.out)
    obtain ⟨gb, hgb⟩ : ∃ gb, w2.heap.size = gb := ⟨_, rfl⟩
    rw [hgb] at HI
    rw [hgb]
    generalize w2.alloc (.cells #[.pointer none, .slice none 0 0] 43) = w3 at HI HB3 HQ3 ⊢
    clear hbb hgb HQ2 HB2
    have e7 : w3.cell? ⟨q, 7, none⟩ = some (.int .i64 a7) := (blk_cell HQ3.out 7).trans rfl
    go_wp2_with fail
    have hbb := below_alloc (Below.refl w3.heap.size w3) (.cells #[.int .i64 a7] 3)
    have hE := heap_alloc_new w3 (.cells #[.int .i64 a7] 3)
    have HB4 := Aside0.mk (HB3.out.trans (hbb.mono HB3.out.size))
    have HQ4 := Aside0.mk ((hbb.block _ (blk_lt HQ3.out)).trans HQ3.out)
    have HI4 := Aside0.mk (HI.out.below hbb)
    obtain ⟨e, he⟩ : ∃ e, w3.heap.size = e := ⟨_, rfl⟩
    rw [he] at hE
    rw [he]
    have HE4 := Aside0.mk hE
    generalize w3.alloc (.cells #[.int .i64 a7] 3) = w4 at HI4 HB4 HQ4 HE4 ⊢
    clear hbb he HQ3 HB3 HI hE e7
    refine (fields_any q e _).mono ?_
    rintro x w5 ⟨f, rfl, hfs, hF, hb⟩
    have HC := Aside0.mk (show CS w w5 q e f a0 a1 a2 a3 a4 a5 a6 a7 a8 a9 a10 (.slice A11 log.length c11) (.slice A12 body.length c12) from ⟨(hb.block _ (blk_lt HQ4.out)).trans HQ4.out, (hb.block _ (blk_lt HE4.out)).trans HE4.out, hF, HB4.out.trans (hb.mono HB4.out.size)⟩)
    have HI5 := Aside0.mk (HI4.out.below hb)
    clear hb hF hfs HQ4 HE4 HB4 HI4
    obtain ⟨ns, hns⟩ : ∃ ns, [a0, a1, a2, a3, a4, a5, a6, a7, a8, a9, a10] = ns := ⟨_, rfl⟩
    have HNS := Aside0.mk hns
    have HNB := Aside0.mk (show ∀ i, i < 11 → 0 ≤ ns.getD i 0 ∧ ns.getD i 0 < 9223372036854775808 from fun i hi => by
      have h1 := HOK.out
      rw [hns] at h1
      unfold okMsg at h1
      rw [Bool.and_eq_true] at h1
      have h2 := (okNums_iff ns).1 h1.1 i hi
      have h3 : mostOf i ≤ 1099511627776 := by
        match i, hi with
        | 0, _ | 1, _ | 2, _ | 3, _ | 4, _ | 5, _ | 6, _ | 7, _ | 8, _ | 9, _ | 10, _ => decide
      omega)
    clear hns
    go_wp2_with fail
    go_loopw [24] (fun v24 wr => ∃ (i : Nat), v24 = .int .i64 i ∧ i ≤ 11 ∧ Aside0 (CS w wr q e f a0 a1 a2 a3 a4 a5 a6 a7 a8 a9 a10 (.slice A11 log.length c11) (.slice A12 body.length c12)) ∧ Aside0 (IsBd wr q gb (numsB ns i)) ∧ Aside0 ((numsB ns i).size ≤ 9 * i)) (fun v24 _ => 11 - (intOf v24).toNat)
    case atStart => exact ⟨0, rfl, by decide, HC, HI5, ⟨Nat.le_refl _⟩⟩
    case round =>
      clear HC HI5
      obtain ⟨i, rfl, hi, HC, HI, HS⟩ := hrel
      by_cases hlt : i < 11
      · have hb1 : decide ((i : Int) < 11) = true := by simp; omega
        have hp := HC.out.hf.ptr i hlt
        have hm := HC.out.hf.most i hlt
        obtain ⟨ad, had⟩ : ∃ ad, fa q e i = ad := ⟨_, rfl⟩
        rw [had] at hp
        have HAD := Aside0.mk had
        clear had
        go_upto_region 10 with (fail)
        have hbb := below_alloc (Below.refl wr.heap.size wr) (.cells #[.pointer (some ad), .int .i64 (mostOf i)] 55)
        have HC5 := Aside0.mk (HC.out.below hbb)
        have HI5 := Aside0.mk (HI.out.below hbb)
        have hx := (nums_of HC5.out.hq HC5.out.he).at_ i hlt
        rw [HNS.out, HAD.out] at hx
        have d0 := (blk_cell (heap_alloc_new wr (.cells #[.pointer (some ad), .int .i64 (mostOf i)] 55)) 0).trans (rfl : _ = some (Value.pointer (some ad)))
        obtain ⟨q5, hq5⟩ : ∃ q5, wr.heap.size = q5 := ⟨_, rfl⟩
        rw [hq5] at d0 ⊢
        generalize wr.alloc (.cells #[.pointer (some ad), .int .i64 (mostOf i)] 55) = w6 at HC5 HI5 hx d0 ⊢
        clear HC HI hp hm hq5 hbb
        obtain ⟨n, hn⟩ : ∃ n : Nat, (ns.getD i 0).toNat = n := ⟨_, rfl⟩
        have hn2 := HNB.out i hlt
        have hxn : ns.getD i 0 = (n : Int) := by omega
        have HN := Aside0.mk (show n < 2 ^ 63 by omega)
        have HNN := Aside0.mk (show numsB ns (i + 1) = numsB ns i ++ vs n by rw [numsB, hn])
        rw [hxn] at hx
        clear hn hn2 hxn
        go_wp2_with fail
        refine (numc_any q gb (numsB ns i) n _ HI5.out (by rw [← HQ.out]; exact HC5.out.be.size) HN.out (by have := HS.out; omega)).mono ?_
        rintro x w7 ⟨rfl, hI, hb, hk⟩
        rw [← HNN.out] at hI
        have HC7 := Aside0.mk (HC5.out.keepT hk (by rw [HQ.out]; exact hb))
        have HI7 := Aside0.mk hI
        have HS7 := Aside0.mk (show (numsB ns (i + 1)).size ≤ 9 * (i + 1) by rw [HNN.out, ByteArray.size_append]; have := HS.out; have := vs_size n HN.out; omega)
        clear hI hb hk HC5 HI5 d0 hx
        go_wp2_with fail
        go_roundw
        case rel => exact ⟨i + 1, by simp, hlt, HC7, HI7, HS7⟩
        case measure => simp [intOf]; omega
      · have hie : i = 11 := by omega
        subst hie
        have hb1 : decide ((11 : Int) < 11) = false := by decide
        have e11 : wr.cell? ⟨q, 11, none⟩ = some (.slice A11 log.length c11) := (blk_cell HC.out.hq 11).trans rfl
        have HLN := Aside0.mk (show log.length < 2 ^ 63 by have := HL.out; omega)
        go_wp2_with fail
        refine (numc_any q gb (numsB ns 11) log.length _ HI.out (by rw [← HQ.out]; exact HC.out.be.size) HLN.out (by have := HS.out; omega)).mono ?_
        rintro x w7 ⟨rfl, hI, hb, hk⟩
        have HC7 := Aside0.mk (HC.out.keepT hk (by rw [HQ.out]; exact hb))
        obtain ⟨s0, hs0⟩ : ∃ y, numsB ns 11 ++ vs log.length = y := ⟨_, rfl⟩
        rw [hs0] at hI
        have HI7 := Aside0.mk hI
        have HS7 := Aside0.mk (show s0.size ≤ 2000000 by rw [← hs0, ByteArray.size_append]; have := HS.out; have := vs_size log.length HLN.out; omega)
        have HSE := Aside0.mk hs0
        clear hI hb hk HC HI e11 hs0 HS
        have e11 : w7.cell? ⟨q, 11, none⟩ = some (.slice A11 log.length c11) := (blk_cell HC7.out.hq 11).trans rfl
        go_wp2_with fail
        go_loopw [43] (fun v43 wr => ∃ (i : Nat) (acc : ByteArray), v43 = .int .i64 i ∧ i ≤ log.length ∧ Aside0 (CS w wr q e f a0 a1 a2 a3 a4 a5 a6 a7 a8 a9 a10 (.slice A11 log.length c11) (.slice A12 body.length c12)) ∧ Aside0 (IsBd wr q gb acc) ∧ Aside0 (acc.size ≤ 2000000) ∧ Aside0 (logB (log.drop i) acc = logB log s0)) (fun v43 _ => log.length - (intOf v43).toNat)
        case atStart => exact ⟨0, s0, rfl, Nat.zero_le _, HC7, HI7, HS7, ⟨rfl⟩⟩
        case round =>
          clear HC7 HI7 HS7 e11
          obtain ⟨i, acc, rfl, hi, HC, HI, HS, HG⟩ := hrel
          by_cases hlt : i < log.length
          · have hb1 : decide ((i : Int) < (log.length : Int)) = true := by simp; omega
            have HC1 := Kd.C_below HR1.out HC.out.be
            obtain ⟨ad, hA, hx⟩ := Kd.at_string HC1 (i : Int) (by omega) (by omega)
            subst hA
            simp only [Int.toNat_natCast] at hx
            obtain ⟨t, ht⟩ : ∃ t, rdOf ByteArray.empty log (i : Int) = t := ⟨_, rfl⟩
            have hdrop : log.drop i = t :: log.drop (i + 1) := by
              rw [List.drop_eq_getElem_cons hlt, ← ht]
              simp [rdOf, List.getD_eq_getElem?_getD, hlt]
            rw [ht] at hx
            have htz : t.size ≤ 262154 := by
              have h1 := HOK.out
              unfold okMsg at h1
              simp only [Bool.and_eq_true, decide_eq_true_iff] at h1
              have h2 := (allLog_iff log).1 h1.2.2.2.2.1 i hlt
              have h3 : log.getD i ByteArray.empty = t := by rw [← ht]; simp [rdOf]
              rw [h3] at h2
              exact h2
            have HTZ := Aside0.mk htz
            have hg := HG.out
            rw [hdrop, logB] at hg
            have HG2 := Aside0.mk hg
            have hi20 : i ≤ 1000000000 := by have := HL.out; omega
            clear HC1 ht hdrop htz hg HG
            go_wp2_with fail
            refine (numc_any q gb acc t.size _ HI.out (by rw [← HQ.out]; exact HC.out.be.size) (by have := HTZ.out; omega) (by have := HS.out; omega)).mono ?_
            rintro x w8 ⟨rfl, hI, hb, hk⟩
            have HC8 := Aside0.mk (HC.out.keepT hk (by rw [HQ.out]; exact hb))
            have HI8 := Aside0.mk hI
            have HS8 := Aside0.mk (show (acc ++ vs t.size).size ≤ 2000009 by rw [ByteArray.size_append]; have := HS.out; have := vs_size t.size (by have := HTZ.out; omega); omega)
            clear hI hb hk HC HI HS
            go_wp2_with fail
            refine (writeString q gb (acc ++ vs t.size) t _ HI8.out (by rw [← HQ.out]; exact HC8.out.be.size) (by have := HS8.out; have := HTZ.out; omega)).mono ?_
            rintro x w9 ⟨rfl, hI, hb, hk⟩
            have HC9 := Aside0.mk (HC8.out.keepT hk (by rw [HQ.out]; exact hb))
            obtain ⟨a2', ha2⟩ : ∃ y, acc ++ vs t.size ++ t = y := ⟨_, rfl⟩
            rw [ha2] at hI HG2
            have HI9 := Aside0.mk hI
            clear hI hb hk HC8 HI8 HS8 ha2
            go_wp2_with fail
            refine (len_any q gb a2' _ HI9.out).mono ?_
            rintro x w10 ⟨rfl, rfl⟩
            by_cases hbig : 1048576 < a2'.size
            · have hb2 : decide (1048576 < (a2'.size : Int)) = true := by simp; omega
              have hw := HWR.out
              rw [HNS.out] at hw
              have hok := HOK.out
              rw [HNS.out] at hok
              unfold wireB at hw
              rw [if_pos hok, HSE.out, ← HG2.out, if_pos hbig] at hw
              simp only at hw
              obtain ⟨rfl, rfl⟩ := Prod.mk.inj hw
              clear hw hok hbig
              go_wp2_with fail
              go_ret2
              exact ⟨rfl, HC9.out.be⟩
            · have hb2 : decide (1048576 < (a2'.size : Int)) = false := by simp; omega
              have HS9 := Aside0.mk (show a2'.size ≤ 2000000 by omega)
              have hg := HG2.out
              rw [if_neg hbig] at hg
              have HG3 := Aside0.mk hg
              clear hg hbig
              go_wp2_with fail
              go_roundw
              case rel => exact ⟨i + 1, a2', by simp, hlt, HC9, HI9, HS9, HG3⟩
              case measure => simp [intOf]; omega
          · have hie : i = log.length := by omega
            subst hie
            have hb1 : decide ((log.length : Int) < (log.length : Int)) = false := by simp
            have e12 : wr.cell? ⟨q, 12, none⟩ = some (.slice A12 body.length c12) := (blk_cell HC.out.hq 12).trans rfl
            have hg := HG.out
            rw [List.drop_length, logB] at hg
            have HG2 := Aside0.mk hg
            clear hg HG
            go_wp2_with fail
            refine (numc_any q gb acc body.length _ HI.out (by rw [← HQ.out]; exact HC.out.be.size) (by have := HLB.out; omega) (by have := HS.out; omega)).mono ?_
            rintro x w8 ⟨rfl, hI, hb, hk⟩
            have HC8 := Aside0.mk (HC.out.keepT hk (by rw [HQ.out]; exact hb))
            have HI8 := Aside0.mk hI
            have HS8 := Aside0.mk (show (acc ++ vs body.length).size ≤ 2000009 by rw [ByteArray.size_append]; have := HS.out; have := vs_size body.length (by have := HLB.out; omega); omega)
            clear hI hb hk HC HI HS e12
            have e12 : w8.cell? ⟨q, 12, none⟩ = some (.slice A12 body.length c12) := (blk_cell HC8.out.hq 12).trans rfl
            go_wp2_with fail
            obtain ⟨⟨x1, x2⟩, hx⟩ : ∃ x, rgo 0 body 0 ⟨#[]⟩ = x := ⟨_, rfl⟩
            have hrb : recBytes body 0 = some (x1, x2) := by
              unfold recBytes
              rw [if_neg (by decide), if_pos HLB.out, hx]
            have HRB := Aside0.mk hrb
            have HX := Aside0.mk hx
            have HXS := Aside0.mk (show x1.size ≤ 4200000000000 by
              have h1 := rgo_size 0 (Int.le_refl _) body 0 ⟨#[]⟩
              rw [hx] at h1
              have h2 : x1.size ≤ 0 + 4200 * body.length := h1
              have := HLB.out
              omega)
            clear hx hrb
            refine (bytes_any A12 c12 body 0 x1 x2 _ (Kd.C_below HR2.out HC8.out.be) HCB.out HRB.out).mono ?_
            rintro x w9 ⟨rfl, hb⟩
            have HC9 := Aside0.mk (HC8.out.below hb)
            have HI9 := Aside0.mk (HI8.out.below hb)
            clear hb HC8 HI8 e12
            go_wp2_with fail
            refine (writeString q gb (acc ++ vs body.length) x1 _ HI9.out (by rw [← HQ.out]; exact HC9.out.be.size) (by have := HS8.out; have := HXS.out; omega)).mono ?_
            rintro x w10 ⟨rfl, hI, hb, hk⟩
            have HC10 := Aside0.mk (HC9.out.keepT hk (by rw [HQ.out]; exact hb))
            obtain ⟨a2', ha2⟩ : ∃ y, acc ++ vs body.length ++ x1 = y := ⟨_, rfl⟩
            rw [ha2] at hI
            have HI10 := Aside0.mk hI
            have HA2 := Aside0.mk ha2
            clear hI hb hk HC9 HI9 ha2
            go_wp2_with fail
            refine (len_any q gb a2' _ HI10.out).mono ?_
            rintro x w11 ⟨rfl, rfl⟩
            have hw := HWR.out
            rw [HNS.out] at hw
            have hok := HOK.out
            rw [HNS.out] at hok
            unfold wireB at hw
            rw [if_pos hok, HSE.out, ← HG2.out, HX.out] at hw
            simp only at hw
            rw [HA2.out] at hw
            by_cases hbig : 1048576 < a2'.size
            · have hb2 : decide (1048576 < (a2'.size : Int)) = true := by simp; omega
              rw [if_pos hbig] at hw
              obtain ⟨rfl, rfl⟩ := Prod.mk.inj hw
              clear hw hok hbig
              go_wp2_with fail
              go_ret2
              exact ⟨rfl, HC10.out.be⟩
            · have hb2 : decide (1048576 < (a2'.size : Int)) = false := by simp; omega
              rw [if_neg hbig] at hw
              obtain ⟨rfl, rfl⟩ := Prod.mk.inj hw
              clear hw hok hbig
              go_wp2_with fail
              refine (string_any q gb a2' _ HI10.out (by rw [← HQ.out]; exact HC10.out.be.size)).mono ?_
              rintro x w12 ⟨rfl, hb⟩
              have HB := Aside0.mk (HC10.out.be.trans (by rw [HQ.out]; exact hb))
              clear hb
              go_wp2_with fail
              go_ret2
              exact ⟨rfl, HB.out⟩
  · rw [if_neg hok]
    have hw := HWR.out
    unfold wireB at hw
    rw [if_neg hok] at hw
    obtain ⟨rfl, rfl⟩ := Prod.mk.inj hw
    clear hw hok
    go_wp2_with fail
    go_ret2
    exact ⟨rfl, HB2.out⟩
end Go.Proofs.Ytojnhklgfdfkcaa.WK
