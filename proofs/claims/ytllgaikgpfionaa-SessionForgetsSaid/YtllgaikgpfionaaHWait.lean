/- session.Wait: walked. -/
import Derived.Test.YtllgaikgpfionaaHSes
import Derived.Deep.RegionLaw
namespace Go.Proofs.Ytllgaikgpfionaa.SM
open Go.RowKit Go.Proofs.YtllgaikgpfionaaW.PrintWords Go.Proofs.YtllgaikgpfionaaW.PrintLast Go.Proofs.YtllgaikgpfionaaW.PrintMore Go.Proofs.Ytllgaikgpfionaa.HW Go.Proofs.Ytllgaikgpfionaa.MB
attribute [local go_sem] max2_int min2_int max_two min_two max_three min_three max_four min_four   -- for this text's walks alone
def Wt.val (x : Wt) : Value := .agg #[.int .i64 x.prod, .int .i64 x.seq, .int .i64 x.who]
def sameWt (x y : Wt) : Bool := ((x.prod == y.prod) && (x.seq == y.seq)) && (x.who == y.who)
theorem sameWt_iff (x y : Wt) : sameWt x y = true ↔ x = y := by
  unfold sameWt
  rw [Bool.and_eq_true, Bool.and_eq_true, beq_iff_eq, beq_iff_eq, beq_iff_eq]
  cases x; cases y
  simp [and_assoc]
theorem wpart0 (w : World) (a b c : Value) : (part 30 #[a, b, c] 0).run Try.prog w = .ok (.agg #[a, b]) w := by kernel_rfl
theorem wpart1 (w : World) (a b c : Value) : (part 3 #[a, b, c] 2).run Try.prog w = .ok c w := by kernel_rfl
theorem eqWt (w : World) (x y : Wt) : (Op.equal 62 x.val y.val).run Try.prog w = .ok (sameWt x y) w :=
  eqA_of (d := 9999) Try.underlying62 (by kernel_rfl) (eqf_cons rfl (wpart0 w _ _ _) (wpart0 w _ _ _) (eqId w _ (x.prod, x.seq) (y.prod, y.seq)) (eqf_last rfl (wpart1 w _ _ _) (wpart1 w _ _ _) (eqInt w _ _ _)))
set_option maxHeartbeats 1000000 in
theorem wclos_ok {W : World} {p : Nat} {y : Wt} (hp : W.heap[p]? = some (.cells #[.int .i64 y.prod, .int .i64 y.seq, .int .i64 y.who] 62 (0, 0))) (x : Wt) : Calls Try.prog 23 #[x.val, .pointer (some ⟨p, 0, none⟩)] W fun e w' => e = .returned (.bool (sameWt x y)) ∧ Below W.heap.size W w' := by
  obtain ⟨x0, x1, x2⟩ := x
  obtain ⟨y0, y1, y2⟩ := y
  have hu := Try.underlying62
  have hb := below_alloc (Below.refl W.heap.size W) (.cells #[.int .i64 x0, .int .i64 x1, .int .i64 x2] 62)
  unfold Wt.val
  simp only at hp
  have hp2 := (hb.block p (blk_lt hp)).trans hp
  have c0 : (W.alloc (.cells #[.int .i64 x0, .int .i64 x1, .int .i64 x2] 62)).cell? ⟨p, 0, none⟩ = some (.int .i64 y0) := (blk_cell hp2 0).trans rfl
  have c1 : (W.alloc (.cells #[.int .i64 x0, .int .i64 x1, .int .i64 x2] 62)).cell? ⟨p, 1, none⟩ = some (.int .i64 y1) := (blk_cell hp2 1).trans rfl
  have c2 : (W.alloc (.cells #[.int .i64 x0, .int .i64 x1, .int .i64 x2] 62)).cell? ⟨p, 2, none⟩ = some (.int .i64 y2) := (blk_cell hp2 2).trans rfl
  clear hp hp2 hb
  go_enter Try.func23, Try.ntmps23
  go_wp2_with fail
  all_goals
    go_ret
    exact ⟨by simp [sameWt, *], below_alloc (Below.refl _ _) _⟩
/-- Where somebody waits. -/
def windex (y : Wt) : List Wt → Nat → Int
  | [], _ => -1
  | x :: t, i => if sameWt x y = true then i else windex y t (i + 1)
def hasWt (y : Wt) (l : List Wt) : Bool := l.any (fun x => sameWt x y)
theorem windex_pos (y : Wt) : ∀ (l : List Wt) (i : Nat), decide (0 ≤ windex y l i) = hasWt y l
  | [], i => by simp [windex, hasWt]
  | x :: t, i => by
    have ih := windex_pos y t (i + 1)
    unfold windex
    by_cases h : sameWt x y = true
    · rw [if_pos h]; simp [hasWt, h]
    · rw [if_neg h, ih]; simp [hasWt, h]
set_option maxHeartbeats 2000000 in
theorem index_ok {W : World} {p : Nat} {y : Wt} (hp : W.heap[p]? = some (.cells #[.int .i64 y.prod, .int .i64 y.seq, .int .i64 y.who] 62 (0, 0))) {A : Option Addr} {c : Nat} (l : List Wt) (hl : Kd.C kWt W A l.length l) (hn : l.length ≤ 1000000) :
    Calls Try.prog 30 #[.slice A l.length c, .func (.func 23) #[] #[.pointer (some ⟨p, 0, none⟩)]] W fun e w' => e = .returned (.int .i64 (windex y l 0)) ∧ Below W.heap.size W w' := by
  have hu := Try.underlying55
  have hu2 := Try.underlying62
  have HP := Aside0.mk hp
  have HL := Aside0.mk hl
  have HN := Aside0.mk hn
  clear hp hl
  go_enter Try.func30, Try.ntmps30
  go_wp2_with fail
  go_loopw [8] (fun v8 wr => ∃ i : Nat, v8 = .int .i64 i ∧ i ≤ l.length ∧ Aside0 (Below W.heap.size W wr) ∧ Aside0 (windex y l 0 = windex y (l.drop i) i)) (fun v8 _ => l.length - (intOf v8).toNat)
  case atStart => exact ⟨0, rfl, Nat.zero_le _, ⟨Below.refl _ _⟩, ⟨rfl⟩⟩
  case round =>
    obtain ⟨i, rfl, hi, HB, HJ⟩ := hrel
    by_cases hlt : i < l.length
    · have hb1 : decide ((i : Int) < (l.length : Int)) = true := by simp; omega
      obtain ⟨ad, hA, h0, h1, h2⟩ := atWt (Kd.C_below HL.out HB.out) (i : Int) (by omega) (by omega)
      subst hA
      simp only [Int.toNat_natCast] at h0 h1 h2
      have q1 : (0 : Int) ≤ (i : Int) := by omega
      have q2 : (i : Int) < (l.length : Int) := by omega
      have hd : windex y (l.drop i) i = if sameWt (rdWt l i) y = true then (i : Int) else windex y (l.drop (i + 1)) (i + 1) := by
        rw [List.drop_eq_getElem_cons hlt, windex]
        have : rdWt l (i : Int) = l[i] := by unfold rdWt; rw [Int.toNat_natCast, List.getD_eq_getElem?_getD, List.getElem?_eq_getElem hlt]; rfl
        rw [this]
      have HC := Aside0.mk (wclos_ok ((HB.out.block _ (blk_lt HP.out)).trans HP.out) (rdWt l i))
      obtain ⟨⟨x0, x1, x2⟩, hx⟩ : ∃ z : Wt, rdWt l (i : Int) = z := ⟨_, rfl⟩
      rw [hx] at h0 h1 h2 hd HC
      unfold Wt.val at HC
      simp only at h0 h1 h2 HC
      have HD := Aside0.mk hd
      have HI := Aside0.mk hlt
      clear hd hx
      go_wp2_with fail
      refine HC.out.mono ?_
      rintro e w2 ⟨rfl, hb⟩
      have HB2 := Aside0.mk (HB.out.trans (hb.mono HB.out.size))
      have hd2 := HD.out
      clear hb h0 h1 h2 HB HD HC
      by_cases hs : sameWt ⟨x0, x1, x2⟩ y = true
      · rw [hs] at hd2 ⊢
        rw [if_pos rfl] at hd2
        go_wp2_with fail
        go_ret
        exact ⟨by rw [HJ.out, hd2]; rfl, HB2.out⟩
      · have hs2 := Bool.eq_false_iff.2 hs
        rw [hs2] at hd2 ⊢
        rw [if_neg (by decide)] at hd2
        have HJ2 := Aside0.mk (HJ.out.trans hd2)
        clear hs hs2 hd2
        go_wp2_with fail
        go_roundw
        case rel => exact ⟨i + 1, by simp, HI.out, HB2, HJ2⟩
        case measure => simp [intOf]; have := HI.out; omega
    · have hie : i = l.length := by omega
      subst hie
      have hb1 : decide ((l.length : Int) < (l.length : Int)) = false := by simp
      clear hlt
      go_wp2_with fail
      go_ret
      have := HJ.out
      rw [List.drop_length] at this
      exact ⟨by rw [this]; rfl, HB.out⟩
set_option maxHeartbeats 1000000 in
theorem contains_ok {W : World} {p : Nat} {y : Wt} (hp : W.heap[p]? = some (.cells #[.int .i64 y.prod, .int .i64 y.seq, .int .i64 y.who] 62 (0, 0))) {A : Option Addr} {c : Nat} (l : List Wt) (hl : Kd.C kWt W A l.length l) (hn : l.length ≤ 1000000) :
    Calls Try.prog 22 #[.slice A l.length c, .func (.func 23) #[] #[.pointer (some ⟨p, 0, none⟩)]] W fun e w' => e = .returned (.bool (hasWt y l)) ∧ Below W.heap.size W w' := by
  have h0 := index_ok hp (c := c) l hl hn
  have he : decide (0 ≤ windex y l 0) = hasWt y l := windex_pos y l 0
  obtain ⟨r, hr⟩ : ∃ r, windex y l 0 = r := ⟨_, rfl⟩
  obtain ⟨d, hd⟩ : ∃ d, hasWt y l = d := ⟨_, rfl⟩
  rw [hr] at h0 he
  rw [hd] at he
  rw [hd]
  have H := Aside0.mk h0
  clear h0 hl hp hr hd
  go_enter Try.func22, Try.ntmps22
  go_wp2_with fail
  refine H.out.mono ?_
  rintro e w2 ⟨rfl, hb⟩
  cases d with
  | true =>
    go_wp2_with fail
    go_ret
    exact ⟨rfl, hb⟩
  | false =>
    go_wp2_with fail
    go_ret
    exact ⟨rfl, hb⟩
/-- What Wait does. -/
def waitR (T : Tb) (k : Int × Int) (who : Int) : Tb × Int :=
  match look T.l k with
  | none => (T, 3)
  | some _ => if hasWt ⟨k.1, k.2, who⟩ T.ws = true then (T, 0) else if T.q ≤ (T.ws.length : Int) then (T, 150) else ({ T with ws := T.ws ++ [⟨k.1, k.2, who⟩] }, 0)
set_option maxHeartbeats 4000000 in
theorem wait_ok {W : World} {B t m : Nat} {v : Value} {T T' : Tb} (h : IsT W B t m v T) (hq : 0 < T.q) (hn : T.ws.length ≤ 1000000) (a b who r : Int) (hr : waitR T (a, b) who = (T', r)) :
    Calls Try.prog 12 #[.pointer (some ⟨t, 0, none⟩), .agg #[.int .i64 a, .int .i64 b], .int .i64 who] W fun e w' => ∃ v', e = .returned (.int .i64 r) ∧ IsT w' B t m v' T' ∧ Fr (TS t m v) W w' := by
  have hu := Try.underlying57
  have hu2 := Try.underlying62
  have hu3 := Try.underlying30
  have hu4 := Try.underlying33
  have hu5 := Try.underlying55
  have H := Aside0.mk h
  have HQ := Aside0.mk hq
  have HN := Aside0.mk hn
  have HRR := Aside0.mk hr
  obtain ⟨A, c, rfl⟩ := h.slice
  obtain ⟨⟨z0, z1, z2, z3, z4⟩, f, hf⟩ : ∃ (x : Bat) (f : Int), findR T (a, b) = (x, f) := ⟨_, _, rfl⟩
  have HF := Aside0.mk hf
  clear h hq hr hf
  go_enter Try.func12, Try.ntmps12
  go_upto_region 1 with (fail)
  have k0 := heap_alloc_new W (.cells #[.int .i64 a, .int .i64 b] 30)
  have hB := below_alloc (Below.refl W.heap.size W) (.cells #[.int .i64 a, .int .i64 b] 30)
  have H2 := Aside0.mk (H.out.below hB)
  have HB := Aside0.mk hB
  obtain ⟨g, hg⟩ : ∃ g, W.heap.size = g := ⟨_, rfl⟩
  rw [hg] at k0
  rw [hg]
  have HG := Aside0.mk hg
  have K0 := Aside0.mk k0
  clear k0 hB hg
  generalize W.alloc (.cells #[.int .i64 a, .int .i64 b] 30) = w1 at H2 HB K0 ⊢
  have i0 : w1.cell? ⟨g, 0, none⟩ = some (.int .i64 a) := (blk_cell K0.out 0).trans rfl
  have i1 : w1.cell? ⟨g, 1, none⟩ = some (.int .i64 b) := (blk_cell K0.out 1).trans rfl
  go_wp2_with fail
  refine (find_ok H2.out HQ.out a b _ _ HF.out).mono ?_
  rintro e w2 ⟨rfl, hb⟩
  replace K0 := Aside0.mk ((hb.block _ (blk_lt K0.out)).trans K0.out)
  replace HB := Aside0.mk (HB.out.trans (hb.mono HB.out.size))
  replace H2 := Aside0.mk (H2.out.below hb)
  clear hb i0 i1
  have hff := HF.out
  have hrr := HRR.out
  unfold findR at hff
  unfold waitR at hrr
  unfold Bat.val
  simp only
  cases hl : look T.l (a, b) with
  | none =>
    rw [hl] at hff hrr
    obtain ⟨h1, rfl⟩ := Prod.mk.inj hff
    obtain ⟨rfl, rfl⟩ := Prod.mk.inj hrr
    clear h1 hff hrr hl
    go_wp2_with fail
    go_ret
    exact ⟨_, rfl, H2.out.below (below_alloc (Below.refl _ _) _), Fr.of_below_all (HB.out.trans ((below_alloc (Below.refl _ _) _).mono HB.out.size)) _⟩
  | some x =>
    rw [hl] at hff hrr
    obtain ⟨h1, rfl⟩ := Prod.mk.inj hff
    simp only at hrr
    clear h1 hff hl
    go_upto_region 4 with (fail)
    have hb := below_alloc (Below.refl w2.heap.size w2) (.cells #[.int .i64 z0, .int .i64 z1, .int .i64 z2, .int .i64 z3, .int .i64 z4, .slice none 0 0] 33)
    replace K0 := Aside0.mk ((hb.block _ (blk_lt K0.out)).trans K0.out)
    replace HB := Aside0.mk (HB.out.trans (hb.mono HB.out.size))
    replace H2 := Aside0.mk (H2.out.below hb)
    clear hb
    obtain ⟨q, hq⟩ : ∃ q, w2.heap.size = q := ⟨_, rfl⟩
    rw [hq]
    clear hq
    generalize w2.alloc (.cells #[.int .i64 z0, .int .i64 z1, .int .i64 z2, .int .i64 z3, .int .i64 z4, .slice none 0 0] 33) = w3 at K0 HB H2 ⊢
    have i0 : w3.cell? ⟨g, 0, none⟩ = some (.int .i64 a) := (blk_cell K0.out 0).trans rfl
    have i1 : w3.cell? ⟨g, 1, none⟩ = some (.int .i64 b) := (blk_cell K0.out 1).trans rfl
    go_upto_region 5 with (fail)
    have hb := below_alloc (Below.refl w3.heap.size w3) (.cells #[.int .i64 a, .int .i64 b, .int .i64 who] 62)
    have k1 := heap_alloc_new w3 (.cells #[.int .i64 a, .int .i64 b, .int .i64 who] 62)
    replace HB := Aside0.mk (HB.out.trans (hb.mono HB.out.size))
    replace H2 := Aside0.mk (H2.out.below hb)
    clear hb i0 i1 K0
    obtain ⟨p, hp⟩ : ∃ p, w3.heap.size = p := ⟨_, rfl⟩
    rw [hp] at k1
    rw [hp]
    have KP := Aside0.mk k1
    clear hp k1
    generalize w3.alloc (.cells #[.int .i64 a, .int .i64 b, .int .i64 who] 62) = w4 at HB H2 KP ⊢
    have c3 : w4.cell? ⟨t, 3, none⟩ = some (.slice A T.ws.length c) := (blk_cell H2.out.bt 3).trans rfl
    go_wp2_with fail
    have hro := H2.out.ro
    refine (contains_ok (y := ⟨a, b, who⟩) KP.out T.ws (Kd.R_reads' hro).2.2 HN.out).mono ?_
    rintro e w5 ⟨rfl, hb⟩
    replace KP := Aside0.mk ((hb.block _ (blk_lt KP.out)).trans KP.out)
    replace HB := Aside0.mk (HB.out.trans (hb.mono HB.out.size))
    replace H2 := Aside0.mk (H2.out.below hb)
    clear hb c3 hro
    by_cases hh : hasWt ⟨a, b, who⟩ T.ws = true
    · rw [if_pos hh] at hrr
      obtain ⟨rfl, rfl⟩ := Prod.mk.inj hrr
      rw [hh]
      clear hrr hh
      go_wp2_with fail
      go_ret
      exact ⟨_, rfl, H2.out, Fr.of_below_all HB.out _⟩
    · rw [if_neg hh] at hrr
      rw [Bool.eq_false_iff.2 hh]
      have c3 : w5.cell? ⟨t, 3, none⟩ = some (.slice A T.ws.length c) := (blk_cell H2.out.bt 3).trans rfl
      have c0 : w5.cell? ⟨t, 0, none⟩ = some (.int .i64 T.q) := (blk_cell H2.out.bt 0).trans rfl
      clear hh
      by_cases hf : T.q ≤ (T.ws.length : Int)
      · rw [if_pos hf] at hrr
        obtain ⟨rfl, rfl⟩ := Prod.mk.inj hrr
        have b1 : decide (T.q ≤ (T.ws.length : Int)) = true := by simpa using hf
        clear hrr hf
        go_upto_region 7 with (fail)
        go_region
        all_goals
          go_wp2_with fail
          go_ret
          exact ⟨_, rfl, H2.out.drew, (Fr.of_below_all HB.out _).drew⟩
      · rw [if_neg hf] at hrr
        obtain ⟨rfl, rfl⟩ := Prod.mk.inj hrr
        have b1 : decide (T.q ≤ (T.ws.length : Int)) = false := by simpa using hf
        clear hrr hf
        go_upto_region 7 with (fail)
        go_region
        all_goals
          have KP6 := Aside0.mk (show w5.drew.heap[p]? = _ from KP.out)
          have H6 := Aside0.mk H2.out.drew
          have HB6 := Aside0.mk (below_drew HB.out)
          generalize w5.drew = w6 at KP6 H6 HB6 ⊢
          clear c3 c0 KP H2 HB w5
          go_upto_region 9 with (fail)
          have c3 : w6.cell? ⟨t, 3, none⟩ = some (.slice A T.ws.length c) := (blk_cell H6.out.bt 3).trans rfl
          have p0 : w6.cell? ⟨p, 0, none⟩ = some (.int .i64 a) := (blk_cell KP6.out 0).trans rfl
          have p1 : w6.cell? ⟨p, 1, none⟩ = some (.int .i64 b) := (blk_cell KP6.out 1).trans rfl
          have p2 : w6.cell? ⟨p, 2, none⟩ = some (.int .i64 who) := (blk_cell KP6.out 2).trans rfl
          have hba := below_alloc (Below.refl w6.heap.size w6) (.cells #[.int .i64 a, .int .i64 b, .int .i64 who] 62)
          have c3a : (w6.alloc (.cells #[.int .i64 a, .int .i64 b, .int .i64 who] 62)).cell? ⟨t, 3, none⟩ = some (.slice A T.ws.length c) := (blk_cell ((hba.block _ H6.out.lt).trans H6.out.bt) 3).trans rfl
          have p0a : (w6.alloc (.cells #[.int .i64 a, .int .i64 b, .int .i64 who] 62)).cell? ⟨p, 0, none⟩ = some (.int .i64 a) := (blk_cell ((hba.block _ (blk_lt KP6.out)).trans KP6.out) 0).trans rfl
          have p1a : (w6.alloc (.cells #[.int .i64 a, .int .i64 b, .int .i64 who] 62)).cell? ⟨p, 1, none⟩ = some (.int .i64 b) := (blk_cell ((hba.block _ (blk_lt KP6.out)).trans KP6.out) 1).trans rfl
          have p2a : (w6.alloc (.cells #[.int .i64 a, .int .i64 b, .int .i64 who] 62)).cell? ⟨p, 2, none⟩ = some (.int .i64 who) := (blk_cell ((hba.block _ (blk_lt KP6.out)).trans KP6.out) 2).trans rfl
          clear hba
          have HRO := Aside0.mk (Kd.R_drew H6.out.ro)
          have HBB := Aside0.mk (show Below B w6.drew w6.drew from Below.refl _ _)
          have HSZ := Aside0.mk (show B ≤ w6.drew.heap.size from Nat.le_of_lt (Nat.lt_of_le_of_lt H6.out.ht H6.out.lt))
          go_region_law (((rw [show (w6.alloc (Obj.cells #[.int .i64 a, .int .i64 b, .int .i64 who] 62)).drew = w6.drew.alloc (.cells #[.int .i64 a, .int .i64 b, .int .i64 who] 62) from rfl]); (refine Kd.R_append_step kWt (w0 := w6.drew) (W := w6.drew) B (by rfl) (.tmp 42) (.tmp 44) 55 62 (.agg #[.int .i64 0, .int .i64 0, .int .i64 0]) 24 (by rfl) Try.underlying55 info62 rfl (by decide) (by decide) (.slice A T.ws.length c) T.ws ⟨a, b, who⟩ [.int .i64 a, .int .i64 b, .int .i64 who] (fun _ => True) (fun _ => False) (by rfl) (by rfl) (kWt_mkM _ _ _ _) (fun _ hk => hk.elim) (fun _ _ => trivial) HRO.out HBB.out HSZ.out (by have := HN.out; omega) ?_); intro v9 w9 ho hb hg hat; have HF9 := Aside0.mk (Fr.grown hg (Fr.refl (fun k => (Value.slice A T.ws.length c).ownBlock = some k) w6.drew) (fun k hk => Or.inl hk)); have HR9 := Aside0.mk ho; have hbt := HF9.out.blk (show w6.drew.heap[t]? = _ from H6.out.bt) (fun e => H6.out.row_ne.1 e); have e9 := (blk_cell hbt 3).trans (rfl : _ = some (Value.slice A T.ws.length c)); have z9 := blk_frozen hbt 3; clear ho hb hg hat hbt; obtain ⟨ys, hys⟩ : ∃ y, T.ws ++ [Wt.mk a b who] = y := ⟨_, rfl⟩; rw [hys] at HR9; have HYS := Aside0.mk hys; clear hys; obtain ⟨Ao, co, eo⟩ := Kd.R_slice HR9.out; subst eo))
          all_goals
            obtain ⟨hI, hfr⟩ := H6.out.drew.setRow HF9.out HR9.out
            have HI := Aside0.mk hI
            have HFR := Aside0.mk hfr
            clear hI hfr HF9 HR9 HRO HBB HSZ e9 z9 c3 p0 p1 p2 c3a p0a p1a p2a
            generalize w9.setCell ⟨t, 3, none⟩ (.slice Ao ys.length co) = w10 at HI HFR ⊢
            clear w9
            go_wp2_with fail
            go_ret
            exact ⟨_, rfl, by rw [HYS.out]; exact HI.out, (Fr.of_below_all HB6.out _).drew.then_ HFR.out (fun k hk => Or.inl hk)⟩
end Go.Proofs.Ytllgaikgpfionaa.SM
