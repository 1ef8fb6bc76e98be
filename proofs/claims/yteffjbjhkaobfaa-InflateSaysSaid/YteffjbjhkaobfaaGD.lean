/- inflate's must, right, bits, room, symbol: walked. inflate's whole, table, spread: walked. inflate's fixed: walked. inflate's lengths: walked. inflate's dynamic: walked. A reader's Align and Bytes. inflate's room, and blocks that are stored: walked. -/
import Derived.Test.YteffjbjhkaobfaaGC
import Derived.Test.YteffjbjhkaobfaaGB
import Derived.Deep.RegionHeld3
import Derived.Test.YteffjbjhkaobfaaFSpr
import Derived.Deep.CutBlock
namespace Go.Proofs.Yteffjbjhkaobfaa.HI
open Go.RowKit Go.Proofs.YteffjbjhkaobfaaW.PrintWords Go.Proofs.YteffjbjhkaobfaaW.PrintLast Go.Proofs.YteffjbjhkaobfaaW.PrintMore Go.Proofs.Yteffjbjhkaobfaa.HW Go.Proofs.Yteffjbjhkaobfaa.MB Go.Proofs.Yteffjbjhkaobfaa.Fn Go.Proofs.Yteffjbjhkaobfaa.HF Go.Proofs.Yteffjbjhkaobfaa.RT Go.Proofs.Yteffjbjhkaobfaa.RT.Rd
attribute [local go_sem] max2_int min2_int max_two min_two max_three min_three max_four min_four   -- for this text's walks alone
/-- Why a reading ended. -/
def refErr (e : Int) : List PanicEntry := [{ v := .iface 45 (.agg #[.int .i64 e]), recovered := false }]
theorem must_no (e : Int) (h : ¬ e = 0) (W : World) : Calls Try.prog 35 #[.int .i64 e] W fun r w' => r = .panicked (refErr e) ∧ W = w' := by
  have hb : decide (e = 0) = false := decide_eq_false h
  have hb2 : (e == 0) = false := by rw [beq_eq_false_iff_ne]; exact h
  go_enter Try.func35, Try.ntmps35
  go_wp2_with fail
  exact ⟨rfl, rfl, rfl⟩
theorem must_ok (W : World) : Calls Try.prog 35 #[.int .i64 0] W fun r w' => r = .returned (.tuple #[]) ∧ W = w' := by
  go_enter Try.func35, Try.ntmps35
  go_wp2_with fail
  go_end0
  exact ⟨rfl, rfl⟩
theorem right_ok (W : World) : Calls Try.prog 46 #[.bool true] W fun r w' => r = .returned (.tuple #[]) ∧ W = w' := by
  go_enter Try.func46, Try.ntmps46
  go_wp2_with fail
  go_end0
  exact ⟨rfl, rfl⟩
theorem right_no (W : World) : Calls Try.prog 46 #[.bool false] W fun r w' => r = .panicked (refErr 40) ∧ W = w' := by
  go_enter Try.func46, Try.ntmps46
  go_wp2_with fail
  refine (must_no 40 (by decide) W).mono ?_
  rintro e w2 ⟨rfl, rfl⟩
  exact ⟨rfl, rfl, rfl⟩
/-- A reading that goes on: what it reads, its room, its bytes. -/
structure IsX (W : World) (B x g : Nat) (ov : Value) (s : ByteArray) (a most : Nat) (out : List Int) : Prop where
  bx : W.heap[x]? = some (.cells #[.pointer (some ⟨g, 0, none⟩), .int .i64 most, ov] 50 (0, 0))
  rd : IsR W g s a
  ro : Kd.R (Kd.int .u8) 5 W B (fun _ => True) ov out
  hx : B ≤ x
  hg : B ≤ g
  le : a ≤ 8 * s.size
  sz : s.size ≤ 1000000000000000
  ml : most ≤ 1048576
  ol : out.length ≤ most
/-- What a reading's calls may write. -/
def XS (x g : Nat) (ov : Value) (k : Nat) : Prop := k = x ∨ k = g ∨ ov.ownBlock = some k
/-- What a reading's call tells. -/
def PX {α : Type} (V : α → Value) (O : α → List Int) (B x g : Nat) (ov : Value) (s : ByteArray) (most : Nat) (W : World) (r : Res α) (e : Ending) (w' : World) : Prop :=
  match r with
  | .ok v a => e = .returned (V v) ∧ ∃ ov', IsX w' B x g ov' s a most (O v) ∧ Fr (XS x g ov) W w' ∧ AtB W ov ov'
  | .no er => e = .panicked (refErr er) ∧ Below B W w'
theorem rowB_keep {W W' : World} {B : Nat} {v : Value} {xs : List Int} (h : Kd.R (Kd.int .u8) 5 W B (fun _ => True) v xs) (hb : ∀ k, v.ownBlock = some k → k < W.heap.size → W'.heap[k]? = W.heap[k]?) : Kd.R (Kd.int .u8) 5 W' B (fun _ => True) v xs :=
  Kd.R_mono (Kd.R_step (Kd.R_tight rfl h) (fun k hk hlt => hb k hk.symm hlt)) (fun _ _ => trivial)
section
variable {W W' : World} {B x g : Nat} {ov : Value} {s : ByteArray} {a most : Nat} {out : List Int}
theorem IsX.lt (h : IsX W B x g ov s a most out) : x < W.heap.size ∧ g < W.heap.size := ⟨blk_lt h.bx, h.rd.lt⟩
theorem IsX.base (h : IsX W B x g ov s a most out) : B ≤ W.heap.size := Nat.le_of_lt (Nat.lt_of_le_of_lt h.hx h.lt.1)
theorem IsX.ne (h : IsX W B x g ov s a most out) : x ≠ g ∧ ov.ownBlock ≠ some x ∧ ov.ownBlock ≠ some g := by
  refine ⟨fun e => ?_, fun e => Kd.R_ne h.ro h.bx (by decide) e.symm, fun e => Kd.R_ne h.ro h.rd (by decide) e.symm⟩
  have h1 := h.bx
  have h2 : W.heap[g]? = _ := h.rd
  rw [e, h2] at h1
  cases h1
theorem IsX.ge (h : IsX W B x g ov s a most out) (k : Nat) (hk : XS x g ov k) : B ≤ k := by
  rcases hk with rfl | rfl | hk
  · exact h.hx
  · exact h.hg
  · exact Kd.R_base h.ro k hk
theorem IsX.keep {S : Nat → Prop} (h : IsX W B x g ov s a most out) (hf : Fr S W W') (hn : ∀ k, XS x g ov k → ¬ S k) : IsX W' B x g ov s a most out :=
  ⟨hf.blk h.bx (hn x (Or.inl rfl)), h.rd.keep hf (hn g (Or.inr (Or.inl rfl))), rowB_keep h.ro (fun k e hk => hf.block k hk (hn k (Or.inr (Or.inr e)))), h.hx, h.hg, h.le, h.sz, h.ml, h.ol⟩
theorem IsX.below (h : IsX W B x g ov s a most out) (hb : Below W.heap.size W W') : IsX W' B x g ov s a most out := h.keep (Fr.of_below_all hb (fun _ => False)) (fun _ _ h => h)
/-- The reader was used. -/
theorem IsX.read {a' : Nat} (h : IsX W B x g ov s a most out) (hr : IsR W' g s a') (ha : a' ≤ 8 * s.size) (hf : Fr (fun k => k = g) W W') : IsX W' B x g ov s a' most out :=
  ⟨hf.blk h.bx h.ne.1, hr, rowB_keep h.ro (fun k e hk => hf.block k hk (fun e2 => h.ne.2.2 (by rw [e, e2]))), h.hx, h.hg, ha, h.sz, h.ml, h.ol⟩
theorem XS_of_g (hf : Fr (fun k => k = g) W W') : Fr (XS x g ov) W W' := hf.mono (fun _ _ hk => Or.inr (Or.inl hk))
theorem IsX.c0 (h : IsX W B x g ov s a most out) : W.cell? ⟨x, 0, none⟩ = some (.pointer (some ⟨g, 0, none⟩)) := (blk_cell h.bx 0).trans rfl
theorem IsX.c1 (h : IsX W B x g ov s a most out) : W.cell? ⟨x, 1, none⟩ = some (.int .i64 most) := (blk_cell h.bx 1).trans rfl
theorem IsX.c2 (h : IsX W B x g ov s a most out) : W.cell? ⟨x, 2, none⟩ = some ov := (blk_cell h.bx 2).trans rfl
theorem IsX.fz (h : IsX W B x g ov s a most out) (i : Nat) : W.frozen? ⟨x, i, none⟩ = false := blk_frozen h.bx i
end
/-- A table that stands beside a reading stays. -/
theorem IsTab.keepX {W W' : World} {Bt t B x g : Nat} {lens : List Int} {lv wv sv ov : Value} {s : ByteArray} {a most : Nat} {out : List Int} (h : IsTab W Bt t lens lv wv sv) (hx : IsX W B x g ov s a most out) (hf : Fr (XS x g ov) W W') : IsTab W' Bt t lens lv wv sv :=
  h.keep hf (fun k hk e => by
    rcases e with rfl | rfl | e
    · exact h.other hx.bx (by decide) (by decide) hk
    · exact h.other hx.rd (by decide) (by decide) hk
    · obtain ⟨inner, ho⟩ := Kd.R_own hx.ro
      obtain ⟨cells, hc⟩ := own_typed ho k e
      exact h.other hc (by decide) (by decide) hk)
/-- Two calls behind one another. -/
theorem XS_then {W w w' : World} {x g : Nat} {ov ov1 : Value} (h : Fr (XS x g ov) W w) (k : Fr (XS x g ov1) w w') (ha : AtB W ov ov1) : Fr (XS x g ov) W w' :=
  h.then_ k (fun q hq => by
    rcases hq with hq | hq | hq
    · exact Or.inl (Or.inl hq)
    · exact Or.inl (Or.inr (Or.inl hq))
    · rcases ha with ha | ⟨b, hb, hb2⟩
      · exact Or.inl (Or.inr (Or.inr (ha ▸ hq)))
      · rw [hb] at hq
        injection hq with hq
        subst hq
        exact Or.inr hb2)
set_option maxRecDepth 100000 in
set_option maxHeartbeats 4000000 in
theorem bitsX_ok {W : World} {B x g : Nat} {ov : Value} {s : ByteArray} {a most : Nat} {out : List Int} (h : IsX W B x g ov s a most out) (n : Nat) (hn : n ≤ 57) :
    Calls Try.prog 30 #[.pointer (some ⟨x, 0, none⟩), .int .i64 n] W (PX (fun v : Nat => .int .i64 v) (fun _ => out) B x g ov s most W ((bitsN n).run s a)) := by
  rw [run_bitsN s n a h.le]
  have H := Aside0.mk h
  have c0 := h.c0
  by_cases hf : a + n ≤ 8 * s.size
  · rw [if_pos hf]
    have HC := Aside0.mk (r_ok g s a n W h.rd h.sz hn hf)
    have HF := Aside0.mk hf
    clear h hf
    go_enter Try.func30, Try.ntmps30
    go_wp2_with fail
    refine HC.out.mono ?_
    rintro e w1 ⟨rfl, hr, hfr⟩
    have H1 := Aside0.mk (H.out.read hr HF.out hfr)
    have HFR := Aside0.mk (XS_of_g (x := x) (ov := ov) hfr)
    clear hr hfr HC c0
    go_wp2_with fail
    refine (must_ok _).mono ?_
    rintro e w2 ⟨rfl, rfl⟩
    go_wp2_with fail
    go_ret
    exact ⟨rfl, ov, H1.out, HFR.out, AtB.refl _ _⟩
  · rw [if_neg hf]
    have HC := Aside0.mk (r_short g s a n W h.rd h.sz hn h.le (by omega))
    clear h hf
    go_enter Try.func30, Try.ntmps30
    go_wp2_with fail
    refine HC.out.mono ?_
    rintro e w1 ⟨rfl, hr, hfr⟩
    have HB := Aside0.mk (hfr.below H.out.base (fun k hk => by rw [hk]; exact H.out.hg))
    clear hr hfr HC c0
    go_wp2_with fail
    refine (must_no 5 (by decide) _).mono ?_
    rintro e w2 ⟨rfl, rfl⟩
    exact ⟨rfl, rfl, HB.out⟩
set_option maxRecDepth 100000 in
set_option maxHeartbeats 4000000 in
theorem symX_ok {W : World} {B x g : Nat} {ov : Value} {s : ByteArray} {a most : Nat} {out : List Int} (h : IsX W B x g ov s a most out) {Bt t : Nat} {lens : List Int} {lv wv sv : Value} (ht : IsTab W Bt t lens lv wv sv) (ho : okL lens = true) :
    Calls Try.prog 49 #[.pointer (some ⟨x, 0, none⟩), .pointer (some ⟨t, 0, none⟩)] W (PX (fun v : Int => .int .i64 v) (fun _ => out) B x g ov s most W ((symT lens).run s a)) := by
  rw [run_symT]
  have H := Aside0.mk h
  have c0 := h.c0
  have HC := Aside0.mk (symbol_ok ht ho h.rd h.sz h.le)
  have hle := symF_place lens s a h.le
  unfold SyQ at HC
  generalize symF lens s a = r at HC hle ⊢
  obtain ⟨v, er, a'⟩ := r
  simp only at HC hle
  have HLE := Aside0.mk hle.1
  rcases hle.2 with rfl | rfl | rfl
  · rw [symQ_ok]
    clear h ht ho hle
    go_enter Try.func49, Try.ntmps49
    go_wp2_with fail
    refine HC.out.mono ?_
    rintro e w1 ⟨rfl, hr, hfr⟩
    have H1 := Aside0.mk (H.out.read hr HLE.out hfr)
    have HFR := Aside0.mk (XS_of_g (x := x) (ov := ov) hfr)
    clear hr hfr HC c0
    go_wp2_with fail
    refine (must_ok _).mono ?_
    rintro e w2 ⟨rfl, rfl⟩
    go_wp2_with fail
    go_ret
    exact ⟨rfl, ov, H1.out, HFR.out, AtB.refl _ _⟩
  · rw [symQ_5]
    clear h ht ho hle
    go_enter Try.func49, Try.ntmps49
    go_wp2_with fail
    refine HC.out.mono ?_
    rintro e w1 ⟨rfl, hr, hfr⟩
    have HB := Aside0.mk (hfr.below H.out.base (fun k hk => by rw [hk]; exact H.out.hg))
    clear hr hfr HC c0
    go_wp2_with fail
    refine (must_no 5 (by decide) _).mono ?_
    rintro e w2 ⟨rfl, rfl⟩
    exact ⟨rfl, rfl, HB.out⟩
  · rw [symQ_30]
    clear h ht ho hle
    go_enter Try.func49, Try.ntmps49
    go_wp2_with fail
    refine HC.out.mono ?_
    rintro e w1 ⟨rfl, hr, hfr⟩
    have HB := Aside0.mk (hfr.below H.out.base (fun k hk => by rw [hk]; exact H.out.hg))
    clear hr hfr HC c0
    go_wp2_with fail
    refine (must_no 40 (by decide) _).mono ?_
    rintro e w2 ⟨rfl, rfl⟩
    exact ⟨rfl, rfl, HB.out⟩
end Go.Proofs.Yteffjbjhkaobfaa.HI
namespace Go.Proofs.Yteffjbjhkaobfaa.HI
open Go.RowKit Go.Proofs.YteffjbjhkaobfaaW.PrintWords Go.Proofs.YteffjbjhkaobfaaW.PrintLast Go.Proofs.YteffjbjhkaobfaaW.PrintMore Go.Proofs.Yteffjbjhkaobfaa.HW Go.Proofs.Yteffjbjhkaobfaa.MB Go.Proofs.Yteffjbjhkaobfaa.Fn Go.Proofs.Yteffjbjhkaobfaa.HF Go.Proofs.Yteffjbjhkaobfaa.RT Go.Proofs.Yteffjbjhkaobfaa.RT.Rd
attribute [local go_sem] max2_int min2_int max_two min_two max_three min_three max_four min_four   -- for this text's walks alone
set_option maxHeartbeats 4000000 in
theorem wholeX (A : Option Addr) (c : Nat) (lens : List Int) (W : World) (hr : Kd.C (Kd.int .i64) W A lens.length lens) (hc : lens.length ≤ c) : Calls Try.prog 52 #[.slice A lens.length c] W fun e w' => e = .returned (.bool (isWhole lens)) ∧ Below W.heap.size W w' := by
  have HC := Aside0.mk (whole_any A c lens W hr hc)
  unfold WQ at HC
  unfold isWhole
  clear hr hc
  obtain ⟨p, hp⟩ : ∃ p, okL lens = p := ⟨_, rfl⟩
  obtain ⟨q, hq⟩ : ∃ q, wholeL lens = q := ⟨_, rfl⟩
  rw [hp, hq] at HC ⊢
  clear hp hq
  cases p with
  | false =>
    simp only [Bool.false_and, if_false, Bool.false_eq_true] at HC ⊢
    go_enter Try.func52, Try.ntmps52
    go_wp2_with fail
    refine HC.out.mono ?_
    rintro e w1 ⟨rfl, hb⟩
    go_wp2_with fail
    go_ret
    exact ⟨rfl, hb⟩
  | true =>
    simp only [Bool.true_and, if_true] at HC ⊢
    cases q with
    | false =>
      go_enter Try.func52, Try.ntmps52
      go_wp2_with fail
      refine HC.out.mono ?_
      rintro e w1 ⟨rfl, hb⟩
      go_wp2_with fail
      go_ret
      exact ⟨rfl, hb⟩
    | true =>
      go_enter Try.func52, Try.ntmps52
      go_wp2_with fail
      refine HC.out.mono ?_
      rintro e w1 ⟨rfl, hb⟩
      go_wp2_with fail
      go_ret
      exact ⟨rfl, hb⟩
/-- No words at all. -/
def noW (lens : List Int) : Bool := lens.all (fun l => decide (l = 0))
/-- What table tells: nil where there are no words. -/
def TabQ (lens : List Int) (W : World) (e : Ending) (w' : World) : Prop :=
  (noW lens = true → e = .returned (.pointer none)) ∧ (noW lens = false → ∃ t lv wv sv, e = .returned (.pointer (some ⟨t, 0, none⟩)) ∧ IsTab w' W.heap.size t lens lv wv sv) ∧ Below W.heap.size W w'
set_option maxRecDepth 100000 in
set_option maxHeartbeats 4000000 in
theorem tableX (A : Option Addr) (c : Nat) (lens : List Int) (W : World) (hr : Kd.C (Kd.int .i64) W A lens.length lens) (hc : lens.length ≤ c) (h0 : ∀ x ∈ lens, 0 ≤ x) (hok : noW lens = false → okL lens = true) (hl : lens.length ≤ 1000) : Calls Try.prog 51 #[.slice A lens.length c] W (TabQ lens W) := by
  have HR := Aside0.mk hr
  have HC := Aside0.mk (newTable_ok A c lens W hr hc)
  have H0 := Aside0.mk h0
  have HO := Aside0.mk hok
  have HL := Aside0.mk hl
  clear hr hc h0 hok hl
  go_enter Try.func51, Try.ntmps51
  go_wp2_with fail
  go_loopw [9] (fun v9 wr => ∃ i : Nat, v9 = .int .i64 i ∧ i ≤ lens.length ∧ Aside0 (∀ j : Nat, j < i → rd lens (j : Int) = 0) ∧ W = wr) (fun v9 _ => lens.length - (intOf v9).toNat)
  case atStart => exact ⟨0, rfl, Nat.zero_le _, ⟨fun j h => absurd h (Nat.not_lt_zero j)⟩, rfl⟩
  case round =>
    obtain ⟨i, rfl, hi, HZ, hW⟩ := hrel
    subst hW
    by_cases hlt : i < lens.length
    · have hb1 : decide ((i : Int) < (lens.length : Int)) = true := by simp; omega
      obtain ⟨ad1, hA1, x0⟩ := Kd.at_int HR.out (i : Int) (by omega) (by omega)
      subst hA1
      simp only [Int.toNat_natCast] at x0
      have q1 : (0 : Int) ≤ (i : Int) := by omega
      have q2 : (i : Int) < (lens.length : Int) := by omega
      have q3 : (i : Int) ≤ 1000 := by have := HL.out; omega
      have hge : 0 ≤ rd lens (i : Int) := by rw [rd_get lens i hlt]; exact H0.out _ (List.getElem_mem _)
      have HI := Aside0.mk hlt
      by_cases hz : rd lens (i : Int) = 0
      · rw [hz] at x0
        have HZ2 : Aside0 (∀ j : Nat, j < i + 1 → rd lens (j : Int) = 0) := ⟨fun j hj => by
          by_cases e : j = i
          · rw [e]; exact hz
          · exact HZ.out j (by omega)⟩
        clear hz hge HZ hlt
        go_wp2_with fail
        go_roundw
        case rel => exact ⟨i + 1, by simp, HI.out, HZ2, by trivial⟩
        case measure => simp [intOf]; have := HI.out; omega
      · have hno : noW lens = false := by
          unfold noW
          rw [List.all_eq_false]
          exact ⟨lens[i], List.getElem_mem _, by rw [← rd_get lens i hlt]; simpa using hz⟩
        have hoo := HO.out hno
        obtain ⟨y, hy⟩ : ∃ y, rd lens (i : Int) = y := ⟨_, rfl⟩
        rw [hy] at x0 hz hge
        have hb2 : decide (0 < y) = true := decide_eq_true (by omega)
        have hb2' : 0 < y := by omega
        have HNO := Aside0.mk hno
        have HOO := Aside0.mk hoo
        clear hy hz hge hno hoo hlt
        go_wp2_with fail
        refine HC.out.mono ?_
        rintro e w1 ⟨hn1, _, hb⟩
        obtain ⟨t, lv, wv, sv, rfl, hT⟩ := hn1 HOO.out
        have HT := Aside0.mk hT
        have HB := Aside0.mk hb
        clear hn1 hT hb HC
        go_wp2_with fail
        go_ret
        exact ⟨(fun h => by rw [HNO.out] at h; cases h), fun _ => ⟨t, lv, wv, sv, rfl, HT.out⟩, HB.out⟩
    · have hie : i = lens.length := by omega
      subst hie
      have hb1 : decide ((lens.length : Int) < (lens.length : Int)) = false := by simp
      have hno : noW lens = true := List.all_eq_true.2 fun x hx => by
        obtain ⟨j, hj, rfl⟩ := List.mem_iff_getElem.1 hx
        have := HZ.out j hj
        rw [rd_get lens j hj] at this
        exact decide_eq_true this
      have HNO := Aside0.mk hno
      clear hlt hno
      go_wp2_with fail
      go_ret
      exact ⟨fun _ => rfl, (fun h => by rw [HNO.out] at h; cases h), Below.refl _ _⟩
theorem spread_len : ∀ q : Nat, q < 28 → inflate_spread.f (q : Int) 4 3 = some (((lenB (257 + q)).1 : Int), ((lenB (257 + q)).2 : Int)) := by decide +kernel
theorem spread_28 : inflate_spread.f 28 4 3 = some (259, 6) := by decide +kernel
theorem spread_dist : ∀ j : Nat, j < 30 → inflate_spread.f (j : Int) 2 1 = some (((distB j).1 : Int), ((distB j).2 : Int)) := by decide +kernel
theorem lenB_le : ∀ q : Nat, q < 29 → (lenB (257 + q)).1 ≤ 258 ∧ 3 ≤ (lenB (257 + q)).1 ∧ (lenB (257 + q)).2 ≤ 5 := by decide +kernel
theorem distB_le : ∀ j : Nat, j < 30 → (distB j).1 ≤ 24577 ∧ 1 ≤ (distB j).1 ∧ (distB j).2 ≤ 13 := by decide +kernel
end Go.Proofs.Yteffjbjhkaobfaa.HI
namespace Go.Proofs.Yteffjbjhkaobfaa.HI
open Go.RowKit Go.Proofs.YteffjbjhkaobfaaW.PrintWords Go.Proofs.YteffjbjhkaobfaaW.PrintLast Go.Proofs.YteffjbjhkaobfaaW.PrintMore Go.Proofs.Yteffjbjhkaobfaa.HW Go.Proofs.Yteffjbjhkaobfaa.MB Go.Proofs.Yteffjbjhkaobfaa.Fn Go.Proofs.Yteffjbjhkaobfaa.HF Go.Proofs.Yteffjbjhkaobfaa.RT Go.Proofs.Yteffjbjhkaobfaa.RT.Rd
attribute [local go_sem] max2_int min2_int max_two min_two max_three min_three max_four min_four   -- for this text's walks alone
def fixAt (j : Nat) : Int := if j < 144 ∨ 280 ≤ j then 8 else if j < 256 then 9 else 7
def fixI (i : Nat) : List Int := (List.range 288).map (fun j => if j < i then fixAt j else 0)
def fixJ (i : Nat) : List Int := (List.range 32).map (fun j => if j < i then 5 else 0)
theorem fixI_len (i : Nat) : (fixI i).length = 288 := by unfold fixI; rw [List.length_map, List.length_range]
theorem fixJ_len (i : Nat) : (fixJ i).length = 32 := by unfold fixJ; rw [List.length_map, List.length_range]
theorem map_set {n : Nat} (f : Nat → Int) (i : Nat) (hi : i < n) : ((List.range n).map (fun j => if j < i then f j else 0)).set i (f i) = (List.range n).map (fun j => if j < i + 1 then f j else 0) := by
  refine List.ext_getElem? fun j => ?_
  rw [List.getElem?_set, List.length_map, List.length_range, List.getElem?_map, List.getElem?_map]
  by_cases h : j < n
  · rw [List.getElem?_range h]
    by_cases hij : i = j
    · subst hij
      rw [if_pos rfl, if_pos h]
      show _ = some (if i < i + 1 then f i else 0)
      rw [if_pos (Nat.lt_succ_self i)]
    · rw [if_neg hij]
      show some (if j < i then f j else 0) = some (if j < i + 1 then f j else 0)
      by_cases hji : j < i
      · rw [if_pos hji, if_pos (show j < i + 1 by omega)]
      · rw [if_neg hji, if_neg (show ¬ j < i + 1 by omega)]
  · rw [List.getElem?_eq_none (by rw [List.length_range]; omega)]
    rw [if_neg (by omega)]
    rfl
theorem fixI_set (i : Nat) (hi : i < 288) : (fixI i).set i (fixAt i) = fixI (i + 1) := map_set fixAt i hi
theorem fixJ_set (i : Nat) (hi : i < 32) : (fixJ i).set i 5 = fixJ (i + 1) := map_set (fun _ => 5) i hi
theorem fixI_end : fixI 288 = fixL := by decide +kernel
theorem fixJ_end : fixJ 32 = fixD := by decide +kernel
theorem fixI_zero : fixI 0 = List.replicate 288 0 := by decide +kernel
theorem fixJ_zero : fixJ 0 = List.replicate 32 0 := by decide +kernel
theorem fixL_ok : okL fixL = true := by decide +kernel
theorem fixD_ok : okL fixD = true := by decide +kernel
theorem fixL_nn : ∀ x ∈ fixL, 0 ≤ x := by decide +kernel
theorem fixD_nn : ∀ x ∈ fixD, 0 ≤ x := by decide +kernel
theorem fixL_w : noW fixL = false := by decide +kernel
theorem fixD_w : noW fixD = false := by decide +kernel
structure FxS (W w : World) (g2 c2 g3 c3 : Nat) (l2 l3 : List Int) : Prop where
  be : Below W.heap.size W w
  r2 : Kd.R (Kd.int .i64) 3 w W.heap.size (fun _ => True) (.slice (some ⟨g2, 0, none⟩) 288 c2) l2
  r3 : Kd.R (Kd.int .i64) 3 w W.heap.size (fun _ => True) (.slice (some ⟨g3, 0, none⟩) 32 c3) l3
  ne : g2 ≠ g3
theorem FxS.below {W w w' : World} {g2 c2 g3 c3 : Nat} {l2 l3 : List Int} (s : FxS W w g2 c2 g3 c3 l2 l3) (hb : Below w.heap.size w w') : FxS W w' g2 c2 g3 c3 l2 l3 := ⟨s.be.trans (hb.mono s.be.size), Kd.R_below s.r2 hb, Kd.R_below s.r3 hb, s.ne⟩
theorem FxS.put2 {W w : World} {g2 c2 g3 c3 : Nat} {l2 l3 : List Int} (s : FxS W w g2 c2 g3 c3 l2 l3) (i : Nat) (x : Int) : FxS W (w.setCell ⟨g2, i, none⟩ (.int .i64 x)) g2 c2 g3 c3 (l2.set i x) l3 := by
  have h := Kd.R_putg s.r2 (i : Int) x
  simp only [Int.toNat_natCast] at h
  exact ⟨s.be.grown h.2 s.be.size (fun b hb => Kd.R_base s.r2 b (by rw [← hb]; rfl)), h.1, Kd.R_grown2 s.r3 rfl h.2 (fun k hk => by injection hk with hk; subst hk; intro he; injection he with he; exact s.ne he), s.ne⟩
theorem FxS.put3 {W w : World} {g2 c2 g3 c3 : Nat} {l2 l3 : List Int} (s : FxS W w g2 c2 g3 c3 l2 l3) (i : Nat) (x : Int) : FxS W (w.setCell ⟨g3, i, none⟩ (.int .i64 x)) g2 c2 g3 c3 l2 (l3.set i x) := by
  have h := Kd.R_putg s.r3 (i : Int) x
  simp only [Int.toNat_natCast] at h
  exact ⟨s.be.grown h.2 s.be.size (fun b hb => Kd.R_base s.r3 b (by rw [← hb]; rfl)), Kd.R_grown2 s.r2 rfl h.2 (fun k hk => by injection hk with hk; subst hk; intro he; injection he with he; exact s.ne he.symm), h.1, s.ne⟩
theorem IsTab.lower {W : World} {B B' t : Nat} {lens : List Int} {lv wv sv : Value} (h : IsTab W B t lens lv wv sv) (hb : B' ≤ B) : IsTab W B' t lens lv wv sv := ⟨h.bt, Nat.le_trans hb h.ht, Kd.R_lower h.rl hb, h.nn, Kd.R_lower h.rw hb, Kd.R_lower h.rs hb⟩
theorem FxS.start {W w w' : World} {v6 v7 : Value} {l6 l7 : List Int} (h6 : Kd.R (Kd.int .i64) 3 w W.heap.size (fun _ => True) v6 l6) (_h7 : Kd.R (Kd.int .i64) 3 w' W.heap.size (fun _ => True) v7 l7) (_hb : Below W.heap.size W w') (hg : w.grownBy w' none) (hn : ∃ b, v7.ownBlock = some b ∧ w.heap.size ≤ b) :
    Kd.R (Kd.int .i64) 3 w' W.heap.size (fun _ => True) v6 l6 ∧ ∀ k, v6.ownBlock = some k → v7.ownBlock ≠ some k :=
  ⟨Kd.R_grown2 h6 rfl hg (fun k hk => by simp at hk), fun k hk he => by
    obtain ⟨b, hb, hle⟩ := hn
    have := Kd.R_lt h6 k hk
    rw [he] at hb; injection hb with hb; omega⟩
/-- What fixed tells. -/
def FixQ (W : World) (e : Ending) (w' : World) : Prop :=
  ∃ t1 lv1 wv1 sv1 t2 lv2 wv2 sv2, e = .returned (.tuple #[.pointer (some ⟨t1, 0, none⟩), .pointer (some ⟨t2, 0, none⟩)]) ∧ IsTab w' W.heap.size t1 fixL lv1 wv1 sv1 ∧ IsTab w' W.heap.size t2 fixD lv2 wv2 sv2 ∧ Below W.heap.size W w'
set_option maxRecDepth 100000 in
set_option maxHeartbeats 8000000 in
theorem fixedX (W : World) : Calls Try.prog 33 #[] W (FixQ W) := by
  go_enter Try.func33, Try.ntmps33
  go_upto_region 1 with (fail)
  have HB0 := Aside0.mk (below_drew (Below.refl W.heap.size W))
  go_cut [2, 3] (fun v2 v3 w => ∃ g2 c2 g3 c3, v2 = .slice (some ⟨g2, 0, none⟩) 288 c2 ∧ v3 = .slice (some ⟨g3, 0, none⟩) 32 c3 ∧ Aside0 (FxS W w g2 c2 g3 c3 (fixI 0) (fixJ 0)))
  case first =>
    refine wp_region_any (by kernel_rfl) ?_
    change wpAny _ _ _ _ _ _ _ (World.drew _)
    refine wpAny_ready (rs := [0, 1]) (by kernel_rfl) (by simp) ?_
    refine (AllReady.cons rfl (fun K hK => ?_) (AllReady.cons rfl (fun K hK => ?_) AllReady.nil))
    · skip
      refine Kd.R_make_step (Kd.int .i64) (w0 := W) W.heap.size 3 (by kernel_rfl) (N := 6) rfl 29 _ _ rfl (288 : Int) rfl rfl Try.underlying29 (.int .i64 0) 8 info3 rfl (by decide) (by decide) 0 (ok := fun _ => True) (okp := fun _ => True) rfl (fun _ hk => hk) trivial (by decide) (by decide) HB0.out HB0.out.size ?_
      intro v6 w6 ho6 hb6 hg6 hn6
      have HO6 := Aside0.mk ho6
      have HB6 := Aside0.mk hb6
      have HG6 := Aside0.mk hg6
      have HN6 := Aside0.mk hn6
      clear ho6 hb6 hg6 hn6
      refine hK _ _ ?_
      clear hK K
      refine wpAny_take (i := 2) (v := ?vp1) rfl (by kernel_rfl) (by kernel_rfl) (by kernel_rfl) (fun _ _ _ h => h) (Or.inl ⟨by kernel_rfl, ?yp1⟩) ?_
      case yp1 => (intro w; go_simp; try with_reducible rfl)
      refine wpAny_ready (rs := [1]) (by kernel_rfl) (by simp) ?_
      refine (AllReady.cons rfl (fun K hK => ?_) AllReady.nil)
      refine Kd.R_make_step (Kd.int .i64) (w0 := W) W.heap.size 3 (by kernel_rfl) (N := 7) rfl 29 _ _ rfl (32 : Int) rfl rfl Try.underlying29 (.int .i64 0) 8 info3 rfl (by decide) (by decide) 0 (ok := fun _ => True) (okp := fun _ => True) rfl (fun _ hk => hk) trivial (by decide) (by decide) HB6.out HB6.out.size ?_
      intro v7 w7 ho7 hb7 hg7 hn7
      have HO7 := Aside0.mk ho7
      have HB7 := Aside0.mk hb7
      have HG7 := Aside0.mk hg7
      have HN7 := Aside0.mk hn7
      clear ho7 hb7 hg7 hn7
      refine hK _ _ ?_
      clear hK K
      refine wpAny_take (i := 3) (v := ?vp2) rfl (by kernel_rfl) (by kernel_rfl) (by kernel_rfl) (fun _ _ _ h => h) (Or.inl ⟨by kernel_rfl, ?yp2⟩) ?_
      case yp2 => (intro w; go_simp; try with_reducible rfl)
      refine wpAny_done (by kernel_rfl) ?_ _
      obtain ⟨ho, hne⟩ := FxS.start HO6.out HO7.out HB7.out HG7.out HN7.out
      have ho2 := HO7.out
      obtain ⟨g6, c6, e6⟩ := HF.R_first ho (by rw [List.length_replicate]; decide)
      obtain ⟨g7, c7, e7⟩ := HF.R_first ho2 (by rw [List.length_replicate]; decide)
      rw [List.length_replicate] at e6 e7
      subst e6
      subst e7
      go_wp2_with fail
      go_meet
      case rel => exact ⟨g6, c6, g7, c7, rfl, rfl, ⟨HB7.out, by rw [fixI_zero]; exact ho, by rw [fixJ_zero]; exact ho2, fun e => hne g6 rfl (congrArg some e.symm)⟩⟩
    · skip
      refine Kd.R_make_step (Kd.int .i64) (w0 := W) W.heap.size 3 (by kernel_rfl) (N := 7) rfl 29 _ _ rfl (32 : Int) rfl rfl Try.underlying29 (.int .i64 0) 8 info3 rfl (by decide) (by decide) 0 (ok := fun _ => True) (okp := fun _ => True) rfl (fun _ hk => hk) trivial (by decide) (by decide) HB0.out HB0.out.size ?_
      intro v7 w7 ho7 hb7 hg7 hn7
      have HO7 := Aside0.mk ho7
      have HB7 := Aside0.mk hb7
      have HG7 := Aside0.mk hg7
      have HN7 := Aside0.mk hn7
      clear ho7 hb7 hg7 hn7
      refine hK _ _ ?_
      clear hK K
      refine wpAny_ready (rs := [0]) (by kernel_rfl) (by simp) ?_
      refine (AllReady.cons rfl (fun K hK => ?_) AllReady.nil)
      refine Kd.R_make_step (Kd.int .i64) (w0 := W) W.heap.size 3 (by kernel_rfl) (N := 6) rfl 29 _ _ rfl (288 : Int) rfl rfl Try.underlying29 (.int .i64 0) 8 info3 rfl (by decide) (by decide) 0 (ok := fun _ => True) (okp := fun _ => True) rfl (fun _ hk => hk) trivial (by decide) (by decide) HB7.out HB7.out.size ?_
      intro v6 w6 ho6 hb6 hg6 hn6
      have HO6 := Aside0.mk ho6
      have HB6 := Aside0.mk hb6
      have HG6 := Aside0.mk hg6
      have HN6 := Aside0.mk hn6
      clear ho6 hb6 hg6 hn6
      refine hK _ _ ?_
      clear hK K
      refine wpAny_take (i := 2) (v := ?vq1) rfl (by kernel_rfl) (by kernel_rfl) (by kernel_rfl) (fun _ _ _ h => h) (Or.inl ⟨by kernel_rfl, ?yq1⟩) ?_
      case yq1 => (intro w; go_simp; try with_reducible rfl)
      refine wpAny_take (i := 3) (v := ?vq2) rfl (by kernel_rfl) (by kernel_rfl) (by kernel_rfl) (fun _ _ _ h => h) (Or.inl ⟨by kernel_rfl, ?yq2⟩) ?_
      case yq2 => (intro w; go_simp; try with_reducible rfl)
      refine wpAny_done (by kernel_rfl) ?_ _
      obtain ⟨ho, hne⟩ := FxS.start HO7.out HO6.out HB6.out HG6.out HN6.out
      have ho2 := HO6.out
      obtain ⟨g6, c6, e6⟩ := HF.R_first ho2 (by rw [List.length_replicate]; decide)
      obtain ⟨g7, c7, e7⟩ := HF.R_first ho (by rw [List.length_replicate]; decide)
      rw [List.length_replicate] at e6 e7
      subst e6
      subst e7
      go_wp2_with fail
      go_meet
      case rel => exact ⟨g6, c6, g7, c7, rfl, rfl, ⟨HB6.out, by rw [fixI_zero]; exact ho2, by rw [fixJ_zero]; exact ho, fun e => hne g7 rfl (congrArg some e)⟩⟩
  case rest =>
    obtain ⟨g2, c2, g3, c3, rfl, rfl, HS⟩ := hcut
    clear HB0
    go_wp2_with fail
    go_loopw [10] (fun v10 wr => ∃ i : Nat, v10 = .int .i64 i ∧ i ≤ 288 ∧ Aside0 (FxS W wr g2 c2 g3 c3 (fixI i) (fixJ 0))) (fun v10 _ => 288 - (intOf v10).toNat)
    case atStart => exact ⟨0, rfl, Nat.zero_le _, HS⟩
    case round =>
      clear HS
      obtain ⟨i, rfl, hi, HS⟩ := hrel
      by_cases hlt : i < 288
      · have hb1 : decide ((i : Int) < 288) = true := decide_eq_true (by omega)
        obtain ⟨y0, z0⟩ := Kd.R_celln 0 HS.out.r2 (i : Int) (by omega) (by omega)
        simp only [Int.toNat_natCast] at y0 z0
        have q1 : (0 : Int) ≤ (i : Int) := by omega
        have q2 : (i : Int) < 288 := by omega
        have hp := HS.out.put2 i (fixAt i)
        rw [fixI_set i hlt] at hp
        have HP := Aside0.mk hp
        have HI := Aside0.mk hlt
        clear hp
        by_cases h1 : i < 144 ∨ 280 ≤ i
        · have hf : fixAt i = 8 := by unfold fixAt; rw [if_pos h1]
          rw [hf] at HP
          have hb2 : (i : Int) < 144 ∨ ¬ (i : Int) < 144 := Decidable.em _
          rcases hb2 with hb2 | hb2
          · have hb3 : decide ((i : Int) < 144) = true := decide_eq_true hb2
            clear hlt h1 hf hb2
            go_wp2_with fail
            go_roundw
            case rel => exact ⟨i + 1, by simp, HI.out, HP⟩
            case measure => simp [intOf]; have := HI.out; omega
          · have hb3 : decide ((i : Int) < 144) = false := decide_eq_false hb2
            have hb4 : decide ((280 : Int) ≤ (i : Int)) = true := decide_eq_true (by omega)
            clear hlt h1 hf hb2
            go_wp2_with fail
            go_roundw
            case rel => exact ⟨i + 1, by simp, HI.out, HP⟩
            case measure => simp [intOf]; have := HI.out; omega
        · have hb3 : decide ((i : Int) < 144) = false := decide_eq_false (by omega)
          have hb4 : decide ((280 : Int) ≤ (i : Int)) = false := decide_eq_false (by omega)
          by_cases h2 : i < 256
          · have hf : fixAt i = 9 := by unfold fixAt; rw [if_neg h1, if_pos h2]
            rw [hf] at HP
            have hb5 : decide ((i : Int) < 256) = true := decide_eq_true (by omega)
            clear hlt h1 hf h2
            go_wp2_with fail
            go_roundw
            case rel => exact ⟨i + 1, by simp, HI.out, HP⟩
            case measure => simp [intOf]; have := HI.out; omega
          · have hf : fixAt i = 7 := by unfold fixAt; rw [if_neg h1, if_neg h2]
            rw [hf] at HP
            have hb5 : decide ((i : Int) < 256) = false := decide_eq_false (by omega)
            clear hlt h1 hf h2
            go_wp2_with fail
            go_roundw
            case rel => exact ⟨i + 1, by simp, HI.out, HP⟩
            case measure => simp [intOf]; have := HI.out; omega
      · have hie : i = 288 := by omega
        subst hie
        clear hlt hi
        go_wp2_with fail
        go_loopw [35] (fun v35 wr => ∃ i : Nat, v35 = .int .i64 i ∧ i ≤ 32 ∧ Aside0 (FxS W wr g2 c2 g3 c3 (fixI 288) (fixJ i))) (fun v35 _ => 32 - (intOf v35).toNat)
        case atStart => exact ⟨0, rfl, Nat.zero_le _, HS⟩
        case round =>
          clear HS
          obtain ⟨i, rfl, hi, HS⟩ := hrel
          by_cases hlt : i < 32
          · have hb1 : decide ((i : Int) < 32) = true := decide_eq_true (by omega)
            obtain ⟨y0, z0⟩ := Kd.R_celln 0 HS.out.r3 (i : Int) (by omega) (by omega)
            simp only [Int.toNat_natCast] at y0 z0
            have q1 : (0 : Int) ≤ (i : Int) := by omega
            have q2 : (i : Int) < 32 := by omega
            have hp := HS.out.put3 i 5
            rw [fixJ_set i hlt] at hp
            have HP := Aside0.mk hp
            have HI := Aside0.mk hlt
            clear hp hlt
            go_wp2_with fail
            go_roundw
            case rel => exact ⟨i + 1, by simp, HI.out, HP⟩
            case measure => simp [intOf]; have := HI.out; omega
          · have hie : i = 32 := by omega
            subst hie
            clear hlt hi
            have HQ := HS
            rw [fixI_end, fixJ_end] at HQ
            have hC2 := (Kd.R_reads' HQ.out.r2).2
            have HT2 := Aside0.mk (tableX (some ⟨g2, 0, none⟩) c2 fixL wr hC2.2 hC2.1 fixL_nn (fun _ => fixL_ok) (by decide))
            clear hC2
            go_wp2_with fail
            refine HT2.out.mono ?_
            rintro e w1 ⟨_, h1, hb1⟩
            obtain ⟨t1, lv1, wv1, sv1, rfl, ht1⟩ := h1 fixL_w
            have HQ1 := Aside0.mk (HQ.out.below hb1)
            have HT1 := Aside0.mk ht1
            clear ht1 h1 hb1 HT2
            have hC3 := (Kd.R_reads' HQ1.out.r3).2
            have HT3 := Aside0.mk (tableX (some ⟨g3, 0, none⟩) c3 fixD w1 hC3.2 hC3.1 fixD_nn (fun _ => fixD_ok) (by decide))
            clear hC3
            go_wp2_with fail
            refine HT3.out.mono ?_
            rintro e w2 ⟨_, h2, hb2⟩
            obtain ⟨t2, lv2, wv2, sv2, rfl, ht2⟩ := h2 fixD_w
            have HQ2 := Aside0.mk (HQ1.out.below hb2)
            have HT4 := Aside0.mk ht2
            have HB2 := Aside0.mk hb2
            clear ht2 h2 hb2 HT3
            go_wp2_with fail
            go_ret2
            exact ⟨t1, lv1, wv1, sv1, t2, lv2, wv2, sv2, rfl, IsTab.lower (HT1.out.below HB2.out) HQ.out.be.size, IsTab.lower HT4.out HQ1.out.be.size, HQ2.out.be⟩
end Go.Proofs.Yteffjbjhkaobfaa.HI
namespace Go.Proofs.Yteffjbjhkaobfaa.HI
open Go.RowKit Go.Proofs.YteffjbjhkaobfaaW.PrintWords Go.Proofs.YteffjbjhkaobfaaW.PrintLast Go.Proofs.YteffjbjhkaobfaaW.PrintMore Go.Proofs.Yteffjbjhkaobfaa.HW Go.Proofs.Yteffjbjhkaobfaa.MB Go.Proofs.Yteffjbjhkaobfaa.Fn Go.Proofs.Yteffjbjhkaobfaa.HF Go.Proofs.Yteffjbjhkaobfaa.RT Go.Proofs.Yteffjbjhkaobfaa.RT.Rd
attribute [local go_sem] max2_int min2_int max_two min_two max_three min_three max_four min_four   -- for this text's walks alone
/-- What a reading's call that makes a row of numbers tells. -/
def PL (B x g : Nat) (ov : Value) (s : ByteArray) (most : Nat) (out : List Int) (W : World) (r : Res (List Int)) (e : Ending) (w' : World) : Prop :=
  match r with
  | .ok l a => (∃ v, e = .returned v ∧ Kd.R (Kd.int .i64) 3 w' W.heap.size (fun _ => True) v l) ∧ ∃ ov', IsX w' B x g ov' s a most out ∧ Fr (XS x g ov) W w' ∧ AtB W ov ov'
  | .no er => e = .panicked (refErr er) ∧ Below B W w'
theorem PL_no {B x g : Nat} {ov : Value} {s : ByteArray} {most : Nat} {out : List Int} {W w' : World} {r : Res (List Int)} {er : Int} (hr : r = .no er) (hb : Below B W w') : PL B x g ov s most out W r (.panicked (refErr er)) w' := by
  rw [hr]
  exact ⟨rfl, hb⟩
section
variable {W W' : World} {B x g : Nat} {ov : Value} {s : ByteArray} {a most : Nat} {out : List Int}
/-- A row of numbers is none of a reading's blocks. -/
theorem IsX.apart {B1 : Nat} {v : Value} {l : List Int} (hx : IsX W B x g ov s a most out) (h : Kd.R (Kd.int .i64) 3 W B1 (fun _ => True) v l) (k : Nat) (hk : v.ownBlock = some k) : ¬ XS x g ov k := by
  rintro (rfl | rfl | e)
  · exact Kd.R_ne h hx.bx (by decide) hk.symm
  · exact Kd.R_ne h hx.rd (by decide) hk.symm
  · obtain ⟨inner, ho⟩ := Kd.R_own hx.ro
    obtain ⟨cells, hc⟩ := own_typed ho k e
    exact Kd.R_ne h hc (by decide) hk.symm
theorem rowI_keepX {B1 : Nat} {v : Value} {l : List Int} (h : Kd.R (Kd.int .i64) 3 W B1 (fun _ => True) v l) (hx : IsX W B x g ov s a most out) (hf : Fr (XS x g ov) W W') : Kd.R (Kd.int .i64) 3 W' B1 (fun _ => True) v l :=
  row_keep h (fun k e hk => hf.block k hk (hx.apart h k e))
end
/-- A row of numbers grows beside a reading and a table. -/
structure LnS (W w : World) (B x g : Nat) (ov : Value) (s : ByteArray) (most : Nat) (out : List Int) (a1 : Nat) (ov1 : Value) (Bt t : Nat) (first : List Int) (lv wv sv : Value) (v : Value) (l : List Int) : Prop where
  ix : IsX w B x g ov1 s a1 most out
  fr : Fr (XS x g ov) W w
  atb : AtB W ov ov1
  tb : IsTab w Bt t first lv wv sv
  ro : Kd.R (Kd.int .i64) 3 w W.heap.size (fun _ => True) v l
section
variable {W w w' : World} {B x g : Nat} {ov : Value} {s : ByteArray} {most : Nat} {out : List Int} {a1 a2 : Nat} {ov1 ov2 : Value} {Bt t : Nat} {first : List Int} {lv wv sv : Value} {v v' : Value} {l l' : List Int}
theorem LnS.used (h : LnS W w B x g ov s most out a1 ov1 Bt t first lv wv sv v l) (hx : IsX w' B x g ov2 s a2 most out) (hf : Fr (XS x g ov1) w w') (ha : AtB w ov1 ov2) : LnS W w' B x g ov s most out a2 ov2 Bt t first lv wv sv v l :=
  ⟨hx, XS_then h.fr hf h.atb, AtB.trans h.atb ha h.fr.size, IsTab.keepX h.tb h.ix hf, rowI_keepX h.ro h.ix hf⟩
theorem LnS.app (h : LnS W w B x g ov s most out a1 ov1 Bt t first lv wv sv v l) (ht : IsTab W Bt t first lv wv sv) (ho : Kd.R (Kd.int .i64) 3 w' W.heap.size (fun _ => True) v' l') (hg : w.grownBy w' v.ownBlock) : LnS W w' B x g ov s most out a1 ov1 Bt t first lv wv sv v' l' := by
  have hf : Fr (fun k => v.ownBlock = some k) w w' := (Fr.refl _ w).grown hg (fun k hk => Or.inl hk)
  exact ⟨h.ix.keep hf (fun k hk e => h.ix.apart h.ro k e hk), h.fr.then_ hf (fun k hk => Or.inr (Kd.R_base h.ro k hk)), h.atb, h.tb.keep hf (fun k hk e => by
    have h1 := (ht.lt k hk).2
    have h2 := Kd.R_base h.ro k e
    omega), ho⟩
theorem LnS.below (h : LnS W w B x g ov s most out a1 ov1 Bt t first lv wv sv v l) (hb : Below w.heap.size w w') : LnS W w' B x g ov s most out a1 ov1 Bt t first lv wv sv v l :=
  ⟨h.ix.below hb, h.fr.add hb, h.atb, h.tb.below hb, Kd.R_below h.ro hb⟩
theorem LnS.beB (h : LnS W w B x g ov s most out a1 ov1 Bt t first lv wv sv v l) (h0 : IsX W B x g ov s a2 most out) : Below B W w := h.fr.below h0.base h0.ge
end
def slen : Value → Nat
  | .slice _ n _ => n
  | _ => 0
set_option maxRecDepth 100000 in
set_option maxHeartbeats 8000000 in
theorem lengthsX {W : World} {B x g : Nat} {ov : Value} {s : ByteArray} {a most : Nat} {out : List Int} (h : IsX W B x g ov s a most out) {Bt t : Nat} {first : List Int} {lv wv sv : Value} (ht : IsTab W Bt t first lv wv sv) (ho : okL first = true) (h0 : 0 < first.length) (n : Nat) (hn : n ≤ 1000) :
    Calls Try.prog 53 #[.pointer (some ⟨x, 0, none⟩), .pointer (some ⟨t, 0, none⟩), .int .i64 n] W (PL B x g ov s most out W ((lengthsT first n n []).run s a)) := by
  have H := Aside0.mk h
  have HT := Aside0.mk ht
  have HO := Aside0.mk ho
  have HF0 := Aside0.mk h0
  have HN := Aside0.mk hn
  have HS0 : Aside0 (LnS W W B x g ov s most out a ov Bt t first lv wv sv (.slice none 0 0) []) := ⟨h, Fr.refl _ _, AtB.refl _ _, ht, Kd.R_nil _ _ _ _ _⟩
  clear h ht ho h0 hn
  go_enter Try.func53, Try.ntmps53
  go_wp2_with fail
  go_loopw [7] (fun v7 wr => ∃ (l : List Int) (f a1 : Nat) (ov1 : Value) (A : Option Addr) (c : Nat), v7 = .slice A l.length c ∧ l.length ≤ n ∧ n ≤ f + l.length ∧ Aside0 (LnS W wr B x g ov s most out a1 ov1 Bt t first lv wv sv v7 l) ∧ Aside0 ((lengthsT first n n []).run s a = (lengthsT first n f l).run s a1) ∧ Aside0 (∀ y ∈ l, 0 ≤ y ∧ y < first.length)) (fun v7 _ => n - slen v7)
  case atStart => exact ⟨[], n, a, ov, none, 0, rfl, Nat.zero_le _, Nat.le_refl _, HS0, ⟨rfl⟩, ⟨fun _ h => by cases h⟩⟩
  case round =>
    clear HS0
    obtain ⟨l, f, a1, ov1, A, c, rfl, hl, hf, HS, HRUN, HL⟩ := hrel
    by_cases hlt : l.length < n
    · have hb1 : decide (l.length < n) = true := decide_eq_true hlt
      obtain ⟨f, rfl⟩ : ∃ f', f = f' + 1 := ⟨f - 1, by omega⟩
      have hrun := HRUN.out
      rw [lengthsT_step first n f l hlt, run_bind] at hrun
      have HSY := Aside0.mk (symX_ok HS.out.ix HS.out.tb HO.out)
      have HI := Aside0.mk (And.intro hlt hf)
      unfold manyT at hrun
      rw [run_bind] at hrun
      have HR := Aside0.mk hrun
      clear hrun HRUN hlt hl hf
      go_wp2_with fail
      refine HSY.out.mono ?_
      cases hsy : (symT first).run s a1 with
      | no er =>
        rintro e w1 ⟨rfl, hb⟩
        have hr := HR.out
        rw [hsy] at hr
        exact ⟨rfl, PL_no hr ((HS.out.beB H.out).trans hb)⟩
      | ok k a2 =>
        rintro e w1 ⟨rfl, ov2, hx2, hf2, hat2⟩
        have HS2 := Aside0.mk (HS.out.used hx2 hf2 hat2)
        have hr := HR.out
        rw [hsy] at hr
        simp only at hr
        have HR2 := Aside0.mk hr
        have HK := Aside0.mk (symT_rng HF0.out hsy)
        clear hr HR HSY HS hx2 hf2 hat2 hsy
        go_upto_block 2 with (fail)
        go_cut [8, 9] (fun v8 v9 w => ∃ (kk : Int) (many a3 : Nat) (ov3 : Value), v8 = .int .i64 kk ∧ v9 = .int .i64 many ∧ 1 ≤ many ∧ many ≤ 138 ∧ Aside0 (LnS W w B x g ov s most out a3 ov3 Bt t first lv wv sv (.slice A l.length c) l) ∧ Aside0 ((lengthsT first n n []).run s a = (if l.length + many ≤ n then lengthsT first n f (l ++ List.replicate many kk) else err 40).run s a3) ∧ Aside0 (0 ≤ kk ∧ kk < first.length))
        case first =>
          by_cases h16 : k = 16
          · subst h16
            rw [if_pos rfl] at HR2
            by_cases hl0 : l.length = 0
            · rw [if_pos hl0] at HR2
              have hb2 : decide (0 < l.length) = false := decide_eq_false (by omega)
              have hb3 : decide ((0 : Int) < (l.length : Int)) = false := decide_eq_false (by omega)
              clear hl0 HL HI
              go_wp2_with fail
              refine (right_no _).mono ?_
              rintro e w3 ⟨rfl, rfl⟩
              exact ⟨rfl, PL_no HR2.out (HS2.out.beB H.out)⟩
            · rw [if_neg hl0] at HR2
              have HR3 := HR2
              clear HR2
              have hb2 : decide (0 < l.length) = true := decide_eq_true (by omega)
              have hb3 : decide ((0 : Int) < (l.length : Int)) = true := decide_eq_true (by omega)
              have hw1 : IntKind.i64.wrap ((l.length : Int) - 1) = (l.length : Int) - 1 := IntWalk.i64_in _ (by have := HN.out; have := HI.out.1; omega)
              have q1 : (0 : Int) ≤ (l.length : Int) - 1 := by omega
              have q2 : (l.length : Int) - 1 < (l.length : Int) := by omega
              obtain ⟨ad, hA, x0⟩ := Kd.at_int (Kd.R_reads' HS2.out.ro).2.2 ((l.length : Int) - 1) (by omega) (by omega)
              subst hA
              have q3 : ((l.length : Int) - 1).toNat = l.length - 1 := by omega
              rw [q3] at x0
              have hrd : rd l ((l.length : Int) - 1) = l.getD (l.length - 1) 0 := by unfold rd; rw [q3]
              rw [hrd] at x0
              have HKK := Aside0.mk (show 0 ≤ l.getD (l.length - 1) 0 ∧ l.getD (l.length - 1) 0 < first.length by
                rw [List.getD_eq_getElem?_getD, List.getElem?_eq_getElem (by omega)]
                exact HL.out _ (List.getElem_mem _))
              obtain ⟨kk, hkk⟩ : ∃ z, l.getD (l.length - 1) 0 = z := ⟨_, rfl⟩
              rw [hkk] at x0 HKK HR3
              clear hl0 hrd hkk
              go_wp2_with fail
              refine (right_ok _).mono ?_
              rintro e w3 ⟨rfl, rfl⟩
              have HBI := Aside0.mk (bitsX_ok HS2.out.ix 2 (by decide))
              go_wp2_with fail
              refine HBI.out.mono ?_
              rw [run_bind] at HR3
              cases hbi : (bitsN 2).run s a2 with
              | no er =>
                rintro e w3 ⟨rfl, hb⟩
                have hr := HR3.out
                rw [hbi] at hr
                exact ⟨rfl, PL_no hr ((HS2.out.beB H.out).trans hb)⟩
              | ok y a3 =>
                rintro e w3 ⟨rfl, ov3, hx3, hf3, hat3⟩
                have HS3 := Aside0.mk (HS2.out.used hx3 hf3 hat3)
                have hr := HR3.out
                rw [hbi] at hr
                have HR4 := Aside0.mk hr
                have hy := bitsN_lt 2 a2 hbi
                have hw : IntKind.i64.wrap (3 + (y : Int)) = 3 + (y : Int) := IntWalk.i64_in _ (by omega)
                have HY := Aside0.mk hy
                clear hr HR3 HBI HS2 hx3 hf3 hat3 hbi hy
                go_wp2_with fail
                go_meet
                case rel => exact ⟨kk, 3 + y, a3, ov3, rfl, by simp, by omega, by have := HY.out; omega, HS3, HR4, ⟨HKK.out⟩⟩
          · rw [if_neg h16] at HR2
            have n16 : decide (k = 16) = false := decide_eq_false h16
            have m16 : (k == 16) = false := by rw [beq_eq_false_iff_ne]; exact h16
            by_cases h17 : k = 17
            · subst h17
              rw [if_pos rfl] at HR2
              have HR3 := HR2
              clear HR2 h16
              have HBI := Aside0.mk (bitsX_ok HS2.out.ix 3 (by decide))
              go_wp2_with fail
              refine HBI.out.mono ?_
              rw [run_bind] at HR3
              cases hbi : (bitsN 3).run s a2 with
              | no er =>
                rintro e w3 ⟨rfl, hb⟩
                have hr := HR3.out
                rw [hbi] at hr
                exact ⟨rfl, PL_no hr ((HS2.out.beB H.out).trans hb)⟩
              | ok y a3 =>
                rintro e w3 ⟨rfl, ov3, hx3, hf3, hat3⟩
                have HS3 := Aside0.mk (HS2.out.used hx3 hf3 hat3)
                have hr := HR3.out
                rw [hbi] at hr
                have HR4 := Aside0.mk hr
                have hy := bitsN_lt 3 a2 hbi
                have hw : IntKind.i64.wrap (3 + (y : Int)) = 3 + (y : Int) := IntWalk.i64_in _ (by omega)
                have HY := Aside0.mk hy
                clear hr HR3 HBI HS2 hx3 hf3 hat3 hbi hy
                go_wp2_with fail
                go_meet
                case rel => exact ⟨0, 3 + y, a3, ov3, rfl, by simp, by omega, by have := HY.out; omega, HS3, HR4, ⟨Int.le_refl _, by show (0 : Int) < _; have := HF0.out; omega⟩⟩
            · rw [if_neg h17] at HR2
              have n17 : decide (k = 17) = false := decide_eq_false h17
              have m17 : (k == 17) = false := by rw [beq_eq_false_iff_ne]; exact h17
              by_cases h18 : k = 18
              · subst h18
                rw [if_pos rfl] at HR2
                have HR3 := HR2
                clear HR2 h16 h17
                have HBI := Aside0.mk (bitsX_ok HS2.out.ix 7 (by decide))
                go_wp2_with fail
                refine HBI.out.mono ?_
                rw [run_bind] at HR3
                cases hbi : (bitsN 7).run s a2 with
                | no er =>
                  rintro e w3 ⟨rfl, hb⟩
                  have hr := HR3.out
                  rw [hbi] at hr
                  exact ⟨rfl, PL_no hr ((HS2.out.beB H.out).trans hb)⟩
                | ok y a3 =>
                  rintro e w3 ⟨rfl, ov3, hx3, hf3, hat3⟩
                  have HS3 := Aside0.mk (HS2.out.used hx3 hf3 hat3)
                  have hr := HR3.out
                  rw [hbi] at hr
                  have HR4 := Aside0.mk hr
                  have hy := bitsN_lt 7 a2 hbi
                  have hw : IntKind.i64.wrap (11 + (y : Int)) = 11 + (y : Int) := IntWalk.i64_in _ (by omega)
                  have HY := Aside0.mk hy
                  clear hr HR3 HBI HS2 hx3 hf3 hat3 hbi hy
                  go_wp2_with fail
                  go_meet
                  case rel => exact ⟨0, 11 + y, a3, ov3, rfl, by simp, by omega, by have := HY.out; omega, HS3, HR4, ⟨Int.le_refl _, by show (0 : Int) < _; have := HF0.out; omega⟩⟩
              · rw [if_neg h18] at HR2
                have n18 : decide (k = 18) = false := decide_eq_false h18
                have m18 : (k == 18) = false := by rw [beq_eq_false_iff_ne]; exact h18
                clear h16 h17 h18
                go_wp2_with fail
                go_meet
                case rel => exact ⟨k, 1, a2, ov2, rfl, rfl, Nat.le_refl _, by omega, HS2, HR2, HK⟩
        case rest =>
          clear HS2 HR2 HK
          obtain ⟨kk, many, a3, ov3, rfl, rfl, hm1, hm2, HS3, HR3, HK⟩ := hcut
          have hw1 : IntKind.i64.wrap ((l.length : Int) + (many : Int)) = (l.length : Int) + (many : Int) := IntWalk.i64_in _ (by have := HN.out; have := HI.out.1; omega)
          by_cases hle : l.length + many ≤ n
          · rw [if_pos hle] at HR3
            have hb2 : decide ((l.length : Int) + (many : Int) ≤ (n : Int)) = true := decide_eq_true (by omega)
            have HLE := Aside0.mk hle
            have HM := Aside0.mk (And.intro hm1 hm2)
            clear hle hm1 hm2
            go_wp2_with fail
            refine (right_ok _).mono ?_
            rintro e w4 ⟨rfl, rfl⟩
            go_wp2_with fail
            go_loopw [7, 51] (fun v7 v51 wr => ∃ (i : Nat) (A : Option Addr) (c : Nat), v51 = .int .i64 i ∧ v7 = .slice A (l ++ List.replicate i kk).length c ∧ i ≤ many ∧ Aside0 (LnS W wr B x g ov s most out a3 ov3 Bt t first lv wv sv v7 (l ++ List.replicate i kk))) (fun _ v51 _ => many - (intOf v51).toNat)
            case atStart => exact ⟨0, A, c, rfl, by rw [List.replicate_zero, List.append_nil], Nat.zero_le _, by rw [List.replicate_zero, List.append_nil]; exact HS3⟩
            case round =>
              clear HS3
              obtain ⟨i, A4, c4, rfl, rfl, hi, HS3⟩ := hrel
              by_cases hlt : i < many
              · have hb3 : decide (i < many) = true := decide_eq_true hlt
                have hb4 : decide ((i : Int) < (many : Int)) = true := decide_eq_true (by omega)
                have hw2 : IntKind.i64.wrap ((i : Int) + 1) = (i : Int) + 1 := IntWalk.i64_in _ (by have := HM.out; omega)
                have HI2 := Aside0.mk hlt
                obtain ⟨zs, hzs⟩ : ∃ z, l ++ List.replicate i kk = z := ⟨_, rfl⟩
                rw [hzs] at HS3
                have HZ := Aside0.mk (show zs.length ≤ 1000 ∧ zs ++ [kk] = l ++ List.replicate (i + 1) kk by
                  rw [← hzs, List.length_append, List.length_replicate]
                  refine ⟨by have := HLE.out; have := HN.out; omega, ?_⟩
                  rw [List.append_assoc, ← List.replicate_succ'])
                rw [hzs]
                clear hzs hlt hi
                go_wp2_with ((with_reducible refine gate_builtin (b := .append) (xs := #[.tmp 53, .tmp 55]) rfl ?_); at_builtin; go_must (refine Kd.R_append (Kd.int .i64) (w0 := wr) W.heap.size rfl (.tmp 53) (.tmp 55) 29 3 (.int .i64 0) 8 rfl Try.underlying29 info3 rfl (by decide) (by decide) (.slice A4 zs.length c4) zs kk [.int .i64 kk] (fun _ => True) (fun _ => False) rfl rfl ?aP (fun _ hk => hk.elim) ?aF ?aO ?aB ?aS ?aL ?_); (case aP => exact rfl); (case aF => exact (fun _ _ => trivial)); (case aO => exact HS3.out.ro); (case aB => exact Below.refl _ _); (case aS => exact HS3.out.fr.size); (case aL => have := HZ.out.1; omega); intro v10 w10 ho hb hg hat; have HS10 := Aside0.mk (HS3.out.app HT.out ho hg); obtain ⟨A10, c10, e10⟩ := Kd.R_slice ho; subst e10; clear ho hb hg hat)
                go_roundw
                case rel => exact ⟨i + 1, A10, c10, by simp, by rw [← HZ.out.2, List.length_append]; rfl, HI2.out, by rw [← HZ.out.2]; have h := HS10; rw [List.length_append] at h; exact h⟩
                case measure => simp [intOf]; have := HI2.out; omega
              · have hie : i = many := by omega
                subst hie
                have hb3 : decide (i < i) = false := decide_eq_false (by omega)
                have hb4 : decide ((i : Int) < (i : Int)) = false := decide_eq_false (by omega)
                clear hlt hi
                go_wp2_with fail
                go_roundw
                case rel => exact ⟨_, f, a3, ov3, A4, c4, rfl, by rw [List.length_append, List.length_replicate]; exact HLE.out, by rw [List.length_append, List.length_replicate]; have := HI.out; have := HM.out; omega, HS3, HR3, ⟨fun y hy => by
                  rcases List.mem_append.1 hy with hy | hy
                  · exact HL.out y hy
                  · rw [List.eq_of_mem_replicate hy]; exact HK.out⟩⟩
                case measure => simp [slen]; have := HLE.out; have := HM.out; omega
          · rw [if_neg hle] at HR3
            have hb2 : decide ((l.length : Int) + (many : Int) ≤ (n : Int)) = false := decide_eq_false (by omega)
            clear hle
            go_wp2_with fail
            refine (right_no _).mono ?_
            rintro e w4 ⟨rfl, rfl⟩
            exact ⟨rfl, PL_no HR3.out (HS3.out.beB H.out)⟩
    · have hb1 : decide (l.length < n) = false := decide_eq_false hlt
      rw [lengthsT_end first n f l hlt] at HRUN
      clear hlt
      go_wp2_with fail
      go_ret
      rw [HRUN.out]
      show PL B x g ov s most out W (.ok l a1) _ _
      exact ⟨⟨_, rfl, HS.out.ro⟩, ov1, HS.out.ix, HS.out.fr, HS.out.atb⟩
end Go.Proofs.Yteffjbjhkaobfaa.HI
namespace Go.Proofs.Yteffjbjhkaobfaa.HI
open Go.RowKit Go.Proofs.YteffjbjhkaobfaaW.PrintWords Go.Proofs.YteffjbjhkaobfaaW.PrintLast Go.Proofs.YteffjbjhkaobfaaW.PrintMore Go.Proofs.Yteffjbjhkaobfaa.HW Go.Proofs.Yteffjbjhkaobfaa.MB Go.Proofs.Yteffjbjhkaobfaa.Fn Go.Proofs.Yteffjbjhkaobfaa.HF Go.Proofs.Yteffjbjhkaobfaa.RT Go.Proofs.Yteffjbjhkaobfaa.RT.Rd
attribute [local go_sem] max2_int min2_int max_two min_two max_three min_three max_four min_four   -- for this text's walks alone
/-- The table of a block's distances. -/
def DistIs (w : World) (B : Nat) (d : Value) (o : Option (List Int)) : Prop :=
  match o with
  | none => d = .pointer none
  | some l => okL l = true ∧ 0 < l.length ∧ l.length ≤ 1000 ∧ ∃ t lv wv sv, d = .pointer (some ⟨t, 0, none⟩) ∧ IsTab w B t l lv wv sv
/-- What dynamic tells. -/
def DyQ (B x g : Nat) (ov : Value) (s : ByteArray) (most : Nat) (out : List Int) (W : World) (r : Res (List Int × List Int)) (e : Ending) (w' : World) : Prop :=
  match r with
  | .ok p a => (∃ t1 lv wv sv d, e = .returned (.tuple #[.pointer (some ⟨t1, 0, none⟩), d]) ∧ okL p.1 = true ∧ (257 ≤ p.1.length ∧ p.1.length ≤ 288) ∧ IsTab w' W.heap.size t1 p.1 lv wv sv ∧ DistIs w' W.heap.size d (tableO p.2)) ∧ ∃ ov', IsX w' B x g ov' s a most out ∧ Fr (XS x g ov) W w' ∧ AtB W ov ov'
  | .no er => e = .panicked (refErr er) ∧ Below B W w'
theorem DyQ_no {B x g : Nat} {ov : Value} {s : ByteArray} {most : Nat} {out : List Int} {W w' : World} {r : Res (List Int × List Int)} {er : Int} (hr : r = .no er) (hb : Below B W w') : DyQ B x g ov s most out W r (.panicked (refErr er)) w' := by
  rw [hr]
  exact ⟨rfl, hb⟩
/-- A reading goes on. -/
structure XG (W w : World) (B x g : Nat) (ov : Value) (s : ByteArray) (most : Nat) (out : List Int) (a1 : Nat) (ov1 : Value) : Prop where
  ix : IsX w B x g ov1 s a1 most out
  fr : Fr (XS x g ov) W w
  atb : AtB W ov ov1
section
variable {W w w' : World} {B x g : Nat} {ov : Value} {s : ByteArray} {most : Nat} {out : List Int} {a1 a2 : Nat} {ov1 ov2 : Value}
theorem XG.used (h : XG W w B x g ov s most out a1 ov1) (hx : IsX w' B x g ov2 s a2 most out) (hf : Fr (XS x g ov1) w w') (ha : AtB w ov1 ov2) : XG W w' B x g ov s most out a2 ov2 :=
  ⟨hx, XS_then h.fr hf h.atb, AtB.trans h.atb ha h.fr.size⟩
theorem XG.below (h : XG W w B x g ov s most out a1 ov1) (hb : Below w.heap.size w w') : XG W w' B x g ov s most out a1 ov1 := ⟨h.ix.below hb, h.fr.add hb, h.atb⟩
theorem XG.beB (h : XG W w B x g ov s most out a1 ov1) (h0 : IsX W B x g ov s a2 most out) : Below B W w := h.fr.below h0.base h0.ge
/-- A row of the call's own is written. -/
theorem XG.row {v : Value} {l : List Int} (h : XG W w B x g ov s most out a1 ov1) (ho : Kd.R (Kd.int .i64) 3 w W.heap.size (fun _ => True) v l) (hg : w.grownBy w' v.ownBlock) : XG W w' B x g ov s most out a1 ov1 := by
  have hf : Fr (fun k => v.ownBlock = some k) w w' := (Fr.refl _ w).grown hg (fun k hk => Or.inl hk)
  exact ⟨h.ix.keep hf (fun k hk e => h.ix.apart ho k e hk), h.fr.then_ hf (fun k hk => Or.inr (Kd.R_base ho k hk)), h.atb⟩
end
/-- The order of the lengths' lengths. -/
def ordI : List Int := orderL.map (fun k : Nat => (k : Int))
/-- A block of numbers is none of a reading's. -/
theorem IsX.apartB {W : World} {B x g : Nat} {ov : Value} {s : ByteArray} {a most : Nat} {out : List Int} (hx : IsX W B x g ov s a most out) {k : Nat} {cells : Array Value} (hk : W.heap[k]? = some (.cells cells 3 (0, 0))) : ¬ XS x g ov k := by
  rintro (rfl | rfl | e)
  · have h1 := hx.bx
    rw [hk] at h1
    injection h1 with h1
    injection h1 with _ h1
    exact absurd h1 (by decide)
  · have h1 : W.heap[k]? = _ := hx.rd
    rw [hk] at h1
    injection h1 with h1
    injection h1 with _ h1
    exact absurd h1 (by decide)
  · exact Kd.R_ne hx.ro hk (by decide) e.symm
theorem ord_cell {w : World} {g3 : Nat} (h : w.heap[g3]? = some (.cells (ordI.map (fun y => Value.int .i64 y)).toArray 3 (0, 0))) (i : Nat) (hi : i < 19) : w.cell? ⟨g3, i, none⟩ = some (.int .i64 (rd ordI (i : Int))) := by
  refine (blk_cell h i).trans ?_
  show ((ordI.map (fun y => Value.int .i64 y)).toArray)[i]? = _
  have hl : ordI.length = 19 := rfl
  rw [List.getElem?_toArray, List.getElem?_map, List.getElem?_eq_getElem (by omega)]
  unfold rd
  rw [Int.toNat_natCast, List.getD_eq_getElem?_getD, List.getElem?_eq_getElem (by omega)]
  rfl
/-- While the lengths' lengths are read. -/
structure FtS (W w : World) (B x g : Nat) (ov : Value) (s : ByteArray) (most : Nat) (out : List Int) (a1 : Nat) (ov1 : Value) (g7 c7 g3 : Nat) (l : List Int) : Prop where
  xg : XG W w B x g ov s most out a1 ov1
  r7 : Kd.R (Kd.int .i64) 3 w W.heap.size (fun _ => True) (.slice (some ⟨g7, 0, none⟩) 19 c7) l
  b3 : w.heap[g3]? = some (.cells (ordI.map (fun y => Value.int .i64 y)).toArray 3 (0, 0))
  ne : g7 ≠ g3
section
variable {W w w' : World} {B x g : Nat} {ov : Value} {s : ByteArray} {most : Nat} {out : List Int} {a1 a2 : Nat} {ov1 ov2 : Value} {g7 c7 g3 : Nat} {l : List Int}
theorem FtS.used (h : FtS W w B x g ov s most out a1 ov1 g7 c7 g3 l) (hx : IsX w' B x g ov2 s a2 most out) (hf : Fr (XS x g ov1) w w') (ha : AtB w ov1 ov2) : FtS W w' B x g ov s most out a2 ov2 g7 c7 g3 l :=
  ⟨h.xg.used hx hf ha, rowI_keepX h.r7 h.xg.ix hf, hf.blk h.b3 (h.xg.ix.apartB h.b3), h.ne⟩
theorem FtS.below (h : FtS W w B x g ov s most out a1 ov1 g7 c7 g3 l) (hb : Below w.heap.size w w') : FtS W w' B x g ov s most out a1 ov1 g7 c7 g3 l :=
  ⟨h.xg.below hb, Kd.R_below h.r7 hb, (hb.block g3 (blk_lt h.b3)).trans h.b3, h.ne⟩
theorem FtS.put (h : FtS W w B x g ov s most out a1 ov1 g7 c7 g3 l) (i : Nat) (y : Int) : FtS W (w.setCell ⟨g7, i, none⟩ (.int .i64 y)) B x g ov s most out a1 ov1 g7 c7 g3 (l.set i y) := by
  have h2 := Kd.R_putg h.r7 (i : Int) y
  simp only [Int.toNat_natCast] at h2
  exact ⟨h.xg.row h.r7 h2.2, h2.1, (Below.heap_setCell _ _ _ _ (fun e => h.ne e.symm)).trans h.b3, h.ne⟩
end
theorem reps_i64 (xs : List Int) (w : World) (base : Nat) (ok : Nat → Prop) : Reps ((Kd.int .i64).M w base ok) 1 xs (xs.map (fun y => Value.int .i64 y)) := by
  refine ⟨by rw [List.length_map, Nat.mul_one], fun j p hj => ?_⟩
  obtain ⟨h1, h2⟩ := List.getElem?_eq_some_iff.1 hj
  show ((xs.map (fun y => Value.int .i64 y)).drop (j * 1)).take 1 = [.int .i64 p]
  rw [Nat.mul_one, ← List.map_drop, List.drop_eq_getElem_cons h1, h2]
  rfl
theorem add_at (g o j : Nat) : (⟨g, o, none⟩ : Addr).add j = ⟨g, o + j, none⟩ := by
  unfold Addr.add
  split
  · rename_i h; rw [h]; rfl
  · rfl
theorem ord_rng : ∀ i : Nat, i < 19 → 0 ≤ rd ordI (i : Int) ∧ rd ordI (i : Int) < 19 := by decide +kernel
theorem ord_at (i k : Nat) (h : i < orderL.length) (hk : orderL[i] = k) : rd ordI (i : Int) = (k : Int) := by
  unfold rd ordI
  rw [Int.toNat_natCast, List.getD_eq_getElem?_getD, List.getElem?_map, List.getElem?_eq_getElem h, hk]
  rfl
theorem dynamicT_run (s : ByteArray) (a : Nat) : dynamicT.run s a = match (bitsN 5).run s a with
    | .no er => .no er
    | .ok p a1 => match (bitsN 5).run s a1 with
      | .no er => .no er
      | .ok q a2 => match (bitsN 4).run s a2 with
        | .no er => .no er
        | .ok c a3 => (if 257 + p ≤ 286 ∧ 1 + q ≤ 30 then
            (firstT (orderL.take (4 + c)) (List.replicate 19 0)).bind fun first =>
            if isWhole first = true then
              (lengthsT first (257 + p + (1 + q)) (257 + p + (1 + q)) []).bind fun all =>
              if 0 < (all.take (257 + p)).getD 256 0 ∧ isWhole (all.take (257 + p)) = true ∧ (isWhole (all.drop (257 + p)) = true ∨ (all.drop (257 + p)).sum ≤ 1) then ret (all.take (257 + p), all.drop (257 + p)) else err 40
            else err 40
          else err 40).run s a3 := by
  unfold dynamicT
  rw [run_bind]
  cases (bitsN 5).run s a with
  | no er => rfl
  | ok p a1 =>
    simp only
    rw [run_bind]
    cases (bitsN 5).run s a1 with
    | no er => rfl
    | ok q a2 =>
      simp only
      rw [run_bind]
      cases (bitsN 4).run s a2 <;> rfl
set_option maxRecDepth 100000 in
set_option maxHeartbeats 8000000 in
theorem dynamicX {W : World} {B x g : Nat} {ov : Value} {s : ByteArray} {a most : Nat} {out : List Int} (h : IsX W B x g ov s a most out) :
    Calls Try.prog 34 #[.pointer (some ⟨x, 0, none⟩)] W (DyQ B x g ov s most out W (dynamicT.run s a)) := by
  have H := Aside0.mk h
  have HX0 : Aside0 (XG W W B x g ov s most out a ov) := ⟨h, Fr.refl _ _, AtB.refl _ _⟩
  have HRUN := Aside0.mk (dynamicT_run s a)
  have HB1 := Aside0.mk (bitsX_ok h 5 (by decide))
  clear h
  go_enter Try.func34, Try.ntmps34
  go_wp2_with fail
  refine HB1.out.mono ?_
  cases hb1 : (bitsN 5).run s a with
  | no er =>
    rintro e w1 ⟨rfl, hb⟩
    have hr := HRUN.out
    rw [hb1] at hr
    exact ⟨rfl, DyQ_no hr hb⟩
  | ok p a1 =>
    rintro e w1 ⟨rfl, ov1, hx1, hf1, hat1⟩
    have HX1 := Aside0.mk (HX0.out.used hx1 hf1 hat1)
    have hr := HRUN.out
    rw [hb1] at hr
    simp only at hr
    have HR1 := Aside0.mk hr
    have hp := bitsN_lt 5 a hb1
    have hw1 : IntKind.i64.wrap (257 + (p : Int)) = 257 + (p : Int) := IntWalk.i64_in _ (by omega)
    have HB2 := Aside0.mk (bitsX_ok HX1.out.ix 5 (by decide))
    have HP := Aside0.mk hp
    clear hr HRUN HB1 HX0 hx1 hf1 hat1 hb1 hp
    go_wp2_with fail
    refine HB2.out.mono ?_
    cases hb2 : (bitsN 5).run s a1 with
    | no er =>
      rintro e w2 ⟨rfl, hb⟩
      have hr := HR1.out
      rw [hb2] at hr
      exact ⟨rfl, DyQ_no hr ((HX1.out.beB H.out).trans hb)⟩
    | ok q a2 =>
      rintro e w2 ⟨rfl, ov2, hx2, hf2, hat2⟩
      have HX2 := Aside0.mk (HX1.out.used hx2 hf2 hat2)
      have hr := HR1.out
      rw [hb2] at hr
      simp only at hr
      have HR2 := Aside0.mk hr
      have hq := bitsN_lt 5 a1 hb2
      have hw2 : IntKind.i64.wrap (1 + (q : Int)) = 1 + (q : Int) := IntWalk.i64_in _ (by omega)
      have HB3 := Aside0.mk (bitsX_ok HX2.out.ix 4 (by decide))
      have HQ := Aside0.mk hq
      clear hr HR1 HB2 HX1 hx2 hf2 hat2 hb2 hq
      go_wp2_with fail
      refine HB3.out.mono ?_
      cases hb3 : (bitsN 4).run s a2 with
      | no er =>
        rintro e w3 ⟨rfl, hb⟩
        have hr := HR2.out
        rw [hb3] at hr
        exact ⟨rfl, DyQ_no hr ((HX2.out.beB H.out).trans hb)⟩
      | ok c a3 =>
        rintro e w3 ⟨rfl, ov3, hx3, hf3, hat3⟩
        have HX3 := Aside0.mk (HX2.out.used hx3 hf3 hat3)
        have hr := HR2.out
        rw [hb3] at hr
        simp only at hr
        have HR3 := Aside0.mk hr
        have hc := bitsN_lt 4 a2 hb3
        have hw3 : IntKind.i64.wrap (4 + (c : Int)) = 4 + (c : Int) := IntWalk.i64_in _ (by omega)
        have HC := Aside0.mk hc
        clear hr HR2 HB3 HX2 hx3 hf3 hat3 hb3 hc
        by_cases hpq : 257 + p ≤ 286 ∧ 1 + q ≤ 30
        · rw [if_pos hpq] at HR3
          have d1 : decide (257 + (p : Int) ≤ 286) = true := decide_eq_true (by omega)
          have d2 : decide (1 + (q : Int) ≤ 30) = true := decide_eq_true (by omega)
          have HPQ := Aside0.mk hpq
          clear hpq
          go_wp2_with fail
          refine (right_ok _).mono ?_
          rintro e w4 ⟨rfl, rfl⟩
          have HBW := Aside0.mk (Below.refl W.heap.size w3)
          have q1 : (0 : Int) ≤ 4 + (c : Int) := by omega
          have q2 : 4 + (c : Int) ≤ 19 := by have := HC.out; omega
          have q3 : (4 + (c : Int)).toNat = 4 + c := by omega
          go_wp2_with (first | ((with_reducible refine gate_dst (N := 32) rfl ?_); (try (refine gate_guard (by rfl) ?_; dsimp only)); refine Kd.R_make (Kd.int .i64) (w0 := w3) w3.heap.size 3 rfl (N := 32) rfl 29 _ _ rfl (19 : Int) rfl rfl Try.underlying29 (.int .i64 0) 8 info3 rfl (by decide) (by decide) 0 (ok := fun _ => True) (okp := fun _ => True) rfl (fun _ hk => hk) trivial (by decide) (by decide) (Below.refl _ _) (Nat.le_refl _) ?_; intro v7 w7 ho7 hb7 hg7 hn7; have HO7 := Aside0.mk (Kd.R_lower ho7 HX3.out.fr.size); have HB7 := Aside0.mk hb7; clear ho7 hb7 hg7 hn7))
          obtain ⟨g7, c7, e7⟩ := HF.R_first HO7.out (by decide)
          change v7 = .slice (some ⟨g7, 0, none⟩) 19 c7 at e7
          subst e7
          have HF0 : Aside0 (FtS W (w7.alloc (.cells (ordI.map (fun y => Value.int .i64 y)).toArray 3)) B x g ov s most out a3 ov3 g7 c7 w7.heap.size (List.replicate 19 0)) := ⟨((HX3.out.below HB7.out).below (below_alloc (Below.refl _ _) _)), Kd.R_below HO7.out (below_alloc (Below.refl _ _) _), by exact heap_alloc_new _ _, Nat.ne_of_lt (Kd.R_lt HO7.out g7 rfl)⟩
          change Aside0 (FtS W (w7.alloc (.cells #[.int .i64 16, .int .i64 17, .int .i64 18, .int .i64 0, .int .i64 8, .int .i64 7, .int .i64 9, .int .i64 6, .int .i64 10, .int .i64 5, .int .i64 11, .int .i64 4, .int .i64 12, .int .i64 3, .int .i64 13, .int .i64 2, .int .i64 14, .int .i64 1, .int .i64 15] 3)) _ _ _ _ _ _ _ _ _ _ _ _ _) at HF0
          obtain ⟨g3, hg3⟩ : ∃ z, w7.heap.size = z := ⟨_, rfl⟩
          rw [hg3] at HF0
          rw [hg3]
          generalize w7.alloc _ = w8 at HF0 ⊢
          obtain ⟨F, hF⟩ : ∃ F, F = (fun first : List Int => if isWhole first = true then (lengthsT first (257 + p + (1 + q)) (257 + p + (1 + q)) []).bind fun all => if 0 < (all.take (257 + p)).getD 256 0 ∧ isWhole (all.take (257 + p)) = true ∧ (isWhole (all.drop (257 + p)) = true ∨ (all.drop (257 + p)).sum ≤ 1) then ret (all.take (257 + p), all.drop (257 + p)) else err 40 else err 40) := ⟨_, rfl⟩
          rw [← hF] at HR3
          have HFF := Aside0.mk hF
          have HR4 : Aside0 (dynamicT.run s a = ((firstT ((orderL.take (4 + c)).drop 0) (List.replicate 19 0)).bind F).run s a3) := HR3
          clear HX3 HO7 HB7 hg3 HR3 hF HBW
          go_loopw [37] (fun v37 wr => ∃ (i a4 : Nat) (ov4 : Value) (l : List Int), v37 = .int .i64 i ∧ i ≤ 4 + c ∧ l.length = 19 ∧ Aside0 (FtS W wr B x g ov s most out a4 ov4 g7 c7 g3 l) ∧ Aside0 (dynamicT.run s a = ((firstT ((orderL.take (4 + c)).drop i) l).bind F).run s a4) ∧ Aside0 (∀ y ∈ l, 0 ≤ y ∧ y ≤ 7)) (fun v37 _ => 4 + c - (intOf v37).toNat)
          case atStart => exact ⟨0, a3, ov3, _, rfl, Nat.zero_le _, rfl, HF0, HR4, ⟨fun y hy => by rw [List.eq_of_mem_replicate hy]; exact ⟨by decide, by decide⟩⟩⟩
          case round =>
            clear HF0 HR4
            obtain ⟨i, a4, ov4, l, rfl, hi, hl, HF, HR4, HL7⟩ := hrel
            by_cases hlt : i < 4 + c
            · have hb1 : decide (i < 4 + c) = true := decide_eq_true hlt
              have hb2 : decide ((i : Int) < 4 + (c : Int)) = true := decide_eq_true (by omega)
              have hc16 := HC.out
              have i19 : i < 19 := by omega
              have x0 := ord_cell HF.out.b3 i i19
              have hol : orderL.length = 19 := rfl
              have htl : (orderL.take (4 + c)).length = 4 + c := by rw [List.length_take]; omega
              have hr := HR4.out
              rw [List.drop_eq_getElem_cons (by omega), List.getElem_take] at hr
              obtain ⟨k, hke⟩ : ∃ k : Nat, orderL[i]'(by omega) = k := ⟨_, rfl⟩
              have hk := ord_at i k (by omega) hke
              have hkr := ord_rng i i19
              rw [hk] at x0 hkr
              rw [hke] at hr
              unfold firstT at hr
              rw [bind_assoc, run_bind] at hr
              have HR5 := Aside0.mk hr
              have HI := Aside0.mk (And.intro hlt hl)
              have k0 : (0 : Int) ≤ (k : Int) := by omega
              have k1 : (k : Int) < 19 := by omega
              have i0 : (0 : Int) ≤ (i : Int) := by omega
              have i1 : (i : Int) < 4 + (c : Int) := by omega
              have i2 : IntKind.i64.wrap ((i : Int) + 1) = (i : Int) + 1 := IntWalk.i64_in _ (by omega)
              have HBI := Aside0.mk (bitsX_ok HF.out.xg.ix 3 (by decide))
              clear hr hk hke hkr htl hol hlt hl hc16 HR4 hi i19
              go_wp2_with fail
              refine HBI.out.mono ?_
              cases hbi : (bitsN 3).run s a4 with
              | no er =>
                rintro e w9 ⟨rfl, hb⟩
                have hr := HR5.out
                rw [hbi] at hr
                exact ⟨rfl, DyQ_no hr ((HF.out.xg.beB H.out).trans hb)⟩
              | ok y a5 =>
                rintro e w9 ⟨rfl, ov5, hx5, hf5, hat5⟩
                have HF5 := Aside0.mk (HF.out.used hx5 hf5 hat5)
                have hr := HR5.out
                rw [hbi] at hr
                simp only at hr
                have HR6 := Aside0.mk hr
                have HY := Aside0.mk (bitsN_lt 3 a4 hbi)
                obtain ⟨y0, z0⟩ := Kd.R_celln 0 HF5.out.r7 (k : Int) k0 k1
                simp only [Int.toNat_natCast] at y0 z0
                have HF6 := Aside0.mk (HF5.out.put k (y : Int))
                clear hr hx5 hf5 hat5 HBI HF HR5 hbi
                go_wp2_with fail
                go_roundw
                case rel => exact ⟨i + 1, a5, ov5, _, by simp, HI.out.1, by rw [List.length_set]; exact HI.out.2, HF6, HR6, ⟨fun z hz => by
                  rcases List.mem_or_eq_of_mem_set hz with hz | hz
                  · exact HL7.out z hz
                  · rw [hz]; have := HY.out; omega⟩⟩
                case measure => simp [intOf]; have := HI.out.1; omega
            · have hie : i = 4 + c := by omega
              have hb1 : decide (i < 4 + c) = false := decide_eq_false hlt
              have hb2 : decide ((i : Int) < 4 + (c : Int)) = false := decide_eq_false (by omega)
              have hc16 := HC.out
              have hol : orderL.length = 19 := rfl
              have htl : (orderL.take (4 + c)).length = 4 + c := by rw [List.length_take]; omega
              have hr := HR4.out
              rw [hie, List.drop_eq_nil_of_le (by omega)] at hr
              have HR5 : Aside0 (dynamicT.run s a = (F l).run s a4) := ⟨hr⟩
              have hC7 := (Kd.R_reads' HF.out.r7).2
              rw [← hl] at hC7
              have HW7 := Aside0.mk (wholeX (some ⟨g7, 0, none⟩) c7 l wr hC7.2 hC7.1)
              rw [hl] at HW7
              have HLL := Aside0.mk hl
              clear hr htl hol hc16 HR4 hlt hie hi hC7 hl
              go_wp2_with fail
              refine HW7.out.mono ?_
              rintro e w9 ⟨rfl, hb9⟩
              have HF9 := Aside0.mk (HF.out.below hb9)
              clear HF hb9 HW7
              cases hwh : isWhole l with
              | false =>
                have hr := HR5.out
                rw [HFF.out] at hr
                simp only [hwh] at hr
                rw [if_neg (by decide)] at hr
                have HR6 := Aside0.mk hr
                clear hr hwh
                go_wp2_with fail
                refine (right_no _).mono ?_
                rintro e w10 ⟨rfl, rfl⟩
                exact ⟨rfl, DyQ_no HR6.out (HF9.out.xg.beB H.out)⟩
              | true =>
                have hr := HR5.out
                rw [HFF.out] at hr
                simp only [hwh] at hr
                rw [if_pos True.intro, run_bind] at hr
                have HR6 := Aside0.mk hr
                have HWH := Aside0.mk hwh
                have hC7 := (Kd.R_reads' HF9.out.r7).2
                rw [← HLL.out] at hC7
                have HT7 := Aside0.mk (tableX (some ⟨g7, 0, none⟩) c7 l w9 hC7.2 hC7.1 (fun y hy => (HL7.out y hy).1) (fun _ => isWhole_ok hwh) (by rw [HLL.out]; decide))
                rw [HLL.out] at HT7
                have hw4 : IntKind.i64.wrap (257 + (p : Int) + (1 + (q : Int))) = 257 + (p : Int) + (1 + (q : Int)) := IntWalk.i64_in _ (by have := HPQ.out; omega)
                clear hr hwh hC7 HR5 HFF
                go_wp2_with fail
                refine (right_ok _).mono ?_
                rintro e w10 ⟨rfl, rfl⟩
                go_wp2_with fail
                refine HT7.out.mono ?_
                rintro e w10 ⟨_, h1, hb10⟩
                obtain ⟨t1, lv1, wv1, sv1, rfl, ht1⟩ := h1 (isWhole_some HWH.out)
                have HX10 := Aside0.mk (HF9.out.xg.below hb10)
                have HLN := Aside0.mk (lengthsX HX10.out.ix ht1 (isWhole_ok HWH.out) (by rw [HLL.out]; decide) (257 + p + (1 + q)) (by have := HPQ.out; omega))
                have hcast : ((257 + p + (1 + q) : Nat) : Int) = 257 + (p : Int) + (1 + (q : Int)) := by omega
                rw [hcast] at HLN
                clear h1 hb10 ht1 HT7 HF9 hcast
                go_wp2_with fail
                refine HLN.out.mono ?_
                cases hln : (lengthsT l (257 + p + (1 + q)) (257 + p + (1 + q)) []).run s a4 with
                | no er =>
                  rintro e w11 ⟨rfl, hb⟩
                  have hr := HR6.out
                  rw [hln] at hr
                  exact ⟨rfl, DyQ_no hr ((HX10.out.beB H.out).trans hb)⟩
                | ok all a5 =>
                  rintro e w11 ⟨⟨v, rfl, hv⟩, ov5, hx5, hf5, hat5⟩
                  have HX11 := Aside0.mk (HX10.out.used hx5 hf5 hat5)
                  have hr := HR6.out
                  rw [hln] at hr
                  simp only at hr
                  have HR7 := Aside0.mk hr
                  have hrg := lengthsT_rng (by rw [HLL.out]; decide) _ _ [] (by exact Nat.zero_le _) (fun _ h => by cases h) _ _ _ hln
                  have HRG := Aside0.mk hrg
                  obtain ⟨gA, cA, eA⟩ := HF.R_first hv (by rw [hrg.1]; omega)
                  subst eA
                  have HV := Aside0.mk (Kd.R_reads' hv).2
                  rw [hrg.1] at HV ⊢
                  clear hr hv hx5 hf5 hat5 HLN HX10 HR6 hln hrg
                  have n1 : (0 : Int) ≤ 257 + (p : Int) := by omega
                  have n2 : 257 + (p : Int) ≤ ((257 + p + (1 + q) : Nat) : Int) := by omega
                  have n3 : (257 + (p : Int)).toNat = 257 + p := by omega
                  have n4 : ((257 + p + (1 + q) : Nat) : Int) ≤ (cA : Int) := by have := HV.out.1; omega
                  go_upto_region 11 with (fail)
                  go_region
                  have HX12 := Aside0.mk (HX11.out.below (below_drew (Below.refl _ _)))
                  have hall := HRG.out.1
                  have hC := Kd.C_below HV.out.2 (below_drew (Below.refl w11.heap.size w11))
                  rw [← hall] at hC
                  have hl1 : (all.take (257 + p)).length = 257 + p := by rw [List.length_take]; omega
                  have hl2 : (all.drop (257 + p)).length = 1 + q := by rw [List.length_drop]; omega
                  have hC1 := Kd.C_take hC (m := 257 + p) (by omega)
                  have hC2 := Kd.C_drop hC (m := 257 + p) (c := cA) (by omega) (by have := HV.out.1; omega)
                  rw [if_neg (by have := HV.out.1; omega)] at hC2
                  have hadr : (some (⟨gA, 0, none⟩ : Addr)).map (fun z => z.add ((257 + p) * (Kd.int .i64).sz)) = some ⟨gA, 257 + p, none⟩ := by
                    show some (Addr.add _ ((257 + p) * 1)) = _
                    rw [Nat.mul_one]
                    unfold Addr.add
                    rw [if_neg (by omega)]
                    simp
                  rw [hadr] at hC2
                  have HL1 : Aside0 ((all.take (257 + p)).length = 257 + p ∧ (256 < (all.take (257 + p)).length) ∧ ∀ y ∈ all.take (257 + p), 0 ≤ y ∧ y < l.length) := ⟨hl1, by omega, fun y hy => HRG.out.2 y (List.mem_of_mem_take hy)⟩
                  have HL2 : Aside0 ((all.drop (257 + p)).length = 1 + q ∧ ∀ y ∈ all.drop (257 + p), 0 ≤ y ∧ y < l.length) := ⟨hl2, fun y hy => HRG.out.2 y (List.mem_of_mem_drop hy)⟩
                  rw [HLL.out] at HL1 HL2
                  obtain ⟨l1, hl1e⟩ : ∃ z, all.take (257 + p) = z := ⟨_, rfl⟩
                  obtain ⟨l2, hl2e⟩ : ∃ z, all.drop (257 + p) = z := ⟨_, rfl⟩
                  rw [hl1e] at hC1 HL1 HR7
                  rw [hl2e] at hC2 HL2 HR7
                  have HC1 := Aside0.mk hC1
                  have HC2 := Aside0.mk hC2
                  have HAL := Aside0.mk hadr
                  clear hC hC1 hC2 hl1 hl2 hl1e hl2e hall HX11 HRG hadr HAL HL7
                  generalize w11.drew = w12 at HX12 HC1 HC2 ⊢
                  go_wp2_with fail
                  go_loopw [13, 65] (fun v13 v65 wr => ∃ i : Nat, v65 = .int .i64 i ∧ i ≤ 1 + q ∧ v13 = .int .i64 (l2.take i).sum ∧ Aside0 (Below w12.heap.size w12 wr)) (fun _ v65 _ => 1 + q - (intOf v65).toNat)
                  case atStart => exact ⟨0, rfl, Nat.zero_le _, by rw [List.take_zero]; rfl, ⟨Below.refl _ _⟩⟩
                  case round =>
                    obtain ⟨j, rfl, hj, rfl, HBR⟩ := hrel
                    by_cases hlt2 : j < 1 + q
                    · have hb3 : decide (j < 1 + q) = true := decide_eq_true hlt2
                      obtain ⟨ad, hA, x0⟩ := Kd.at_int (Kd.C_below HC2.out HBR.out) (j : Int) (by omega) (by rw [HL2.out.1]; omega)
                      injection hA with hA
                      subst hA
                      simp only [Int.toNat_natCast] at x0
                      rw [add_at] at x0
                      have hst := sum_take l2 j (by rw [HL2.out.1]; exact hlt2)
                      have hrd : rd l2 (j : Int) = l2.getD j 0 := by unfold rd; rw [Int.toNat_natCast]
                      rw [hrd] at x0
                      have hs1 : 0 ≤ (l2.take j).sum ∧ (l2.take j).sum ≤ 1000 := by
                        have h1 := sum_nn (l2.take j) (fun y hy => (HL2.out.2 y (List.mem_of_mem_take hy)).1)
                        have h2 := sum_le (l2.take j) 18 (fun y hy => by have := (HL2.out.2 y (List.mem_of_mem_take hy)).2; omega)
                        rw [List.length_take] at h2
                        have h3 := HPQ.out
                        refine ⟨h1, ?_⟩
                        omega
                      have hs2 : 0 ≤ l2.getD j 0 ∧ l2.getD j 0 < 19 := by
                        rw [List.getD_eq_getElem?_getD, List.getElem?_eq_getElem (by rw [HL2.out.1]; exact hlt2)]
                        exact HL2.out.2 _ (List.getElem_mem _)
                      obtain ⟨u, hu⟩ : ∃ z, (l2.take j).sum = z := ⟨_, rfl⟩
                      obtain ⟨z, hz⟩ : ∃ z, l2.getD j 0 = z := ⟨_, rfl⟩
                      rw [hu, hz] at hst
                      rw [hu] at hs1 ⊢
                      rw [hz] at x0 hs2
                      have hwj : IntKind.i64.wrap ((j : Int) + 1) = (j : Int) + 1 := IntWalk.i64_in _ (by have := HPQ.out; omega)
                      have hws : IntKind.i64.wrap (u + z) = u + z := IntWalk.i64_in _ (by omega)
                      have j0 : (0 : Int) ≤ (j : Int) := by omega
                      have j1 : (j : Int) < ((1 + q : Nat) : Int) := by omega
                      have j2 : (j : Int) < 1 + (q : Int) := by omega
                      have HST := Aside0.mk (And.intro hst hlt2)
                      clear hst hlt2 hrd hu hz hs1 hs2 hj
                      go_wp2_with fail
                      go_roundw
                      case rel => exact ⟨j + 1, by simp, by have := HST.out.2; omega, by rw [HST.out.1], HBR⟩
                      case measure => simp [intOf]; have := HST.out.2; omega
                    · have hje : j = 1 + q := by omega
                      have hb3 : decide (j < 1 + q) = false := decide_eq_false hlt2
                      have hb4 : decide (1 + q < 1 + q) = false := decide_eq_false (by omega)
                      subst hje
                      have HX13 := Aside0.mk (HX12.out.below HBR.out)
                      have HC1a := Aside0.mk (Kd.C_below HC1.out HBR.out)
                      have HC2a := Aside0.mk (Kd.C_below HC2.out HBR.out)
                      have hsum : l2.take (1 + q) = l2 := List.take_of_length_le (by rw [HL2.out.1]; exact Nat.le_refl _)
                      rw [hsum]
                      obtain ⟨ad, hA, x0⟩ := Kd.at_int HC1a.out (256 : Int) (by decide) (by have := HL1.out.2.1; omega)
                      injection hA with hA
                      subst hA
                      have hrd : rd l1 256 = l1.getD 256 0 := rfl
                      rw [hrd, add_at] at x0
                      change wr.cell? ⟨gA, 256, none⟩ = _ at x0
                      obtain ⟨z, hz⟩ : ∃ z, l1.getD 256 0 = z := ⟨_, rfl⟩
                      rw [hz] at x0 HR7
                      have j1 : (256 : Int) < 257 + (p : Int) := by omega
                      have j2 : (256 : Int) < ((257 + p : Nat) : Int) := by omega
                      clear HX12 HC1 HC2 HBR hlt2 hj hsum hrd hz
                      by_cases hz0 : 0 < z
                      · have hb5 : decide (0 < z) = true := decide_eq_true hz0
                        have HW1 := Aside0.mk (wholeX (some ⟨gA, 0, none⟩) cA l1 wr HC1a.out (by rw [HL1.out.1]; have := HV.out.1; omega))
                        rw [HL1.out.1] at HW1
                        have HZ0 := Aside0.mk hz0
                        clear hz0
                        go_wp2_with fail
                        refine HW1.out.mono ?_
                        rintro e w14 ⟨rfl, hb14⟩
                        have HX14 := Aside0.mk (HX13.out.below hb14)
                        have HC1b := Aside0.mk (Kd.C_below HC1a.out hb14)
                        have HC2b := Aside0.mk (Kd.C_below HC2a.out hb14)
                        clear hb14 HX13 HC1a HC2a HW1
                        cases hw : isWhole l1 with
                        | false =>
                          rw [if_neg (by rw [hw]; rintro ⟨_, h, _⟩; exact absurd h (by decide))] at HR7
                          clear hw
                          go_wp2_with fail
                          refine (right_no _).mono ?_
                          rintro e w15 ⟨rfl, rfl⟩
                          exact ⟨rfl, DyQ_no HR7.out (HX14.out.beB H.out)⟩
                        | true =>
                          have HB1 := Aside0.mk hw
                          have HW2 := Aside0.mk (wholeX (some ⟨gA, 257 + p, none⟩) (cA - (257 + p)) l2 w14 HC2b.out (by rw [HL2.out.1]; have := HV.out.1; omega))
                          rw [HL2.out.1] at HW2
                          clear hw
                          go_wp2_with fail
                          refine HW2.out.mono ?_
                          rintro e w15 ⟨rfl, hb15⟩
                          have HX15 := Aside0.mk (HX14.out.below hb15)
                          have HC1b := Aside0.mk (Kd.C_below HC1b.out hb15)
                          have HC2b := Aside0.mk (Kd.C_below HC2b.out hb15)
                          have HX15s := Aside0.mk HX15.out.fr.size
                          clear hb15 HX14 HW2
                          cases hw2 : isWhole l2 with
                          | true =>
                            have HR8 := Aside0.mk HR7.out
                            rw [if_pos ⟨HZ0.out, HB1.out, Or.inl hw2⟩] at HR8
                            have HOK2 := Aside0.mk (isWhole_ok hw2)
                            clear hw2 HR7
                            go_wp2_with fail
                            refine (right_ok _).mono ?_
                            rintro e w15' ⟨rfl, rfl⟩
                            have HT1 := Aside0.mk (tableX (some ⟨gA, 0, none⟩) cA l1 w15 HC1b.out (by rw [HL1.out.1]; have := HV.out.1; omega) (fun y hy => (HL1.out.2.2 y hy).1) (fun _ => isWhole_ok HB1.out) (by rw [HL1.out.1]; have := HPQ.out; omega))
                            rw [HL1.out.1] at HT1
                            go_wp2_with fail
                            refine HT1.out.mono ?_
                            rintro e w16 ⟨_, h1, hb16⟩
                            obtain ⟨t1, lv1, wv1, sv1, rfl, ht1⟩ := h1 (isWhole_some HB1.out)
                            have HX16 := Aside0.mk (HX15.out.below hb16)
                            have HC2c := Aside0.mk (Kd.C_below HC2b.out hb16)
                            have HTA := Aside0.mk ht1
                            clear h1 hb16 ht1 HT1 HX15
                            have HT2 := Aside0.mk (tableX (some ⟨gA, 257 + p, none⟩) (cA - (257 + p)) l2 w16 HC2c.out (by rw [HL2.out.1]; have := HV.out.1; omega) (fun y hy => (HL2.out.2 y hy).1) (fun _ => HOK2.out) (by rw [HL2.out.1]; have := HPQ.out; omega))
                            rw [HL2.out.1] at HT2
                            go_wp2_with fail
                            refine HT2.out.mono ?_
                            rintro e w17 ⟨h2, h1, hb17⟩
                            have HX17 := Aside0.mk (HX16.out.below hb17)
                            have HTA2 := Aside0.mk (HTA.out.below hb17)
                            have HWW := Aside0.mk (Nat.le_trans HX16.out.fr.size hb17.size)
                            have HWX := Aside0.mk HX16.out.fr.size
                            cases hno : noW l2 with
                            | true =>
                              have he := h2 hno
                              subst he
                              have HTO := Aside0.mk (show tableO l2 = none from if_pos hno)
                              clear h1 h2 hb17 hno HX16 HTA HT2
                              go_wp2_with fail
                              go_ret2
                              rw [HR8.out]
                              exact ⟨⟨t1, lv1, wv1, sv1, _, rfl, isWhole_ok HB1.out, by show 257 ≤ l1.length ∧ l1.length ≤ 288; rw [HL1.out.1]; have := HPQ.out; omega, IsTab.lower HTA2.out HX15s.out, by show DistIs _ _ _ (tableO l2); rw [HTO.out]; rfl⟩, ov5, HX17.out.ix, HX17.out.fr, HX17.out.atb⟩
                            | false =>
                              obtain ⟨t2, lv2, wv2, sv2, rfl, ht2⟩ := h1 hno
                              have HTO := Aside0.mk (show tableO l2 = some l2 from if_neg (by rw [show (l2.all fun l => decide (l = 0)) = false from hno]; decide))
                              have HTB := Aside0.mk ht2
                              clear h1 h2 hb17 hno HX16 HTA HT2 ht2
                              go_wp2_with fail
                              go_ret2
                              rw [HR8.out]
                              exact ⟨⟨t1, lv1, wv1, sv1, _, rfl, isWhole_ok HB1.out, by show 257 ≤ l1.length ∧ l1.length ≤ 288; rw [HL1.out.1]; have := HPQ.out; omega, IsTab.lower HTA2.out HX15s.out, by show DistIs _ _ _ (tableO l2); rw [HTO.out]; exact ⟨HOK2.out, by rw [HL2.out.1]; omega, by rw [HL2.out.1]; have := HPQ.out; omega, t2, lv2, wv2, sv2, rfl, IsTab.lower HTB.out HWX.out⟩⟩, ov5, HX17.out.ix, HX17.out.fr, HX17.out.atb⟩
                          | false =>
                            by_cases hs : l2.sum ≤ 1
                            · have hb6 : decide (l2.sum ≤ 1) = true := decide_eq_true hs
                              have HR8 := Aside0.mk HR7.out
                              rw [if_pos ⟨HZ0.out, HB1.out, Or.inr hs⟩] at HR8
                              have HOK2 := Aside0.mk (okL_few (fun y hy => (HL2.out.2 y hy).1) hs (by rw [HL2.out.1]; have := HPQ.out; omega))
                              clear hw2 HR7 hs
                              go_wp2_with fail
                              refine (right_ok _).mono ?_
                              rintro e w15' ⟨rfl, rfl⟩
                              have HT1 := Aside0.mk (tableX (some ⟨gA, 0, none⟩) cA l1 w15 HC1b.out (by rw [HL1.out.1]; have := HV.out.1; omega) (fun y hy => (HL1.out.2.2 y hy).1) (fun _ => isWhole_ok HB1.out) (by rw [HL1.out.1]; have := HPQ.out; omega))
                              rw [HL1.out.1] at HT1
                              go_wp2_with fail
                              refine HT1.out.mono ?_
                              rintro e w16 ⟨_, h1, hb16⟩
                              obtain ⟨t1, lv1, wv1, sv1, rfl, ht1⟩ := h1 (isWhole_some HB1.out)
                              have HX16 := Aside0.mk (HX15.out.below hb16)
                              have HC2c := Aside0.mk (Kd.C_below HC2b.out hb16)
                              have HTA := Aside0.mk ht1
                              clear h1 hb16 ht1 HT1 HX15
                              have HT2 := Aside0.mk (tableX (some ⟨gA, 257 + p, none⟩) (cA - (257 + p)) l2 w16 HC2c.out (by rw [HL2.out.1]; have := HV.out.1; omega) (fun y hy => (HL2.out.2 y hy).1) (fun _ => HOK2.out) (by rw [HL2.out.1]; have := HPQ.out; omega))
                              rw [HL2.out.1] at HT2
                              go_wp2_with fail
                              refine HT2.out.mono ?_
                              rintro e w17 ⟨h2, h1, hb17⟩
                              have HX17 := Aside0.mk (HX16.out.below hb17)
                              have HTA2 := Aside0.mk (HTA.out.below hb17)
                              have HWW := Aside0.mk (Nat.le_trans HX16.out.fr.size hb17.size)
                              have HWX := Aside0.mk HX16.out.fr.size
                              cases hno : noW l2 with
                              | true =>
                                have he := h2 hno
                                subst he
                                have HTO := Aside0.mk (show tableO l2 = none from if_pos hno)
                                clear h1 h2 hb17 hno HX16 HTA HT2
                                go_wp2_with fail
                                go_ret2
                                rw [HR8.out]
                                exact ⟨⟨t1, lv1, wv1, sv1, _, rfl, isWhole_ok HB1.out, by show 257 ≤ l1.length ∧ l1.length ≤ 288; rw [HL1.out.1]; have := HPQ.out; omega, IsTab.lower HTA2.out HX15s.out, by show DistIs _ _ _ (tableO l2); rw [HTO.out]; rfl⟩, ov5, HX17.out.ix, HX17.out.fr, HX17.out.atb⟩
                              | false =>
                                obtain ⟨t2, lv2, wv2, sv2, rfl, ht2⟩ := h1 hno
                                have HTO := Aside0.mk (show tableO l2 = some l2 from if_neg (by rw [show (l2.all fun l => decide (l = 0)) = false from hno]; decide))
                                have HTB := Aside0.mk ht2
                                clear h1 h2 hb17 hno HX16 HTA HT2 ht2
                                go_wp2_with fail
                                go_ret2
                                rw [HR8.out]
                                exact ⟨⟨t1, lv1, wv1, sv1, _, rfl, isWhole_ok HB1.out, by show 257 ≤ l1.length ∧ l1.length ≤ 288; rw [HL1.out.1]; have := HPQ.out; omega, IsTab.lower HTA2.out HX15s.out, by show DistIs _ _ _ (tableO l2); rw [HTO.out]; exact ⟨HOK2.out, by rw [HL2.out.1]; omega, by rw [HL2.out.1]; have := HPQ.out; omega, t2, lv2, wv2, sv2, rfl, IsTab.lower HTB.out HWX.out⟩⟩, ov5, HX17.out.ix, HX17.out.fr, HX17.out.atb⟩
                            · have hb6 : decide (l2.sum ≤ 1) = false := decide_eq_false hs
                              rw [if_neg (by rintro ⟨_, _, h | h⟩; exact absurd (hw2 ▸ h) (by decide); exact hs h)] at HR7
                              clear hw2 hs
                              go_wp2_with fail
                              refine (right_no _).mono ?_
                              rintro e w15' ⟨rfl, rfl⟩
                              exact ⟨rfl, DyQ_no HR7.out (HX15.out.beB H.out)⟩
                      · have hb5 : decide (0 < z) = false := decide_eq_false hz0
                        rw [if_neg (fun h => hz0 h.1)] at HR7
                        clear hz0
                        go_wp2_with fail
                        refine (right_no _).mono ?_
                        rintro e w14 ⟨rfl, rfl⟩
                        exact ⟨rfl, DyQ_no HR7.out (HX13.out.beB H.out)⟩
        · rw [if_neg hpq] at HR3
          by_cases h1 : 257 + p ≤ 286
          · have d1 : decide (257 + (p : Int) ≤ 286) = true := decide_eq_true (by omega)
            have d2 : decide (1 + (q : Int) ≤ 30) = false := decide_eq_false (by omega)
            clear hpq h1
            go_wp2_with fail
            refine (right_no _).mono ?_
            rintro e w4 ⟨rfl, rfl⟩
            exact ⟨rfl, DyQ_no HR3.out (HX3.out.beB H.out)⟩
          · have d1 : decide (257 + (p : Int) ≤ 286) = false := decide_eq_false (by omega)
            clear hpq h1
            go_wp2_with fail
            refine (right_no _).mono ?_
            rintro e w4 ⟨rfl, rfl⟩
            exact ⟨rfl, DyQ_no HR3.out (HX3.out.beB H.out)⟩
end Go.Proofs.Yteffjbjhkaobfaa.HI
namespace Go.Proofs.Yteffjbjhkaobfaa.HW
open Go.RowKit Go.Proofs.YteffjbjhkaobfaaW.PrintWords Go.Proofs.YteffjbjhkaobfaaW.PrintLast Go.Proofs.YteffjbjhkaobfaaW.PrintMore Go.Proofs.Yteffjbjhkaobfaa.MB Go.Proofs.Yteffjbjhkaobfaa.Fn Go.Proofs.Yteffjbjhkaobfaa.PR
theorem r_align (g : Nat) (s : ByteArray) (a : Nat) (W : World) (h : IsR W g s a) (ha : a < 2 ^ 61) :
    Calls Try.prog 45 #[.pointer (some ⟨g, 0, none⟩)] W fun e w' => e = .returned (.int .i64 0) ∧ IsR w' g s ((a + 7) / 8 * 8) ∧ Fr (fun k => k = g) W w' := by
  refine (bits_Reader_Align.calls g _ _ _ _ _ _ _ (bare W) W h.is (bare_below W) (align_f s a ha)).mono ?_
  rintro e w' ⟨rfl, hI, hb, hk⟩
  exact ⟨rfl, hI.1, fr_of_keep hb hk⟩
theorem r_bytes (g : Nat) (s : ByteArray) (a n : Nat) (W : World) (h : IsR W g s a) (hs : s.size ≤ 1000000000000000) (h8 : a % 8 = 0) (hfit : a / 8 + n ≤ s.size) :
    Calls Try.prog 48 #[.pointer (some ⟨g, 0, none⟩), .int .i64 n] W fun e w' => e = .returned (.tuple #[.string (s.extract (a / 8) (a / 8 + n)), .int .i64 0]) ∧ IsR w' g s (a + 8 * n) ∧ Fr (fun k => k = g) W w' := by
  have hf := reader_bytes s hs a (by omega) n (by omega) 60 (by omega)
  unfold rby at hf
  rw [if_neg (by omega), if_neg (by omega), if_neg (by omega), Int.toNat_natCast] at hf
  refine (bits_Reader_Bytes.calls 60 g _ _ _ _ _ _ _ _ _ (bare W) W h.is (bare_below W) hf).mono ?_
  rintro e w' ⟨rfl, hI, hb, hk⟩
  exact ⟨rfl, hI.1, fr_of_keep hb hk⟩
theorem r_bytes_no (g : Nat) (s : ByteArray) (a n : Nat) (W : World) (h : IsR W g s a) (hs : s.size ≤ 1000000000000000) (hn : n ≤ 1000000) (h8 : a % 8 = 0) (ha : a ≤ 8 * s.size) (hfit : s.size < a / 8 + n) :
    Calls Try.prog 48 #[.pointer (some ⟨g, 0, none⟩), .int .i64 n] W fun e w' => e = .returned (.tuple #[.string ⟨#[]⟩, .int .i64 5]) ∧ IsR w' g s a ∧ Fr (fun k => k = g) W w' := by
  have hf := reader_bytes s hs a ha n (by omega) 60 (by omega)
  unfold rby at hf
  rw [if_neg (by omega), if_neg (by omega), if_pos (by omega)] at hf
  refine (bits_Reader_Bytes.calls 60 g _ _ _ _ _ _ _ _ _ (bare W) W h.is (bare_below W) hf).mono ?_
  rintro e w' ⟨rfl, hI, hb, hk⟩
  exact ⟨rfl, hI.1, fr_of_keep hb hk⟩
end Go.Proofs.Yteffjbjhkaobfaa.HW
namespace Go.Proofs.Yteffjbjhkaobfaa.HI
open Go.RowKit Go.Proofs.YteffjbjhkaobfaaW.PrintWords Go.Proofs.YteffjbjhkaobfaaW.PrintLast Go.Proofs.YteffjbjhkaobfaaW.PrintMore Go.Proofs.Yteffjbjhkaobfaa.HW Go.Proofs.Yteffjbjhkaobfaa.MB Go.Proofs.Yteffjbjhkaobfaa.Fn Go.Proofs.Yteffjbjhkaobfaa.HF Go.Proofs.Yteffjbjhkaobfaa.RT Go.Proofs.Yteffjbjhkaobfaa.RT.Rd
attribute [local go_sem] max2_int min2_int max_two min_two max_three min_three max_four min_four   -- for this text's walks alone
theorem reps_nums {xs : List Int} {inner : List Value} {w : World} {base : Nat} {ok : Nat → Prop} (h : Reps ((Kd.int .u8).M w base ok) 1 xs inner) : inner = nums .u8 xs := by
  refine List.ext_getElem? fun j => ?_
  unfold nums
  rw [List.getElem?_map]
  by_cases hj : j < xs.length
  · have h2 := h.2 j xs[j] (List.getElem?_eq_getElem hj)
    have h3 : (inner.drop (j * 1)).take 1 = [.int .u8 xs[j]] := h2
    rw [List.getElem?_eq_getElem hj]
    have h4 := congrArg (fun l => l[0]?) h3
    simp only [Nat.mul_one] at h4
    rw [List.getElem?_take_of_lt (by omega), List.getElem?_drop, Nat.add_zero] at h4
    exact h4
  · have h1 := h.1
    rw [List.getElem?_eq_none (by omega), List.getElem?_eq_none (by omega)]
    rfl
theorem nums_reps (xs : List Int) (w : World) (base : Nat) (ok : Nat → Prop) : Reps ((Kd.int .u8).M w base ok) 1 xs (nums .u8 xs) := by
  refine ⟨by rw [nums_length, Nat.mul_one], fun j p hj => ?_⟩
  obtain ⟨h1, h2⟩ := List.getElem?_eq_some_iff.1 hj
  show ((nums .u8 xs).drop (j * 1)).take 1 = [.int .u8 p]
  unfold nums
  rw [Nat.mul_one, ← List.map_drop, List.drop_eq_getElem_cons h1, h2]
  rfl
theorem row_nums {W : World} {B : Nat} {v : Value} {xs : List Int} (h : Kd.R (Kd.int .u8) 5 W B (fun _ => True) v xs) : W.ownsRow B 5 1 v xs.length (nums .u8 xs) := by
  obtain ⟨_, inner, ho, hr⟩ := h
  rw [reps_nums hr] at ho
  exact ho
theorem nums_row {W : World} {B : Nat} {v : Value} {xs : List Int} (h : W.ownsRow B 5 1 v xs.length (nums .u8 xs)) : Kd.R (Kd.int .u8) 5 W B (fun _ => True) v xs :=
  ⟨fun _ _ => trivial, nums .u8 xs, h, nums_reps _ _ _ _⟩
theorem info5 : (Try.prog.info? 5).map (fun i => (i.zero, i.size, i.bytes)) = some (some (.int .u8 0), 1, 1) := by kernel_rfl
section
variable {W w1 : World} {B x g : Nat} {ov : Value} {s : ByteArray} {a most : Nat} {out : List Int}
theorem IsX.slice (h : IsX W B x g ov s a most out) : ∃ A c, ov = .slice A out.length c := Kd.R_slice h.ro
/-- The row has grown (to v1), then the field is written. -/
theorem IsX.grow {v1 : Value} {zs : List Int} (h : IsX W B x g ov s a most out) (ho : Kd.R (Kd.int .u8) 5 w1 B (fun _ => True) v1 zs) (hg : W.grownBy w1 ov.ownBlock) (hat : v1.ownBlock = ov.ownBlock ∨ ∃ b, v1.ownBlock = some b ∧ W.heap.size ≤ b) (hz : zs.length ≤ most) :
    IsX (w1.setCell ⟨x, 2, none⟩ v1) B x g v1 s a most zs ∧ Fr (XS x g ov) W (w1.setCell ⟨x, 2, none⟩ v1) ∧ AtB W ov v1 := by
  have hn := h.ne
  have hbx := (hg.block x h.lt.1 (fun e => hn.2.1 e.symm)).trans h.bx
  have hbr : w1.heap[g]? = _ := (hg.block g h.lt.2 (fun e => hn.2.2 e.symm)).trans h.rd
  have n1 : v1.ownBlock ≠ some x := fun e => Kd.R_ne ho hbx (by decide) e.symm
  have hk : ∀ k, k ≠ x → (w1.setCell ⟨x, 2, none⟩ v1).heap[k]? = w1.heap[k]? := fun k e => Below.heap_setCell _ _ _ _ e
  refine ⟨⟨blk_set hbx 2 v1, (hk g (fun e => hn.1 e.symm)).trans hbr, rowB_keep ho (fun k e _ => hk k (fun e2 => n1 (by rw [e, e2]))), h.hx, h.hg, h.le, h.sz, h.ml, hz⟩, ?_, hat⟩
  exact ((Fr.refl (XS x g ov) W).grown hg (fun k hk => Or.inl (Or.inr (Or.inr hk)))).setCell (p := ⟨x, 2, none⟩) (Or.inl (Or.inl rfl)) v1
end
set_option maxRecDepth 100000 in
set_option maxHeartbeats 4000000 in
theorem room_ok {W : World} {B x g : Nat} {ov : Value} {s : ByteArray} {a most : Nat} {out : List Int} (h : IsX W B x g ov s a most out) (n : Nat) (hn : n ≤ 1000000) (hf : ¬ most < out.length + n) :
    Calls Try.prog 47 #[.pointer (some ⟨x, 0, none⟩), .int .i64 n] W fun e w' => e = .returned (.tuple #[]) ∧ Below W.heap.size W w' := by
  obtain ⟨oA, oc, rfl⟩ := h.slice
  have c1 := h.c1
  have c2 := h.c2
  have hb : decide ((most : Int) < (out.length : Int) + (n : Int)) = false := decide_eq_false (by omega)
  have hb' : ¬ (most : Int) < (out.length : Int) + (n : Int) := by omega
  have u1 : IntKind.i64.wrap ((out.length : Int) + (n : Int)) = (out.length : Int) + (n : Int) := IntWalk.i64_in _ (by have := h.ol; have := h.ml; omega)
  have hol : (out.length : Int) ≤ 1048576 := by have := h.ol; have := h.ml; omega
  have hnl : (n : Int) ≤ 1000000 := by omega
  clear h hn hf
  go_enter Try.func47, Try.ntmps47
  go_upto_region 0 with (fail)
  go_region_held3 (fun w' => w'.cell? ⟨x, 1, none⟩ = some (.int .i64 most) ∧ w'.cell? ⟨x, 2, none⟩ = some (.slice oA out.length oc)) (go_keep) ((fail))
  rename_i hHeld
  clear hHeld c1 c2
  go_wp2_with fail
  go_end0
  exact ⟨rfl, below_drew (Below.refl _ _)⟩
set_option maxRecDepth 100000 in
set_option maxHeartbeats 4000000 in
theorem room_no {W : World} {B x g : Nat} {ov : Value} {s : ByteArray} {a most : Nat} {out : List Int} (h : IsX W B x g ov s a most out) (n : Nat) (hn : n ≤ 1000000) (hf : most < out.length + n) :
    Calls Try.prog 47 #[.pointer (some ⟨x, 0, none⟩), .int .i64 n] W fun e w' => e = .panicked (refErr 4) ∧ Below W.heap.size W w' := by
  obtain ⟨oA, oc, rfl⟩ := h.slice
  have c1 := h.c1
  have c2 := h.c2
  have hb : decide ((most : Int) < (out.length : Int) + (n : Int)) = true := decide_eq_true (by omega)
  have hb' : (most : Int) < (out.length : Int) + (n : Int) := by omega
  have u1 : IntKind.i64.wrap ((out.length : Int) + (n : Int)) = (out.length : Int) + (n : Int) := IntWalk.i64_in _ (by have := h.ol; have := h.ml; omega)
  have hol : (out.length : Int) ≤ 1048576 := by have := h.ol; have := h.ml; omega
  have hnl : (n : Int) ≤ 1000000 := by omega
  clear h hn hf
  go_enter Try.func47, Try.ntmps47
  go_upto_region 0 with (fail)
  go_region_held3 (fun w' => w'.cell? ⟨x, 1, none⟩ = some (.int .i64 most) ∧ w'.cell? ⟨x, 2, none⟩ = some (.slice oA out.length oc)) (go_keep) ((fail))
  rename_i hHeld
  clear hHeld c1 c2
  go_wp2_with fail
  refine (must_no 4 (by decide) _).mono ?_
  rintro e w2 ⟨rfl, rfl⟩
  exact ⟨rfl, rfl, below_drew (Below.refl _ _)⟩
/-- A panic goes on up. -/
theorem PX_no {α : Type} {V : α → Value} {O : α → List Int} {B x g : Nat} {ov : Value} {s : ByteArray} {most : Nat} {W w' : World} {r : Res α} {er : Int} (hr : r = .no er) (hb : Below B W w') : PX V O B x g ov s most W r (.panicked (refErr er)) w' := by
  rw [hr]
  exact ⟨rfl, hb⟩
set_option maxRecDepth 100000 in
set_option maxHeartbeats 8000000 in
theorem storedX_ok {W : World} {B x g : Nat} {ov : Value} {s : ByteArray} {a most : Nat} {out : List Int} (h : IsX W B x g ov s a most out) :
    Calls Try.prog 31 #[.pointer (some ⟨x, 0, none⟩)] W (PX (fun _ : List Int => .tuple #[]) (fun o => o) B x g ov s most W ((storedT most out).run s a)) := by
  have H := Aside0.mk h
  have c0 := h.c0
  have HC := Aside0.mk (r_align g s a W h.rd (by have := h.le; have := h.sz; omega))
  obtain ⟨al, hal⟩ : ∃ al, (a + 7) / 8 * 8 = al := ⟨_, rfl⟩
  have HRUN := Aside0.mk (run_stored most out s a al h.le hal)
  have h8 : al % 8 = 0 := by omega
  rw [hal] at HC
  have HAL := Aside0.mk (show al ≤ 8 * s.size by have := h.le; omega)
  clear h hal
  go_enter Try.func31, Try.ntmps31
  go_wp2_with fail
  refine HC.out.mono ?_
  rintro e w1 ⟨rfl, hr1, hf1⟩
  have H1 := Aside0.mk (H.out.read hr1 HAL.out hf1)
  have HF1 := Aside0.mk (XS_of_g (x := x) (ov := ov) hf1)
  have HC2 := Aside0.mk (bitsX_ok H1.out 16 (by decide))
  rw [run_bitsN s 16 al HAL.out] at HC2
  clear hr1 hf1 HC c0
  by_cases h16 : al + 16 ≤ 8 * s.size
  · rw [if_pos h16] at HC2 HRUN
    go_wp2_with fail
    refine HC2.out.mono ?_
    rintro e w2 ⟨rfl, ov2, hx2, hf2, ha2⟩
    have H2 := Aside0.mk hx2
    have HF2 := Aside0.mk (And.intro (XS_then HF1.out hf2 (AtB.refl _ _)) (AtB.trans (AtB.refl W ov) ha2 HF1.out.size))
    have HC3 := Aside0.mk (bitsX_ok H2.out 16 (by decide))
    rw [run_bitsN s 16 (al + 16) h16, show al + 16 + 16 = al + 32 by omega] at HC3
    have hnb := nb_lt (sbit s) al 16
    have hmb := nb_lt (sbit s) (al + 16) 16
    obtain ⟨n, hn⟩ : ∃ n, nb (sbit s) al 16 = n := ⟨_, rfl⟩
    obtain ⟨m, hm⟩ : ∃ m, nb (sbit s) (al + 16) 16 = m := ⟨_, rfl⟩
    simp only [hn, hm] at HC3 HRUN hnb hmb ⊢
    clear hn hm hx2 hf2 ha2 HC2 H1 HF1
    by_cases h32 : al + 32 ≤ 8 * s.size
    · rw [if_pos h32] at HC3 HRUN
      have u1 : IntKind.i64.wrap (65535 - (n : Int)) = 65535 - (n : Int) := IntWalk.i64_in _ (by omega)
      have hn1 : (n : Int) ≤ 65535 := by omega
      go_wp2_with fail
      refine HC3.out.mono ?_
      rintro e w3 ⟨rfl, ov3, hx3, hf3, ha3⟩
      have H3 := Aside0.mk hx3
      have HF3 := Aside0.mk (And.intro (XS_then HF2.out.1 hf3 HF2.out.2) (AtB.trans HF2.out.2 ha3 HF2.out.1.size))
      clear hx3 hf3 ha3 HC3 H2 HF2
      by_cases hmn : m + n = 65535
      · rw [if_pos hmn] at HRUN
        have b1 : decide ((m : Int) = 65535 - (n : Int)) = true := decide_eq_true (by omega)
        have b2 : ((m : Int) == 65535 - (n : Int)) = true := by rw [beq_iff_eq]; omega
        clear hmn
        go_wp2_with fail
        refine (right_ok w3).mono ?_
        rintro e w4 ⟨rfl, rfl⟩
        by_cases hlong : most < out.length + n
        · rw [if_pos hlong] at HRUN
          have HC5 := Aside0.mk (room_no H3.out n (by omega) hlong)
          clear hlong
          go_wp2_with fail
          refine HC5.out.mono ?_
          rintro e w5 ⟨rfl, hb5⟩
          exact ⟨rfl, PX_no HRUN.out ((HF3.out.1.below H.out.base H.out.ge).trans (hb5.mono H3.out.base))⟩
        · rw [if_neg hlong] at HRUN
          have HC5 := Aside0.mk (room_ok H3.out n (by omega) hlong)
          have HLG := Aside0.mk hlong
          clear hlong
          go_wp2_with fail
          refine HC5.out.mono ?_
          rintro e w5 ⟨rfl, hb5⟩
          have H5 := Aside0.mk (H3.out.below hb5)
          have HF5 := Aside0.mk (And.intro (HF3.out.1.add hb5) HF3.out.2)
          clear hb5 HC5 H3 HF3
          have c0 := H5.out.c0
          by_cases hfit : al / 8 + 4 + n ≤ s.size
          · rw [if_pos hfit] at HRUN
            have HC6 := Aside0.mk (r_bytes g s (al + 32) n w5 H5.out.rd H5.out.sz (by omega) (by omega))
            rw [show (al + 32) / 8 = al / 8 + 4 by omega] at HC6
            obtain ⟨t, ht⟩ : ∃ t, s.extract (al / 8 + 4) (al / 8 + 4 + n) = t := ⟨_, rfl⟩
            rw [ht] at HC6 HRUN
            have hts : t.size = n := by rw [← ht, ByteArray.size_extract]; omega
            have HTS := Aside0.mk hts
            have HFIT := Aside0.mk hfit
            have HE8 := Aside0.mk h8
            clear ht hfit hts h8
            go_wp2_with fail
            refine HC6.out.mono ?_
            rintro e w6 ⟨rfl, hr6, hf6⟩
            have H6 := Aside0.mk (H5.out.read hr6 (by have := HFIT.out; have := HE8.out; omega) hf6)
            have HF6 := Aside0.mk (And.intro (XS_then HF5.out.1 (XS_of_g (x := x) (ov := ov3) hf6) HF5.out.2) HF5.out.2)
            clear hr6 hf6 HC6 H5 HF5 c0
            have c2 := H6.out.c2
            go_wp2_with fail
            refine (must_ok _).mono ?_
            rintro e w7 ⟨rfl, rfl⟩
            have HLL := Aside0.mk (show out.length + t.size ≤ most by have := HLG.out; have := HTS.out; omega)
            go_wp2_with (at_builtin; go_must (refine app_str B rfl (.tmp 36) (.tmp 37) 33 9 5 rfl Try.underlying33 Try.underlying9 info5 ov3 out t rfl rfl (row_nums H6.out.ro) H6.out.base ?hl ?_); (case hl => (have := HLL.out; have := H6.out.ml; omega)); intro v1 w8 ho hg hat; have ho2 := nums_row ho; obtain ⟨zs, hzs⟩ : ∃ z, out ++ bytesOf t = z := ⟨_, rfl⟩; rw [hzs] at ho2; obtain ⟨A1, c1, e1⟩ := Kd.R_slice ho2; subst e1; have hgr := H6.out.grow ho2 hg hat (by rw [← hzs, List.length_append, bytesOf_length]; exact HLL.out); have cx := (hg.block x H6.out.lt.1 (fun e => H6.out.ne.2.1 e.symm)).trans H6.out.bx; have c2' := (blk_cell cx 2).trans (rfl : _ = some ov3); have f2' := blk_frozen cx 2; have HGR := Aside0.mk hgr; have HZ := Aside0.mk hzs; clear ho ho2 hg hat hzs hgr cx c2)
            go_end0
            rw [HRUN.out]
            refine ⟨rfl, _, ?_, XS_then HF6.out.1 HGR.out.2.1 HF6.out.2, AtB.trans HF6.out.2 HGR.out.2.2 HF6.out.1.size⟩
            have hX := HGR.out.1
            rw [← HZ.out] at hX ⊢
            exact hX
          · rw [if_neg hfit] at HRUN
            have HC6 := Aside0.mk (r_bytes_no g s (al + 32) n w5 H5.out.rd H5.out.sz (by omega) (by omega) h32 (by omega))
            clear hfit
            go_wp2_with fail
            refine HC6.out.mono ?_
            rintro e w6 ⟨rfl, hr6, hf6⟩
            have HB6 := Aside0.mk (hf6.below H5.out.base (fun k hk => by rw [hk]; exact H5.out.hg))
            clear hr6 hf6 HC6 c0
            go_wp2_with fail
            refine (must_no 5 (by decide) _).mono ?_
            rintro e w7 ⟨rfl, rfl⟩
            exact ⟨rfl, PX_no HRUN.out ((HF5.out.1.below H.out.base H.out.ge).trans HB6.out)⟩
      · rw [if_neg hmn] at HRUN
        have b1 : decide ((m : Int) = 65535 - (n : Int)) = false := decide_eq_false (by omega)
        have b2 : ((m : Int) == 65535 - (n : Int)) = false := by rw [beq_eq_false_iff_ne]; omega
        have b3 : ¬ (m : Int) = 65535 - (n : Int) := by omega
        clear hmn
        go_wp2_with fail
        refine (right_no w3).mono ?_
        rintro e w4 ⟨rfl, rfl⟩
        exact ⟨rfl, PX_no HRUN.out (HF3.out.1.below H.out.base H.out.ge)⟩
    · rw [if_neg h32] at HC3 HRUN
      go_wp2_with fail
      refine HC3.out.mono ?_
      rintro e w3 ⟨rfl, hb3⟩
      exact ⟨rfl, PX_no HRUN.out ((HF2.out.1.below H.out.base H.out.ge).trans hb3)⟩
  · rw [if_neg h16] at HC2 HRUN
    go_wp2_with fail
    refine HC2.out.mono ?_
    rintro e w2 ⟨rfl, hb2⟩
    exact ⟨rfl, PX_no HRUN.out ((HF1.out.below H.out.base H.out.ge).trans hb2)⟩
end Go.Proofs.Yteffjbjhkaobfaa.HI
