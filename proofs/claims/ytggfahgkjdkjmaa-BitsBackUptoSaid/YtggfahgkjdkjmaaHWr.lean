/- writes, walked: a call of a writer on both sides. -/
import Derived.Test.YtggfahgkjdkjmaaHAwake
import Derived.Test.YtggfahgkjdkjmaaHRd
import Derived.Test.YtggfahgkjdkjmaaFnx3
namespace Go.Proofs.Ytggfahgkjdkjmaa.HW
open Go.RowKit Go.Proofs.YtggfahgkjdkjmaaW.PrintWords Go.Proofs.YtggfahgkjdkjmaaW.PrintLast Go.Proofs.YtggfahgkjdkjmaaW.PrintMore Go.Proofs.Ytggfahgkjdkjmaa.MB Go.Proofs.Ytggfahgkjdkjmaa.Fn
attribute [local go_sem] max2_int min2_int max_two min_two max_three min_three max_four min_four   -- for this text's walks alone
def b2i (b : Bool) : Int := if b then 1 else 0
def ib (l : List Bool) : List Int := l.map b2i
theorem ib_length (l : List Bool) : (ib l).length = l.length := by simp [ib]
theorem ib_append (l m : List Bool) : ib (l ++ m) = ib l ++ ib m := by simp [ib]
abbrev RI (W : World) (B : Nat) (vl : Value) (xs : List Int) : Prop := Kd.R (Kd.int .i64) 3 W B (fun _ => True) vl xs
theorem infoI : (Try.prog.info? 3).map (fun i => (i.zero, i.size, i.bytes)) = some (some (.int .i64 0), 1, 8) := by kernel_rfl
/-- A writer, and a row of ints. -/
structure WR (w W : World) (B g : Nat) (v : Value) (l : List Bool) (vl : Value) (xs : List Int) : Prop where
  iw : IsW W B g v l
  ri : RI W B vl xs
  be : Below B w W
  ge : B ≤ W.heap.size
theorem WR.own_ne {w W : World} {B g : Nat} {v : Value} {l : List Bool} {vl : Value} {xs : List Int} (h : WR w W B g v l vl xs) : some g ≠ vl.ownBlock := Kd.R_ne h.ri h.iw.1 (by decide)
theorem WR.rows_ne {w W : World} {B g : Nat} {v : Value} {l : List Bool} {vl : Value} {xs : List Int} (h : WR w W B g v l vl xs) (k : Nat) (h1 : vl.ownBlock = some k) (h2 : v.ownBlock = some k) : False := by
  obtain ⟨_, _, bs, ho, _⟩ := h.iw
  obtain ⟨inner, hi⟩ := Kd.R_own h.ri
  rcases own_type_ne hi ho (by decide) with e | e
  · rw [e] at h1; cases h1
  · exact e (h1.trans h2.symm)
theorem WR.fr {w W W' : World} {B g : Nat} {v v' : Value} {l l' : List Bool} {vl : Value} {xs : List Int} (h : WR w W B g v l vl xs) (hi : IsW W' B g v' l') (hf : Fr (WS g v) W W') : WR w W' B g v' l' vl xs where
  iw := hi
  ri := by
    have h1 := Kd.R_tight rfl h.ri
    refine Kd.R_mono (Kd.R_step h1 (fun k hk hlt => hf.block k hlt (fun e => ?_))) (fun _ _ => trivial)
    rcases e with e | e
    · exact h.own_ne (by rw [← e]; exact hk)
    · exact h.rows_ne k hk.symm e
  be := h.be.trans (hf.below h.ge (fun k hk => by
    rcases hk with e | e
    · rw [e]; exact h.iw.2.1
    · exact (h.iw.row_lt k e).1))
  ge := Nat.le_trans h.ge hf.size
theorem WR.below {w W W' : World} {B g : Nat} {v : Value} {l : List Bool} {vl : Value} {xs : List Int} (h : WR w W B g v l vl xs) (hb : Below W.heap.size W W') : WR w W' B g v l vl xs := h.fr (h.iw.below hb) (Fr.of_below_all hb _)
theorem WR.app {w W W' : World} {B g : Nat} {v : Value} {l : List Bool} {vl vl' : Value} {xs xs' : List Int} (h : WR w W B g v l vl xs) (hr : RI W' B vl' xs') (hg : W.grownBy W' vl.ownBlock) (hb : Below B w W') : WR w W' B g v l vl' xs' where
  iw := h.iw.keep (Fr.grown (S := fun k => vl.ownBlock = some k) hg (Fr.refl _ _) (fun k hk => Or.inl hk)) (fun e => h.own_ne e.symm) (fun k hk e => h.rows_ne k e hk)
  ri := hr
  be := hb
  ge := Nat.le_trans h.ge hg.size
/-- A call's block. -/
def OpBlk (W : World) (q : Nat) (o : S44) : Prop := W.heap[q]? = some (.cells #[.int .i64 o.f0, .int .i64 o.f1, .int .i64 o.f2, .string o.f3] 44 (0, 0))
theorem OpBlk.fr {W W' : World} {B g q : Nat} {v : Value} {l : List Bool} {o : S44} (h : OpBlk W q o) (hi : IsW W B g v l) (hf : Fr (WS g v) W W') : OpBlk W' q o :=
  hf.blk h (fun e => by
    rcases e with e | e
    · rw [e] at h; exact blk_ne h hi.1 (by decide) rfl
    · obtain ⟨_, _, bs, ho, _⟩ := hi
      exact own_ne ho h (by decide) e.symm)
theorem bit1 (x i : Nat) (hx : x < 2 ^ 63) : Go.bits .and .i64 ((x : Int) / 2 ^ i) 1 = b2i (x.testBit i) := by
  have e : (x : Int) / 2 ^ i = ((x / 2 ^ i : Nat) : Int) := by simp
  rw [e, show (1 : Int) = ((1 : Nat) : Int) from rfl, and_i64 _ 1 (Nat.lt_of_le_of_lt (Nat.div_le_self _ _) hx) (by decide)]
  unfold b2i
  rw [Nat.and_one_is_mod, Nat.testBit_eq_decide_div_mod_eq]
  rcases Nat.mod_two_eq_zero_or_one (x / 2 ^ i) with h | h <;> rw [h] <;> rfl
/-- What a call does to bits. -/
def wkind (o : S44) (l : List Bool) : List Bool :=
  if o.f0 = 1 then (if o.f2 < 0 ∨ 57 < o.f2 ∨ o.f1 < 0 ∨ 0 < o.f1 / 2 ^ o.f2.toNat then l else l ++ bitsOf o.f1.toNat o.f2.toNat)
  else if o.f0 = 2 then l ++ List.replicate (pad l.length) false
  else if o.f0 = 3 then (if l.length % 8 ≠ 0 then l else l ++ bitsS o.f3) else l
theorem bitsOf_succ (x i : Nat) : bitsOf x (i + 1) = bitsOf x i ++ [x.testBit i] := by simp [bitsOf, List.range_succ]
theorem ib_succ (l : List Bool) (b : Bool) : ib (l ++ [b]) = ib l ++ [b2i b] := by simp [ib]
set_option maxHeartbeats 4000000 in
set_option maxRecDepth 100000 in
theorem writes_1 (w0 : World) (B g : Nat) (v : Value) (l : List Bool) (vl : Value) (x m : Nat) (t : ByteArray) (w : World) (h : WR w0 w B g v l vl (ib l)) (hl : l.length ≤ 100000000000) (hm : m ≤ 57) (hx : x < 2 ^ m) :
    Calls Try.prog 23 #[.pointer (some ⟨g, 0, none⟩), vl, .agg #[.int .i64 1, .int .i64 x, .int .i64 m, .string t]] w fun e w' => ∃ v' vl', e = .returned (.tuple #[vl', .bool true]) ∧ WR w0 w' B g v' (l ++ bitsOf x m) vl' (ib (l ++ bitsOf x m)) := by
  have hu := Try.underlying44
  have hx63 : x < 2 ^ 63 := Nat.lt_of_lt_of_le hx (Nat.pow_le_pow_right (by decide) (by omega))
  have b0 : decide ((m : Int) < 0) = false := by simp
  have b1 : decide (57 < (m : Int)) = false := by simp; omega
  have b2 : decide ((x : Int) < 0) = false := by simp
  have b3 : decide (0 < (x : Int) / 2 ^ m) = false := by
    have : (x : Int) / 2 ^ m = ((x / 2 ^ m : Nat) : Int) := by simp
    rw [this, Nat.div_eq_of_lt hx]; rfl
  have HM := Aside0.mk hm
  have HX := Aside0.mk hx
  have HX63 := Aside0.mk hx63
  clear hx hx63
  have H := Aside0.mk h
  have HL := Aside0.mk hl
  obtain ⟨A1, c1, e1⟩ := Kd.R_slice h.ri
  subst e1
  have h1_ := h
  clear h hl
  go_enter Try.func23, Try.ntmps23
  go_wp2_with fail
  have HI := Aside0.mk (h1_.iw.below (below_alloc (Below.refl _ _) (.cells #[.int .i64 1, .int .i64 x, .int .i64 m, .string t] 44)))
  have HW := Aside0.mk (h1_.below (below_alloc (Below.refl _ _) (.cells #[.int .i64 1, .int .i64 x, .int .i64 m, .string t] 44)))
  have HQ := Aside0.mk (show OpBlk (w.alloc (.cells #[.int .i64 1, .int .i64 x, .int .i64 m, .string t] 44)) w.heap.size ⟨1, x, m, t⟩ from heap_alloc_new w _)
  obtain ⟨q, hq⟩ : ∃ q, w.heap.size = q := ⟨_, rfl⟩
  rw [hq] at HQ
  rw [hq]
  generalize w.alloc (.cells #[.int .i64 1, .int .i64 x, .int .i64 m, .string t] 44) = w2 at HI HW HQ ⊢
  clear hq h1_
  refine (bits_ok B g v l x m _ HI.out HM.out HX.out (by have := HL.out; omega) HW.out.ge).mono ?_
  rintro e w3 ⟨rfl, v3, hI, hF, hA⟩
  have HQ3 := Aside0.mk (HQ.out.fr HI.out hF)
  have HW3 := Aside0.mk (HW.out.fr hI hF)
  clear hI hF hA HI HW HQ
  have d0 := (blk_cell HQ3.out 0).trans (rfl : _ = some (Value.int .i64 1))
  have d1 := (blk_cell HQ3.out 1).trans (rfl : _ = some (Value.int .i64 x))
  have d2 := (blk_cell HQ3.out 2).trans (rfl : _ = some (Value.int .i64 m))
  have d3 := (blk_cell HQ3.out 3).trans (rfl : _ = some (Value.string t))
  go_wp2_with fail
  go_loopw [1, 9] (fun v1 v9 wr => ∃ i : Nat, v9 = .int .i64 i ∧ i ≤ m ∧ Aside0 (WR w0 wr B g v3 (l ++ bitsOf x m) v1 (ib (l ++ bitsOf x i))) ∧ Aside0 (OpBlk wr q ⟨1, x, m, t⟩)) (fun _ v9 _ => m - (intOf v9).toNat)
  case atStart => exact ⟨0, rfl, Nat.zero_le _, ⟨by have := HW3.out; simpa [bitsOf, ib] using this⟩, HQ3⟩
  case round =>
    clear HW3 HQ3 d0 d1 d2 d3
    obtain ⟨i, rfl, hi, HW3, HQ3⟩ := hrel
    obtain ⟨A4, c4, e4⟩ := Kd.R_slice HW3.out.ri
    subst e4
    have d0 := (blk_cell HQ3.out 0).trans (rfl : _ = some (Value.int .i64 1))
    have d1 := (blk_cell HQ3.out 1).trans (rfl : _ = some (Value.int .i64 x))
    have d2 := (blk_cell HQ3.out 2).trans (rfl : _ = some (Value.int .i64 m))
    have d3 := (blk_cell HQ3.out 3).trans (rfl : _ = some (Value.string t))
    by_cases hlt : i < m
    · have hb1 : decide ((i : Int) < (m : Int)) = true := by simp; omega
      have hi57 : i ≤ 57 := by omega
      obtain ⟨xs5, hxs5⟩ : ∃ y, ib (l ++ bitsOf x i) ++ [Go.bits .and .i64 ((x : Int) / 2 ^ i) 1] = y := ⟨_, rfl⟩
      have HXS := Aside0.mk hxs5
      have HXE := Aside0.mk (show xs5 = ib (l ++ bitsOf x (i + 1)) by rw [← hxs5, bit1 x i HX63.out, ← ib_succ, List.append_assoc, ← bitsOf_succ])
      clear hxs5
      go_wp2_with ((with_reducible refine gate_builtin (b := .append) (xs := #[.tmp 52, .tmp 58]) rfl ?_); at_builtin; refine Kd.R_append (Kd.int .i64) (w0 := w0) B rfl (.tmp 52) (.tmp 58) 42 3 (.int .i64 0) 8 rfl Try.underlying42 infoI rfl (by decide) (by omega) (.slice A4 (ib (l ++ bitsOf x i)).length c4) _ _ [.int .i64 _] (fun _ => True) (fun _ => False) rfl (by first | (go_simp; done) | (go_simp; rfl)) rfl (fun _ hk => hk.elim) (fun _ _ => trivial) HW3.out.ri HW3.out.be HW3.out.ge ?aL ?_; (case aL => rw [ib_length, List.length_append, bitsOf_length]; have := HL.out; omega); intro v5 w5 ho hb hg hat; rw [HXS.out] at ho; have HW5 := Aside0.mk (HW3.out.app ho hg hb); have HQ5 := Aside0.mk (show OpBlk w5 q _ from blk_grown HQ3.out hg (Kd.R_ne HW3.out.ri HQ3.out (by decide))); clear ho hb hg hat; obtain ⟨A5, c5, e5⟩ := Kd.R_slice HW5.out.ri; subst e5)
      go_roundw
      case rel => exact ⟨i + 1, by simp, hlt, ⟨by have h5 := HW5.out; have h6 := HXE.out; subst h6; exact h5⟩, HQ5⟩
      case measure => simp [intOf]; omega
    · have hie : i = m := by omega
      subst hie
      have hb1 : decide ((i : Int) < (i : Int)) = false := by simp
      go_wp2_with fail
      go_ret2
      exact ⟨v3, _, rfl, HW3.out⟩
set_option maxHeartbeats 4000000 in
set_option maxRecDepth 100000 in
theorem writes_1b (w0 : World) (B g : Nat) (v : Value) (l : List Bool) (vl : Value) (x m : Int) (t : ByteArray) (w : World) (h : WR w0 w B g v l vl (ib l)) (hb : ¬ (0 ≤ m ∧ m ≤ 57 ∧ 0 ≤ x ∧ x / 2 ^ m.toNat = 0)) :
    Calls Try.prog 23 #[.pointer (some ⟨g, 0, none⟩), vl, .agg #[.int .i64 1, .int .i64 x, .int .i64 m, .string t]] w fun e w' => ∃ v' vl', e = .returned (.tuple #[vl', .bool true]) ∧ WR w0 w' B g v' l vl' (ib l) := by
  have hu := Try.underlying44
  have HBD := Aside0.mk hb
  have H := Aside0.mk h
  obtain ⟨A1, c1, e1⟩ := Kd.R_slice h.ri
  subst e1
  have h1_ := h
  clear h hb
  by_cases c1 : m < 0
  · have b1 : decide (m < 0) = true := by simpa using c1
    clear c1
    go_enter Try.func23, Try.ntmps23
    go_wp2_with fail
    have HI := Aside0.mk (h1_.iw.below (below_alloc (Below.refl _ _) (.cells #[.int .i64 1, .int .i64 x, .int .i64 m, .string t] 44)))
    have HW := Aside0.mk (h1_.below (below_alloc (Below.refl _ _) (.cells #[.int .i64 1, .int .i64 x, .int .i64 m, .string t] 44)))
    have HQ := Aside0.mk (show OpBlk (w.alloc (.cells #[.int .i64 1, .int .i64 x, .int .i64 m, .string t] 44)) w.heap.size ⟨1, x, m, t⟩ from heap_alloc_new w _)
    obtain ⟨q, hq⟩ : ∃ q, w.heap.size = q := ⟨_, rfl⟩
    rw [hq] at HQ
    rw [hq]
    generalize w.alloc (.cells #[.int .i64 1, .int .i64 x, .int .i64 m, .string t] 44) = w2 at HI HW HQ ⊢
    clear hq h1_
    refine (bits_bad g v l.length x m _ HI.out.1 HBD.out).mono ?_
    rintro e w3 ⟨rfl, rfl⟩
    have d0 := (blk_cell HQ.out 0).trans (rfl : _ = some (Value.int .i64 1))
    have d1 := (blk_cell HQ.out 1).trans (rfl : _ = some (Value.int .i64 x))
    have d2 := (blk_cell HQ.out 2).trans (rfl : _ = some (Value.int .i64 m))
    have d3 := (blk_cell HQ.out 3).trans (rfl : _ = some (Value.string t))
    go_wp2_with fail
    go_ret2
    exact ⟨v, _, rfl, HW.out⟩
  · have b1 : decide (m < 0) = false := by simp; omega
    by_cases c2 : 57 < m
    · have b2 : decide (57 < m) = true := by simpa using c2
      clear c1 c2
      go_enter Try.func23, Try.ntmps23
      go_wp2_with fail
      have HI := Aside0.mk (h1_.iw.below (below_alloc (Below.refl _ _) (.cells #[.int .i64 1, .int .i64 x, .int .i64 m, .string t] 44)))
      have HW := Aside0.mk (h1_.below (below_alloc (Below.refl _ _) (.cells #[.int .i64 1, .int .i64 x, .int .i64 m, .string t] 44)))
      have HQ := Aside0.mk (show OpBlk (w.alloc (.cells #[.int .i64 1, .int .i64 x, .int .i64 m, .string t] 44)) w.heap.size ⟨1, x, m, t⟩ from heap_alloc_new w _)
      obtain ⟨q, hq⟩ : ∃ q, w.heap.size = q := ⟨_, rfl⟩
      rw [hq] at HQ
      rw [hq]
      generalize w.alloc (.cells #[.int .i64 1, .int .i64 x, .int .i64 m, .string t] 44) = w2 at HI HW HQ ⊢
      clear hq h1_
      refine (bits_bad g v l.length x m _ HI.out.1 HBD.out).mono ?_
      rintro e w3 ⟨rfl, rfl⟩
      have d0 := (blk_cell HQ.out 0).trans (rfl : _ = some (Value.int .i64 1))
      have d1 := (blk_cell HQ.out 1).trans (rfl : _ = some (Value.int .i64 x))
      have d2 := (blk_cell HQ.out 2).trans (rfl : _ = some (Value.int .i64 m))
      have d3 := (blk_cell HQ.out 3).trans (rfl : _ = some (Value.string t))
      go_wp2_with fail
      go_ret2
      exact ⟨v, _, rfl, HW.out⟩
    · have b2 : decide (57 < m) = false := by simp; omega
      by_cases c3 : x < 0
      · have b3 : decide (x < 0) = true := by simpa using c3
        clear c1 c2 c3
        go_enter Try.func23, Try.ntmps23
        go_wp2_with fail
        have HI := Aside0.mk (h1_.iw.below (below_alloc (Below.refl _ _) (.cells #[.int .i64 1, .int .i64 x, .int .i64 m, .string t] 44)))
        have HW := Aside0.mk (h1_.below (below_alloc (Below.refl _ _) (.cells #[.int .i64 1, .int .i64 x, .int .i64 m, .string t] 44)))
        have HQ := Aside0.mk (show OpBlk (w.alloc (.cells #[.int .i64 1, .int .i64 x, .int .i64 m, .string t] 44)) w.heap.size ⟨1, x, m, t⟩ from heap_alloc_new w _)
        obtain ⟨q, hq⟩ : ∃ q, w.heap.size = q := ⟨_, rfl⟩
        rw [hq] at HQ
        rw [hq]
        generalize w.alloc (.cells #[.int .i64 1, .int .i64 x, .int .i64 m, .string t] 44) = w2 at HI HW HQ ⊢
        clear hq h1_
        refine (bits_bad g v l.length x m _ HI.out.1 HBD.out).mono ?_
        rintro e w3 ⟨rfl, rfl⟩
        have d0 := (blk_cell HQ.out 0).trans (rfl : _ = some (Value.int .i64 1))
        have d1 := (blk_cell HQ.out 1).trans (rfl : _ = some (Value.int .i64 x))
        have d2 := (blk_cell HQ.out 2).trans (rfl : _ = some (Value.int .i64 m))
        have d3 := (blk_cell HQ.out 3).trans (rfl : _ = some (Value.string t))
        go_wp2_with fail
        go_ret2
        exact ⟨v, _, rfl, HW.out⟩
      · have b3 : decide (x < 0) = false := by simp; omega
        obtain ⟨n, rfl⟩ : ∃ n : Nat, m = n := ⟨m.toNat, by omega⟩
        obtain ⟨y, rfl⟩ : ∃ y : Nat, x = y := ⟨x.toNat, by omega⟩
        have hn57 : n ≤ 57 := by omega
        have b4 : decide (0 < (y : Int) / 2 ^ n) = true := by
          have e : (y : Int) / 2 ^ n = ((y / 2 ^ n : Nat) : Int) := by simp
          have h1 := HBD.out
          rw [Int.toNat_natCast, e] at h1
          rw [e, decide_eq_true_iff]
          rcases Nat.eq_zero_or_pos (y / 2 ^ n) with h0 | h0
          · exact absurd ⟨by omega, by omega, by omega, by rw [h0]; rfl⟩ h1
          · exact_mod_cast h0
        clear c1 c2 c3
        go_enter Try.func23, Try.ntmps23
        go_wp2_with fail
        have HI := Aside0.mk (h1_.iw.below (below_alloc (Below.refl _ _) (.cells #[.int .i64 1, .int .i64 y, .int .i64 n, .string t] 44)))
        have HW := Aside0.mk (h1_.below (below_alloc (Below.refl _ _) (.cells #[.int .i64 1, .int .i64 y, .int .i64 n, .string t] 44)))
        have HQ := Aside0.mk (show OpBlk (w.alloc (.cells #[.int .i64 1, .int .i64 y, .int .i64 n, .string t] 44)) w.heap.size ⟨1, y, n, t⟩ from heap_alloc_new w _)
        obtain ⟨q, hq⟩ : ∃ q, w.heap.size = q := ⟨_, rfl⟩
        rw [hq] at HQ
        rw [hq]
        generalize w.alloc (.cells #[.int .i64 1, .int .i64 y, .int .i64 n, .string t] 44) = w2 at HI HW HQ ⊢
        clear hq h1_
        refine (bits_bad g v l.length y n _ HI.out.1 HBD.out).mono ?_
        rintro e w3 ⟨rfl, rfl⟩
        have d0 := (blk_cell HQ.out 0).trans (rfl : _ = some (Value.int .i64 1))
        have d1 := (blk_cell HQ.out 1).trans (rfl : _ = some (Value.int .i64 y))
        have d2 := (blk_cell HQ.out 2).trans (rfl : _ = some (Value.int .i64 n))
        have d3 := (blk_cell HQ.out 3).trans (rfl : _ = some (Value.string t))
        go_wp2_with fail
        go_ret2
        exact ⟨v, _, rfl, HW.out⟩
def slen : Value → Nat
  | .slice _ n _ => n
  | _ => 0
theorem slen_slice (A : Option Addr) (n c : Nat) : slen (.slice A n c) = n := rfl
theorem rep_succ (l : List Bool) (j : Nat) : (l ++ List.replicate j false) ++ [false] = l ++ List.replicate (j + 1) false := by rw [List.append_assoc, ← List.replicate_succ']
set_option maxHeartbeats 4000000 in
set_option maxRecDepth 100000 in
theorem writes_2 (w0 : World) (B g : Nat) (v : Value) (l : List Bool) (vl : Value) (x m : Int) (t : ByteArray) (w : World) (h : WR w0 w B g v l vl (ib l)) (hl : l.length ≤ 100000000000)  :
    Calls Try.prog 23 #[.pointer (some ⟨g, 0, none⟩), vl, .agg #[.int .i64 2, .int .i64 x, .int .i64 m, .string t]] w fun e w' => ∃ v' vl', e = .returned (.tuple #[vl', .bool true]) ∧ WR w0 w' B g v' (l ++ List.replicate (pad l.length) false) vl' (ib (l ++ List.replicate (pad l.length) false)) := by
  have hu := Try.underlying44
  have H := Aside0.mk h
  have HL := Aside0.mk hl
  obtain ⟨A1, c1, e1⟩ := Kd.R_slice h.ri
  subst e1
  have h1_ := h
  clear h hl
  go_enter Try.func23, Try.ntmps23
  go_wp2_with fail
  have HI := Aside0.mk (h1_.iw.below (below_alloc (Below.refl _ _) (.cells #[.int .i64 2, .int .i64 x, .int .i64 m, .string t] 44)))
  have HW := Aside0.mk (h1_.below (below_alloc (Below.refl _ _) (.cells #[.int .i64 2, .int .i64 x, .int .i64 m, .string t] 44)))
  have HQ := Aside0.mk (show OpBlk (w.alloc (.cells #[.int .i64 2, .int .i64 x, .int .i64 m, .string t] 44)) w.heap.size ⟨2, x, m, t⟩ from heap_alloc_new w _)
  obtain ⟨q, hq⟩ : ∃ q, w.heap.size = q := ⟨_, rfl⟩
  rw [hq] at HQ
  rw [hq]
  generalize w.alloc (.cells #[.int .i64 2, .int .i64 x, .int .i64 m, .string t] 44) = w2 at HI HW HQ ⊢
  clear hq h1_
  have HP := Aside0.mk (pad_len l.length)
  obtain ⟨pl, hpl⟩ : ∃ y, pad l.length = y := ⟨_, rfl⟩
  have HPL := Aside0.mk hpl
  rw [hpl] at HP
  clear hpl HI
  go_loopw [1] (fun v1 wr => ∃ (j : Nat) (xs : List Int), j ≤ pl ∧ Aside0 (xs = ib (l ++ List.replicate j false)) ∧ Aside0 (∃ A c, v1 = .slice A xs.length c) ∧ Aside0 (WR w0 wr B g v l v1 xs) ∧ Aside0 (OpBlk wr q ⟨2, x, m, t⟩)) (fun v1 _ => l.length + pl - slen v1)
  case atStart => exact ⟨0, ib l, Nat.zero_le _, ⟨by simp⟩, ⟨_, _, rfl⟩, HW, HQ⟩
  case round =>
    clear HW HQ
    obtain ⟨j, xs, hj, HX, ⟨A4, c4, rfl⟩, HW3, HQ3⟩ := hrel
    have hxl : xs.length = l.length + j := by rw [HX.out, ib_length, List.length_append, List.length_replicate]
    have HXL := Aside0.mk hxl
    have d0 := (blk_cell HQ3.out 0).trans (rfl : _ = some (Value.int .i64 2))
    have d1 := (blk_cell HQ3.out 1).trans (rfl : _ = some (Value.int .i64 x))
    have d2 := (blk_cell HQ3.out 2).trans (rfl : _ = some (Value.int .i64 m))
    have d3 := (blk_cell HQ3.out 3).trans (rfl : _ = some (Value.string t))
    have htm : Int.tmod (xs.length : Int) 8 = ((xs.length % 8 : Nat) : Int) := tmod_cast _
    by_cases hlt : j < pl
    · have hb1 : ((xs.length : Int) % 8 != 0) = true := by
        rw [bne_iff_ne]
        have := HP.out
        have h9 : pl ≤ 7 := by have := HPL.out; unfold pad at this; omega
        omega
      have hb2 : ((xs.length : Int) % 8 == 0) = false := by
        rw [bne_iff_ne] at hb1
        rw [beq_eq_false_iff_ne]
        exact hb1
      obtain ⟨xs5, hxs5⟩ : ∃ y, xs ++ [0] = y := ⟨_, rfl⟩
      have HXS := Aside0.mk hxs5
      have HXE := Aside0.mk (show xs5 = ib (l ++ List.replicate (j + 1) false) by rw [← hxs5, HX.out, ← rep_succ, ib_succ]; rfl)
      clear hxs5 htm hxl
      go_wp2_with ((with_reducible refine gate_builtin (b := .append) (xs := #[.tmp 69, .tmp 70]) rfl ?_); at_builtin; refine Kd.R_append (Kd.int .i64) (w0 := w0) B rfl (.tmp 69) (.tmp 70) 42 3 (.int .i64 0) 8 rfl Try.underlying42 infoI rfl (by decide) (by omega) (.slice A4 xs.length c4) _ _ [.int .i64 _] (fun _ => True) (fun _ => False) rfl (by first | (go_simp; done) | (go_simp; rfl)) rfl (fun _ hk => hk.elim) (fun _ _ => trivial) HW3.out.ri HW3.out.be HW3.out.ge ?aL ?_; (case aL => rw [HXL.out]; have := HL.out; have := HP.out; omega); intro v5 w5 ho hb hg hat; rw [HXS.out] at ho; have HW5 := Aside0.mk (HW3.out.app ho hg hb); have HQ5 := Aside0.mk (show OpBlk w5 q _ from blk_grown HQ3.out hg (Kd.R_ne HW3.out.ri HQ3.out (by decide))); clear ho hb hg hat; obtain ⟨A5, c5, e5⟩ := Kd.R_slice HW5.out.ri; subst e5)
      go_roundw
      case rel => exact ⟨j + 1, xs5, hlt, HXE, ⟨_, _, rfl⟩, HW5, HQ5⟩
      case measure =>
        have h6 := congrArg List.length HXE.out
        rw [ib_length, List.length_append, List.length_replicate] at h6
        have h7 := HXL.out
        rw [slen_slice, slen_slice]
        omega
    · have hje : j = pl := by omega
      subst hje
      have hb1 : ((xs.length : Int) % 8 != 0) = false := by
        rw [bne_eq_false_iff_eq]
        have := HP.out
        omega
      have hb2 : ((xs.length : Int) % 8 == 0) = true := by
        rw [bne_eq_false_iff_eq] at hb1
        rw [beq_iff_eq]
        exact hb1
      clear htm hxl
      go_wp2_with fail
      refine (w_align B g v l _ HW3.out.iw (by have := HL.out; omega)).mono ?_
      rintro e w3 ⟨rfl, hI, hF⟩
      have HW4 := Aside0.mk (HW3.out.fr hI hF)
      clear hI hF
      go_wp2_with fail
      go_ret2
      exact ⟨v, .slice A4 xs.length c4, rfl, by have h8 := HW4.out; rw [HPL.out] at h8 ⊢; rw [← HX.out]; exact h8⟩
theorem bit_f (t : ByteArray) (i : Nat) (h : i < 8 * t.size) (hs : t.size ≤ 100000000000) : postroadref01_Bit.f t (i : Int) = some (b2i (sbit t i)) := by
  have hw : wrap64 (Int.tdiv (i : Int) 8) = ((i / 8 : Nat) : Int) := by rw [tdiv_cast, wrap64_id _ (by omega) (by omega)]
  obtain ⟨b, hb, hb8⟩ := bt_nat t ((i / 8 : Nat) : Int)
  have hwc : wrap64 ((b / 2 ^ (i % 8) : Nat) : Int) = ((b / 2 ^ (i % 8) : Nat) : Int) := by
    have hc := Nat.div_le_self b (2 ^ (i % 8))
    generalize b / 2 ^ (i % 8) = c at hc ⊢
    exact wrap64_id _ (by omega) (by omega)
  unfold postroadref01_Bit.f
  rw [hw, tmod_cast, if_pos (by omega), if_pos (by omega), if_pos (by omega), hb, shr_u8 b _ (by omega), hwc]
  have e := bit1 b (i % 8) (by omega)
  rw [show (b : Int) / 2 ^ (i % 8) = ((b / 2 ^ (i % 8) : Nat) : Int) from by simp] at e
  rw [e]
  unfold sbit
  rw [hb]
  rfl
theorem bitsS_take (t : ByteArray) (i : Nat) (h : i < 8 * t.size) : (bitsS t).take (i + 1) = (bitsS t).take i ++ [sbit t i] := by
  rw [List.take_add_one]
  congr 1
  unfold bitsS
  rw [List.getElem?_map, List.getElem?_range h]
  rfl
set_option maxHeartbeats 4000000 in
set_option maxRecDepth 100000 in
theorem writes_3 (w0 : World) (B g : Nat) (v : Value) (l : List Bool) (vl : Value) (x m : Int) (t : ByteArray) (w : World) (h : WR w0 w B g v l vl (ib l)) (hl : l.length ≤ 100000000000) (h8 : l.length % 8 = 0) (ht : t.size ≤ 100000000) :
    Calls Try.prog 23 #[.pointer (some ⟨g, 0, none⟩), vl, .agg #[.int .i64 3, .int .i64 x, .int .i64 m, .string t]] w fun e w' => ∃ v' vl', e = .returned (.tuple #[vl', .bool true]) ∧ WR w0 w' B g v' (l ++ bitsS t) vl' (ib (l ++ bitsS t)) := by
  have hu := Try.underlying44
  have H := Aside0.mk h
  have HL := Aside0.mk hl
  obtain ⟨A1, c1, e1⟩ := Kd.R_slice h.ri
  subst e1
  have h1_ := h
  have H8 := Aside0.mk h8
  have HT := Aside0.mk ht
  clear h hl h8 ht
  go_enter Try.func23, Try.ntmps23
  go_wp2_with fail
  have HI := Aside0.mk (h1_.iw.below (below_alloc (Below.refl _ _) (.cells #[.int .i64 3, .int .i64 x, .int .i64 m, .string t] 44)))
  have HW := Aside0.mk (h1_.below (below_alloc (Below.refl _ _) (.cells #[.int .i64 3, .int .i64 x, .int .i64 m, .string t] 44)))
  have HQ := Aside0.mk (show OpBlk (w.alloc (.cells #[.int .i64 3, .int .i64 x, .int .i64 m, .string t] 44)) w.heap.size ⟨3, x, m, t⟩ from heap_alloc_new w _)
  obtain ⟨q, hq⟩ : ∃ q, w.heap.size = q := ⟨_, rfl⟩
  rw [hq] at HQ
  rw [hq]
  generalize w.alloc (.cells #[.int .i64 3, .int .i64 x, .int .i64 m, .string t] 44) = w2 at HI HW HQ ⊢
  clear hq h1_
  refine (w_bytes B g v l t _ HI.out H8.out (by have := HL.out; omega) (by have := HT.out; omega) HW.out.ge).mono ?_
  rintro e w3 ⟨rfl, v3, hI, hF, hA⟩
  have HQ3 := Aside0.mk (HQ.out.fr HI.out hF)
  have HW3 := Aside0.mk (HW.out.fr hI hF)
  clear hI hF hA HI HW HQ
  have d0 := (blk_cell HQ3.out 0).trans (rfl : _ = some (Value.int .i64 3))
  have d1 := (blk_cell HQ3.out 1).trans (rfl : _ = some (Value.int .i64 x))
  have d2 := (blk_cell HQ3.out 2).trans (rfl : _ = some (Value.int .i64 m))
  have d3 := (blk_cell HQ3.out 3).trans (rfl : _ = some (Value.string t))
  have hm1 : ((ib l).length : Int) % 8 = 0 := by rw [ib_length]; have := H8.out; omega
  have hm2 : (((ib l).length : Int) % 8 != 0) = false := by rw [hm1]; rfl
  go_wp2_with fail
  go_loopw [1, 11] (fun v1 v9 wr => ∃ i : Nat, v9 = .int .i64 i ∧ i ≤ 8 * t.size ∧ Aside0 (WR w0 wr B g v3 (l ++ bitsS t) v1 (ib (l ++ (bitsS t).take i))) ∧ Aside0 (OpBlk wr q ⟨3, x, m, t⟩)) (fun _ v9 _ => 8 * t.size - (intOf v9).toNat)
  case atStart => exact ⟨0, rfl, Nat.zero_le _, ⟨by have := HW3.out; simpa using this⟩, HQ3⟩
  case round =>
    clear HW3 HQ3 d0 d1 d2 d3 hm1 hm2
    obtain ⟨i, rfl, hi, HW3, HQ3⟩ := hrel
    obtain ⟨xs, hxs⟩ : ∃ y, ib (l ++ (bitsS t).take i) = y := ⟨_, rfl⟩
    rw [hxs] at HW3
    have HX := Aside0.mk hxs
    have HXL := Aside0.mk (show xs.length = l.length + i by rw [← hxs, ib_length, List.length_append, List.length_take, bitsS_length]; omega)
    clear hxs
    obtain ⟨A4, c4, e4⟩ := Kd.R_slice HW3.out.ri
    subst e4
    have d0 := (blk_cell HQ3.out 0).trans (rfl : _ = some (Value.int .i64 3))
    have d1 := (blk_cell HQ3.out 1).trans (rfl : _ = some (Value.int .i64 x))
    have d2 := (blk_cell HQ3.out 2).trans (rfl : _ = some (Value.int .i64 m))
    have d3 := (blk_cell HQ3.out 3).trans (rfl : _ = some (Value.string t))
    have hw8 : wrap64 (8 * (t.size : Int)) = 8 * (t.size : Int) := by have := HT.out; exact wrap64_id _ (by omega) (by omega)
    by_cases hlt : i < 8 * t.size
    · have hb1 : decide ((i : Int) < 8 * (t.size : Int)) = true := by simp; omega
      have hi57 : i ≤ 1000000000 := by have := HT.out; omega
      have hbf := bit_f t i hlt (by have := HT.out; omega)
      have HBF := Aside0.mk hbf
      obtain ⟨xs5, hxs5⟩ : ∃ y, xs ++ [b2i (sbit t i)] = y := ⟨_, rfl⟩
      have HXS := Aside0.mk hxs5
      have HXE := Aside0.mk (show ib (l ++ (bitsS t).take (i + 1)) = xs5 by rw [← hxs5, ← HX.out, ← ib_succ, List.append_assoc, ← bitsS_take t i hlt])
      clear hxs5 hbf
      go_wp2_with fail
      refine (postroadref01_Bit.calls t i _ _ HBF.out).mono ?_
      rintro e w' ⟨rfl, ⟨nd, rfl⟩⟩
      have hbn : Below wr.heap.size wr (wr.drewN nd) := pw_below_drewN (Below.refl _ _) nd
      have HQ4 := Aside0.mk (HQ3.out.fr HW3.out.iw (Fr.of_below_all hbn _))
      have HW4 := Aside0.mk (HW3.out.below hbn)
      clear hbn d0 d1 d2 d3 HQ3 HW3
      generalize wr.drewN nd = wr4 at HQ4 HW4 ⊢
      go_wp2_with ((with_reducible refine gate_builtin (b := .append) (xs := #[.tmp 97, .tmp 102]) rfl ?_); at_builtin; refine Kd.R_append (Kd.int .i64) (w0 := w0) B rfl (.tmp 97) (.tmp 102) 42 3 (.int .i64 0) 8 rfl Try.underlying42 infoI rfl (by decide) (by omega) (.slice A4 xs.length c4) _ _ [.int .i64 _] (fun _ => True) (fun _ => False) rfl (by first | (go_simp; done) | (go_simp; rfl)) rfl (fun _ hk => hk.elim) (fun _ _ => trivial) HW4.out.ri HW4.out.be HW4.out.ge ?aL ?_; (case aL => rw [HXL.out]; have := HL.out; have := HT.out; omega); intro v5 w5 ho hb hg hat; rw [HXS.out] at ho; have HW5 := Aside0.mk (HW4.out.app ho hg hb); have HQ5 := Aside0.mk (show OpBlk w5 q _ from blk_grown HQ4.out hg (Kd.R_ne HW4.out.ri HQ4.out (by decide))); clear ho hb hg hat; obtain ⟨A5, c5, e5⟩ := Kd.R_slice HW5.out.ri; subst e5)
      go_roundw
      case rel => exact ⟨i + 1, by simp, hlt, ⟨by have h5 := HW5.out; rw [HXE.out]; exact h5⟩, HQ5⟩
      case measure => simp [intOf]; omega
    · have hie : i = 8 * t.size := by omega
      have hb1 : decide ((i : Int) < 8 * (t.size : Int)) = false := by simp; omega
      go_wp2_with fail
      go_ret2
      exact ⟨v3, .slice A4 xs.length c4, rfl, by have h9 := HW3.out; rw [← HX.out, hie, List.take_of_length_le (by rw [bitsS_length]; exact Nat.le_refl _)] at h9; rw [← HX.out, hie, List.take_of_length_le (by rw [bitsS_length]; exact Nat.le_refl _)]; exact h9⟩
set_option maxHeartbeats 4000000 in
set_option maxRecDepth 100000 in
theorem writes_3b (w0 : World) (B g : Nat) (v : Value) (l : List Bool) (vl : Value) (x m : Int) (t : ByteArray) (w : World) (h : WR w0 w B g v l vl (ib l)) (h8 : l.length % 8 ≠ 0) :
    Calls Try.prog 23 #[.pointer (some ⟨g, 0, none⟩), vl, .agg #[.int .i64 3, .int .i64 x, .int .i64 m, .string t]] w fun e w' => ∃ v' vl', e = .returned (.tuple #[vl', .bool true]) ∧ WR w0 w' B g v' l vl' (ib l) := by
  have hu := Try.underlying44
  have H8 := Aside0.mk h8
  have H := Aside0.mk h
  obtain ⟨A1, c1, e1⟩ := Kd.R_slice h.ri
  subst e1
  have h1_ := h
  clear h h8
  go_enter Try.func23, Try.ntmps23
  go_wp2_with fail
  have HI := Aside0.mk (h1_.iw.below (below_alloc (Below.refl _ _) (.cells #[.int .i64 3, .int .i64 x, .int .i64 m, .string t] 44)))
  have HW := Aside0.mk (h1_.below (below_alloc (Below.refl _ _) (.cells #[.int .i64 3, .int .i64 x, .int .i64 m, .string t] 44)))
  have HQ := Aside0.mk (show OpBlk (w.alloc (.cells #[.int .i64 3, .int .i64 x, .int .i64 m, .string t] 44)) w.heap.size ⟨3, x, m, t⟩ from heap_alloc_new w _)
  obtain ⟨q, hq⟩ : ∃ q, w.heap.size = q := ⟨_, rfl⟩
  rw [hq] at HQ
  rw [hq]
  generalize w.alloc (.cells #[.int .i64 3, .int .i64 x, .int .i64 m, .string t] 44) = w2 at HI HW HQ ⊢
  clear hq h1_
  refine (w_bytes_bad B g v l t _ HI.out H8.out).mono ?_
  rintro e w3 ⟨rfl, rfl⟩
  have hm2 : (((ib l).length : Int) % 8 != 0) = true := by rw [ib_length, bne_iff_ne]; have := H8.out; omega
  have d0 := (blk_cell HQ.out 0).trans (rfl : _ = some (Value.int .i64 3))
  have d1 := (blk_cell HQ.out 1).trans (rfl : _ = some (Value.int .i64 x))
  have d2 := (blk_cell HQ.out 2).trans (rfl : _ = some (Value.int .i64 m))
  have d3 := (blk_cell HQ.out 3).trans (rfl : _ = some (Value.string t))
  go_wp2_with fail
  go_ret2
  exact ⟨v, _, rfl, HW.out⟩
set_option maxHeartbeats 4000000 in
set_option maxRecDepth 100000 in
theorem writes_0 (w0 : World) (B g : Nat) (v : Value) (l : List Bool) (vl : Value) (kd x m : Int) (t : ByteArray) (w : World) (h : WR w0 w B g v l vl (ib l)) (k1 : kd ≠ 1) (k2 : kd ≠ 2) (k3 : kd ≠ 3) :
    Calls Try.prog 23 #[.pointer (some ⟨g, 0, none⟩), vl, .agg #[.int .i64 kd, .int .i64 x, .int .i64 m, .string t]] w fun e w' => ∃ v' vl', e = .returned (.tuple #[vl', .bool true]) ∧ WR w0 w' B g v' l vl' (ib l) := by
  have hu := Try.underlying44
  have b1 : (kd == 1) = false := by simpa using k1
  have b2 : (kd == 2) = false := by simpa using k2
  have b3 : (kd == 3) = false := by simpa using k3
  have H := Aside0.mk h
  obtain ⟨A1, c1, e1⟩ := Kd.R_slice h.ri
  subst e1
  have h1_ := h
  clear h k1 k2 k3
  go_enter Try.func23, Try.ntmps23
  go_wp2_with fail
  go_ret2
  exact ⟨v, _, rfl, h1_.below (below_alloc (Below.refl _ _) _)⟩
theorem wkind_len (o : S44) (l : List Bool) : (wkind o l).length ≤ l.length + (57 + 8 * o.f3.size) := by
  unfold wkind
  split
  · split
    · omega
    · rename_i hc
      rw [List.length_append, bitsOf_length]
      omega
  · split
    · rw [List.length_append, List.length_replicate]; unfold pad; omega
    · split
      · split
        · omega
        · rw [List.length_append, bitsS_length]; omega
      · omega
theorem writes_any (w0 : World) (B g : Nat) (v : Value) (l : List Bool) (vl : Value) (o : S44) (w : World) (h : WR w0 w B g v l vl (ib l)) (hl : l.length ≤ 100000000000) (ht : o.f3.size ≤ 100000000) :
    Calls Try.prog 23 #[.pointer (some ⟨g, 0, none⟩), vl, .agg #[.int .i64 o.f0, .int .i64 o.f1, .int .i64 o.f2, .string o.f3]] w fun e w' => ∃ v' vl', e = .returned (.tuple #[vl', .bool true]) ∧ WR w0 w' B g v' (wkind o l) vl' (ib (wkind o l)) := by
  obtain ⟨kd, x, m, t⟩ := o
  unfold wkind
  simp only
  by_cases h1 : kd = 1
  · subst h1
    rw [if_pos rfl]
    by_cases hb : m < 0 ∨ 57 < m ∨ x < 0 ∨ 0 < x / 2 ^ m.toNat
    · rw [if_pos hb]
      exact writes_1b w0 B g v l vl x m t w h (by omega)
    · rw [if_neg hb]
      obtain ⟨n, rfl⟩ : ∃ n : Nat, m = n := ⟨m.toNat, by omega⟩
      obtain ⟨y, rfl⟩ : ∃ y : Nat, x = y := ⟨x.toNat, by omega⟩
      rw [Int.toNat_natCast, Int.toNat_natCast]
      refine writes_1 w0 B g v l vl y n t w h hl (by omega) ?_
      rw [Int.toNat_natCast] at hb
      have e : (y : Int) / 2 ^ n = ((y / 2 ^ n : Nat) : Int) := by simp
      rw [e] at hb
      have h0 : y / 2 ^ n = 0 := by
        rcases Nat.eq_zero_or_pos (y / 2 ^ n) with h0 | h0
        · exact h0
        · exact absurd (Or.inr (Or.inr (Or.inr (by exact_mod_cast h0)))) hb
      exact (Nat.div_eq_zero_iff.1 h0).resolve_left (by have := Nat.two_pow_pos n; omega)
  · rw [if_neg h1]
    by_cases h2 : kd = 2
    · subst h2
      rw [if_pos rfl]
      exact writes_2 w0 B g v l vl x m t w h hl
    · rw [if_neg h2]
      by_cases h3 : kd = 3
      · subst h3
        rw [if_pos rfl]
        by_cases h8 : l.length % 8 ≠ 0
        · rw [if_pos h8]
          exact writes_3b w0 B g v l vl x m t w h h8
        · rw [if_neg h8]
          exact writes_3 w0 B g v l vl x m t w h hl (by omega) ht
      · rw [if_neg h3]
        exact writes_0 w0 B g v l vl kd x m t w h h1 h2 h3
end Go.Proofs.Ytggfahgkjdkjmaa.HW
