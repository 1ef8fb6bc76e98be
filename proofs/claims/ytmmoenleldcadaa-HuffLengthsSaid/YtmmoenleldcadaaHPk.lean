/- A row of packs; how two are compared; how one is stored in a region that draws its order. -/
import Derived.Test.YtmmoenleldcadaaHCost2
import Derived.Test.YtmmoenleldcadaaFCmp
import Derived.RegionTactic
namespace Go.Proofs.Ytmmoenleldcadaa.HF
open Go.RowKit Go.Proofs.YtmmoenleldcadaaW.PrintWords Go.Proofs.YtmmoenleldcadaaW.PrintLast Go.Proofs.YtmmoenleldcadaaW.PrintMore Go.Proofs.Ytmmoenleldcadaa.HW Go.Proofs.Ytmmoenleldcadaa.MB Go.Proofs.Ytmmoenleldcadaa.Fn
attribute [local go_sem] max2_int min2_int max_two min_two max_three min_three max_four min_four   -- for this text's walks alone
/-- A pack: its weight, the slice of its symbols, which they are (that is not in its cells). -/
structure Pk where
  wt : Int
  A : Option Addr
  n : Nat
  c : Nat
  of : List Int
def zPk : Pk := ⟨0, none, 0, 0, []⟩
def Pk.val (p : Pk) : Value := .agg #[.int .i64 p.wt, .slice p.A p.n p.c]
def Pk.cells (p : Pk) : List Value := [.int .i64 p.wt, .slice p.A p.n p.c]
def kP : Kd Pk := Kd.iso (Kd.pair (Kd.int .i64) (Kd.scalar (fun s : Option Addr × Nat × Nat => Value.slice s.1 s.2.1 s.2.2) (fun _ => rfl))) (fun p : Pk => (p.wt, (p.A, p.n, p.c)))
theorem kP_open {w : World} {x : Pk} {cs : List Value} (h : kP.K w x cs) : cs = x.cells := by
  obtain ⟨_, _, rfl, rfl, rfl⟩ := h
  exact rfl
theorem kP_openM {w : World} {base : Nat} {ok : Nat → Prop} {x : Pk} {cs : List Value} (h : kP.M w base ok x cs) : cs = x.cells := by
  obtain ⟨_, _, rfl, rfl, rfl⟩ := h
  exact rfl
theorem kP_mkM (w : World) (base : Nat) (ok : Nat → Prop) (x : Pk) : kP.M w base ok x x.cells := ⟨[.int .i64 x.wt], [.slice x.A x.n x.c], rfl, rfl, rfl⟩
def rdP (xs : List Pk) (i : Nat) : Pk := xs.getD i zPk
theorem rdP_get (xs : List Pk) (i : Nat) (h : i < xs.length) : rdP xs i = xs[i] := by unfold rdP; rw [List.getD_eq_getElem?_getD, List.getElem?_eq_getElem h]; rfl
theorem add_zero0 (g k : Nat) : (⟨g, 0, none⟩ : Addr).add k = ⟨g, k, none⟩ := by unfold Addr.add; split <;> simp_all
/-- The cells of element i. -/
theorem atP {w : World} {base : Nat} {ok : Nat → Prop} {g n c : Nat} {xs : List Pk} (h : kP.R 63 w base ok (.slice (some ⟨g, 0, none⟩) n c) xs) (i : Nat) (hi : i < n) :
    w.cell? ⟨g, i * 2, none⟩ = some (.int .i64 (rdP xs i).wt) ∧ w.cell? ⟨g, i * 2 + 1, none⟩ = some (.slice (rdP xs i).A (rdP xs i).n (rdP xs i).c) := by
  have hn := (Kd.R_reads' h).1
  obtain ⟨ad, cs, e, _, hK, hc0⟩ := Kd.C_get (Kd.R_reads' h).2.2 zPk (i : Int) (by omega) (by omega)
  injection e with e
  subst e
  have hc : ∀ j u, cs[j]? = some u → w.cell? ((⟨g, 0, none⟩ : Addr).add ((i : Int).toNat * 2 + j)) = some u := hc0
  obtain rfl := kP_open hK
  simp only [add_zero0, Int.toNat_natCast] at hc
  exact ⟨hc 0 _ rfl, hc 1 _ rfl⟩
theorem frozenP {w : World} {base : Nat} {ok : Nat → Prop} {g n c : Nat} {xs : List Pk} (h : kP.R 63 w base ok (.slice (some ⟨g, 0, none⟩) n c) xs) (i : Nat) : w.frozen? ⟨g, i, none⟩ = false := by
  obtain ⟨inner, ho⟩ := Kd.R_own h
  obtain ⟨cells, hc⟩ := own_typed ho g rfl
  exact blk_frozen hc i
theorem seg_all (c seg : List Value) (n : Nat) (h1 : c.length = n) (h2 : seg.length = n) : c.take 0 ++ seg ++ c.drop (0 + seg.length) = seg := by
  rw [List.take_zero, List.nil_append, List.drop_eq_nil_of_le (by omega), List.append_nil]
section
variable {ops : Array Oper} {o : Oper} {a : Act} {Q : Exit → Act → World → Prop} {Kc : Act → World → Prop}
/-- xs[i] = p, in a region that draws its order. -/
theorem store_step {W : World} (base : Nat) (hw : Region.wanted o (yielded ops a.tmps) = true) (hN : o.dst = none) (p x : Operand) (ho : o.op = .store 63 p x) {g n c o' : Nat} (i : Nat) (xs : List Pk) (x' : Pk)
    (haddr : a.eval p = .pointer (some ⟨g, o', none⟩)) (hoff : o' = i * 2) (hx : a.eval x = x'.val) (HO : kP.R 63 W base (fun _ => True) (.slice (some ⟨g, 0, none⟩) n c) xs) (hi : i < n)
    (h : ∀ w1, kP.R 63 w1 base (fun _ => True) (.slice (some ⟨g, 0, none⟩) n c) (xs.set i x') → Fr (fun k => k = g) W w1 → Kc a w1) : if Region.wanted o (yielded ops a.tmps) = true then Oper.wp Try.prog o a W Kc Q else Kc (a.put o.dst undef) W := by
  subst hoff
  have hn := (Kd.R_reads' HO).1
  have hcc : ∀ j u, (rdP xs i).cells[j]? = some u → W.cell? ⟨g, (i : Int).toNat * kP.sz + j, none⟩ = some u := fun j u hj => by
    obtain ⟨h0, h1⟩ := atP HO i hi
    rw [Int.toNat_natCast]
    match j, hj with
    | 0, hj => cases hj; exact h0
    | 1, hj => cases hj; exact h1
    | _ + 2, hj => cases hj
  obtain ⟨hrow, hg⟩ := Kd.R_seg HO (i : Int) (by omega) (by omega) (c := (rdP xs i).cells) (seg := x'.cells) (j := 0) (x' := x') (okp := fun _ => False) rfl hcc (show 2 ≤ 2 from Nat.le_refl 2) (by rw [seg_all _ _ 2 rfl rfl]; exact kP_mkM _ _ _ _) (fun _ hk => hk.elim)
  rw [Int.toNat_natCast] at hrow
  have hrun : (Instr.storeAt 63 (.pointer (some ⟨g, i * 2, none⟩)) x'.val).run Try.prog W = .ok () (W.setCells g (i * 2) x'.cells) := by
    obtain ⟨_, inner, hown, _⟩ := HO
    rcases hown.2 with ⟨hv, _⟩ | ⟨g', cap', cur, hv, hb, hh, hnc, hcm, hcs, _⟩
    · cases hv
    injection hv with ha _ hc
    injection ha with ha
    injection ha with hg'
    subst hg'; subst hc
    refine run_store_run 63 x'.val x'.cells hh rfl (by kernel_rfl) ?_ (fun q hq => by
      rcases List.mem_cons.1 hq with rfl | hq
      · rfl
      · rw [List.mem_singleton.1 hq]; rfl)
    have hcs2 : cur.size = c * 2 := hcs
    show i * 2 + 2 ≤ cur.size
    omega
  rw [if_pos hw]
  unfold Oper.wp execOp
  simp only [ho, haddr, hx, Sem.run_bind, Sem.run_pure, Result.andThen_ok, hrun]
  show Kc (a.put o.dst undef) _
  rw [hN]
  have e1 : W.setCells g (i * kP.sz + 0) x'.cells = W.setCells g (i * 2) x'.cells := rfl
  rw [e1] at hrow
  exact h _ hrow (setCells_fr _ _ _)
end
def cmp3 (a b : Int) : Int := if a < b then -1 else if b < a then 1 else 0
theorem cmp3_lt (a b : Int) : decide (cmp3 a b < 0) = decide (a < b) := by
  unfold cmp3
  by_cases h : a < b
  · rw [if_pos h]; simp [h]
  · rw [if_neg h]; split <;> simp [h]
theorem compare_f (a b : Int) : cmp_Compare_int.f a b = some (cmp3 a b) := by
  unfold cmp_Compare_int.f cmp_isNaN_int.f cmp3
  simp
  split
  · rfl
  · split <;> rfl
set_option maxHeartbeats 1000000 in
theorem pcmp_ok (x y : Pk) (W : World) : Calls Try.prog 37 #[x.val, y.val] W fun e w' => e = .returned (.int .i64 (cmp3 x.wt y.wt)) ∧ Below W.heap.size W w' := by
  have hu := Try.underlying63
  obtain ⟨x0, x1, x2, x3, x4⟩ := x
  obtain ⟨y0, y1, y2, y3, y4⟩ := y
  unfold Pk.val
  simp only
  have HC := Aside0.mk (fun w => cmp_Compare_int.calls x0 y0 _ w (compare_f x0 y0))
  go_enter Try.func37, Try.ntmps37
  go_wp2_with fail
  refine (HC.out _).mono ?_
  rintro e w2 ⟨rfl, hd⟩
  have HB := Aside0.mk ((below_alloc (below_alloc (Below.refl W.heap.size W) (.cells #[.int .i64 x0, .slice x1 x2 x3] 63)) (.cells #[.int .i64 y0, .slice y1 y2 y3] 63)))
  have HD := Aside0.mk hd
  clear hd
  go_wp2_with fail
  go_ret
  exact ⟨rfl, HB.out.trans (HD.out.below.mono HB.out.size)⟩
theorem pcmp_val (x0 : Int) (x1 : Option Addr) (x2 x3 : Nat) (y0 : Int) (y1 : Option Addr) (y2 y3 : Nat) (W : World) : Calls Try.prog 37 #[.agg #[.int .i64 x0, .slice x1 x2 x3], .agg #[.int .i64 y0, .slice y1 y2 y3]] W fun e w' => e = .returned (.int .i64 (cmp3 x0 y0)) ∧ Below W.heap.size W w' := pcmp_ok ⟨x0, x1, x2, x3, []⟩ ⟨y0, y1, y2, y3, []⟩ W
end Go.Proofs.Ytmmoenleldcadaa.HF
