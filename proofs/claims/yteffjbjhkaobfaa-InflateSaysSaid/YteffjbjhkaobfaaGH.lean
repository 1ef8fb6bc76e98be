/- inflate's block: walked. inflate's closure that catches: walked. inflate.Inflate: walked. -/
import Derived.Test.YteffjbjhkaobfaaGE
import Derived.Recover
namespace Go.Proofs.Yteffjbjhkaobfaa.HI
open Go.RowKit Go.Proofs.YteffjbjhkaobfaaW.PrintWords Go.Proofs.YteffjbjhkaobfaaW.PrintLast Go.Proofs.YteffjbjhkaobfaaW.PrintMore Go.Proofs.Yteffjbjhkaobfaa.HW Go.Proofs.Yteffjbjhkaobfaa.MB Go.Proofs.Yteffjbjhkaobfaa.Fn Go.Proofs.Yteffjbjhkaobfaa.HF Go.Proofs.Yteffjbjhkaobfaa.RT Go.Proofs.Yteffjbjhkaobfaa.RT.Rd
attribute [local go_sem] max2_int min2_int max_two min_two max_three min_three max_four min_four   -- for this text's walks alone
theorem blockT_run (most F : Nat) (out : List Int) (s : ByteArray) (a : Nat) : (blockT most F out).run s a = match (bitsN 1).run s a with
    | .no er => .no er
    | .ok last a1 => match (bitsN 2).run s a1 with
      | .no er => .no er
      | .ok kind a2 => match (if kind = 0 then storedT most out else if kind = 1 then packedT most fixL (some fixD) F out else if kind = 2 then dynamicT.bind fun (lens, dist) => packedT most lens (tableO dist) F out else err 40).run s a2 with
        | .no er => .no er
        | .ok o a3 => .ok (decide (last = 1), o) a3 := by
  unfold blockT
  rw [run_bind]
  cases (bitsN 1).run s a with
  | no er => rfl
  | ok last a1 =>
    simp only
    rw [run_bind]
    cases (bitsN 2).run s a1 with
    | no er => rfl
    | ok kind a2 =>
      simp only
      rw [run_bind]
      generalize (if kind = 0 then storedT most out else if kind = 1 then packedT most fixL (some fixD) F out else if kind = 2 then dynamicT.bind fun (lens, dist) => packedT most lens (tableO dist) F out else err 40).run s a2 = z
      cases z <;> rfl
theorem bitsN_place {s : ByteArray} {n a x a' : Nat} (ha : a ≤ 8 * s.size) (h : (bitsN n).run s a = .ok x a') : a ≤ a' := (run_place s _ a x a' ha h).1
set_option maxRecDepth 100000 in
set_option maxHeartbeats 8000000 in
theorem blockX {W : World} {B x g : Nat} {ov : Value} {s : ByteArray} {a most : Nat} {out : List Int} (h : IsX W B x g ov s a most out) (F : Nat) (hF : 8 * s.size < F + a) :
    Calls Try.prog 20 #[.pointer (some ⟨x, 0, none⟩)] W (PX (fun p : Bool × List Int => .bool p.1) (fun p => p.2) B x g ov s most W ((blockT most F out).run s a)) := by
  have H := Aside0.mk h
  have HX0 : Aside0 (XG W W B x g ov s most out a ov) := ⟨h, Fr.refl _ _, AtB.refl _ _⟩
  have HRUN := Aside0.mk (blockT_run most F out s a)
  have HB1 := Aside0.mk (bitsX_ok h 1 (by decide))
  have HF := Aside0.mk hF
  clear h hF
  go_enter Try.func20, Try.ntmps20
  go_wp2_with fail
  refine HB1.out.mono ?_
  cases hb1 : (bitsN 1).run s a with
  | no er =>
    rintro e w1 ⟨rfl, hb⟩
    have hr := HRUN.out
    rw [hb1] at hr
    exact ⟨rfl, PX_no hr hb⟩
  | ok p a1 =>
    rintro e w1 ⟨rfl, ov1, hx1, hf1, hat1⟩
    have HX1 := Aside0.mk (HX0.out.used hx1 hf1 hat1)
    have hr := HRUN.out
    rw [hb1] at hr
    simp only at hr
    have HR1 := Aside0.mk hr
    have HP1 := Aside0.mk (bitsN_place H.out.le hb1)
    have HB2 := Aside0.mk (bitsX_ok HX1.out.ix 2 (by decide))
    have HPB : Aside0 (((p : Int) == 1) = decide (p = 1)) := ⟨by
      by_cases h : p = 1
      · rw [decide_eq_true h, beq_iff_eq]; omega
      · rw [decide_eq_false h, beq_eq_false_iff_ne]; omega⟩
    clear hr HRUN HB1 HX0 hx1 hf1 hat1 hb1
    go_wp2_with fail
    refine HB2.out.mono ?_
    cases hb2 : (bitsN 2).run s a1 with
    | no er =>
      rintro e w2 ⟨rfl, hb⟩
      have hr := HR1.out
      rw [hb2] at hr
      exact ⟨rfl, PX_no hr ((HX1.out.beB H.out).trans hb)⟩
    | ok q a2 =>
      rintro e w2 ⟨rfl, ov2, hx2, hf2, hat2⟩
      have HX2 := Aside0.mk (HX1.out.used hx2 hf2 hat2)
      have hr := HR1.out
      rw [hb2] at hr
      simp only at hr
      have HR2 := Aside0.mk hr
      have HP2 := Aside0.mk (bitsN_place HX1.out.ix.le hb2)
      clear hr HR1 HB2 HX1 hx2 hf2 hat2 hb2
      by_cases h0 : q = 0
      · subst h0
        rw [if_pos rfl] at HR2
        have HS := Aside0.mk (storedX_ok HX2.out.ix)
        go_wp2_with fail
        refine HS.out.mono ?_
        cases hs : (storedT most out).run s a2 with
        | no er =>
          rintro e w3 ⟨rfl, hb⟩
          have hr := HR2.out
          rw [hs] at hr
          exact ⟨rfl, PX_no hr ((HX2.out.beB H.out).trans hb)⟩
        | ok o a3 =>
          rintro e w3 ⟨rfl, ov3, hx3, hf3, hat3⟩
          have hr := HR2.out
          rw [hs] at hr
          have HR3 : Aside0 ((blockT most F out).run s a = .ok (decide (p = 1), o) a3) := ⟨hr⟩
          have HX3 := Aside0.mk hx3
          have HF3 := Aside0.mk (XS_then HX2.out.fr hf3 HX2.out.atb)
          have HA3 := Aside0.mk (AtB.trans HX2.out.atb hat3 HX2.out.fr.size)
          clear hr hx3 hf3 hat3 HR2 HX2 HS hs
          go_wp2_with fail
          go_ret
          rw [HR3.out]
          exact ⟨by rw [← HPB.out]; rfl, _, HX3.out, HF3.out, HA3.out⟩
      · rw [if_neg h0] at HR2
        have n0 : decide ((q : Int) = 0) = false := decide_eq_false (by omega)
        have m0 : ((q : Int) == 0) = false := by rw [beq_eq_false_iff_ne]; omega
        have k0 : decide (q = 0) = false := decide_eq_false h0
        by_cases h1 : q = 1
        · rw [if_pos h1] at HR2
          subst h1
          have HFX := Aside0.mk (fixedX w2)
          clear h0
          go_wp2_with fail
          refine HFX.out.mono ?_
          rintro e w3 ⟨t1, lv1, wv1, sv1, t2, lv2, wv2, sv2, rfl, ht1, ht2, hb3⟩
          have HX3 := Aside0.mk (HX2.out.below hb3)
          have HPK := Aside0.mk (packedX HX3.out.ix ht1 fixL_ok (by decide) (by decide) (d := .pointer (some ⟨t2, 0, none⟩)) (o := some fixD) (Bd := w2.heap.size) ⟨fixD_ok, by decide, by decide, t2, lv2, wv2, sv2, rfl, ht2⟩ F (by have := HF.out; have := HP1.out; have := HP2.out; omega))
          clear ht1 ht2 hb3 HFX HX2
          go_wp2_with fail
          refine HPK.out.mono ?_
          cases hs : (packedT most fixL (some fixD) F out).run s a2 with
          | no er =>
            rintro e w4 ⟨rfl, hb⟩
            have hr := HR2.out
            rw [hs] at hr
            exact ⟨rfl, PX_no hr ((HX3.out.beB H.out).trans hb)⟩
          | ok o a3 =>
            rintro e w4 ⟨rfl, ov3, hx3, hf3, hat3⟩
            have hr := HR2.out
            rw [hs] at hr
            have HR3 : Aside0 ((blockT most F out).run s a = .ok (decide (p = 1), o) a3) := ⟨hr⟩
            have HX4 := Aside0.mk hx3
            have HF4 := Aside0.mk (XS_then HX3.out.fr hf3 HX3.out.atb)
            have HA4 := Aside0.mk (AtB.trans HX3.out.atb hat3 HX3.out.fr.size)
            clear hr hx3 hf3 hat3 HR2 HX3 HPK hs
            go_wp2_with fail
            go_ret
            rw [HR3.out]
            exact ⟨by rw [← HPB.out]; rfl, _, HX4.out, HF4.out, HA4.out⟩
        · rw [if_neg h1] at HR2
          have n1 : decide ((q : Int) = 1) = false := decide_eq_false (by omega)
          have m1 : ((q : Int) == 1) = false := by rw [beq_eq_false_iff_ne]; omega
          have k1 : decide (q = 1) = false := decide_eq_false h1
          by_cases h2 : q = 2
          · rw [if_pos h2, run_bind] at HR2
            subst h2
            have HDY := Aside0.mk (dynamicX HX2.out.ix)
            clear h0 h1
            go_wp2_with fail
            refine HDY.out.mono ?_
            cases hdy : dynamicT.run s a2 with
            | no er =>
              rintro e w3 ⟨rfl, hb⟩
              have hr := HR2.out
              rw [hdy] at hr
              exact ⟨rfl, PX_no hr ((HX2.out.beB H.out).trans hb)⟩
            | ok l a3 =>
              rintro e w3 ⟨⟨t1, lv1, wv1, sv1, d, rfl, ho1, hl1, ht1, hd1⟩, ov3, hx3, hf3, hat3⟩
              have HX3 := Aside0.mk (HX2.out.used hx3 hf3 hat3)
              have hr := HR2.out
              rw [hdy] at hr
              simp only at hr
              have HR3 := Aside0.mk hr
              have HP3 := Aside0.mk (run_place s _ a2 _ a3 HX2.out.ix.le hdy)
              have HPK := Aside0.mk (packedX HX3.out.ix ht1 ho1 (by omega) hl1.2 hd1 F (by have := HF.out; have := HP1.out; have := HP2.out; have := HP3.out; omega))
              clear ht1 hd1 ho1 hl1 hr hx3 hf3 hat3 HR2 HDY hdy HX2
              go_wp2_with fail
              refine HPK.out.mono ?_
              cases hs : (packedT most l.1 (tableO l.2) F out).run s a3 with
              | no er =>
                rintro e w4 ⟨rfl, hb⟩
                have hr := HR3.out
                rw [hs] at hr
                exact ⟨rfl, PX_no hr ((HX3.out.beB H.out).trans hb)⟩
              | ok o a4 =>
                rintro e w4 ⟨rfl, ov4, hx4, hf4, hat4⟩
                have hr := HR3.out
                rw [hs] at hr
                have HR4 : Aside0 ((blockT most F out).run s a = .ok (decide (p = 1), o) a4) := ⟨hr⟩
                have HX4 := Aside0.mk hx4
                have HF4 := Aside0.mk (XS_then HX3.out.fr hf4 HX3.out.atb)
                have HA4 := Aside0.mk (AtB.trans HX3.out.atb hat4 HX3.out.fr.size)
                clear hr hx4 hf4 hat4 HR3 HX3 HPK hs
                go_wp2_with fail
                go_ret
                rw [HR4.out]
                exact ⟨by rw [← HPB.out]; rfl, _, HX4.out, HF4.out, HA4.out⟩
          · rw [if_neg h2] at HR2
            have n2 : decide ((q : Int) = 2) = false := decide_eq_false (by omega)
            have m2 : ((q : Int) == 2) = false := by rw [beq_eq_false_iff_ne]; omega
            have k2 : decide (q = 2) = false := decide_eq_false h2
            clear h0 h1 h2
            go_wp2_with fail
            refine (must_no 40 (by decide) _).mono ?_
            rintro e w3 ⟨rfl, rfl⟩
            exact ⟨rfl, PX_no HR2.out (HX2.out.beB H.out)⟩
end Go.Proofs.Yteffjbjhkaobfaa.HI
namespace Go.Proofs.Yteffjbjhkaobfaa.HI
open Go.RowKit Go.Proofs.YteffjbjhkaobfaaW.PrintWords Go.Proofs.YteffjbjhkaobfaaW.PrintLast Go.Proofs.YteffjbjhkaobfaaW.PrintMore Go.Proofs.Yteffjbjhkaobfaa.HW Go.Proofs.Yteffjbjhkaobfaa.MB Go.Proofs.Yteffjbjhkaobfaa.Fn Go.Proofs.Yteffjbjhkaobfaa.HF Go.Proofs.Yteffjbjhkaobfaa.RT Go.Proofs.Yteffjbjhkaobfaa.RT.Rd
attribute [local go_sem] max2_int min2_int max_two min_two max_three min_three max_four min_four   -- for this text's walks alone
/-- The three results' cells. -/
structure Res3 (w : World) (p0 p1 p2 : Nat) (t : ByteArray) (n e : Int) : Prop where
  b0 : w.heap[p0]? = some (.cells #[.string t] 9 (0, 0))
  b1 : w.heap[p1]? = some (.cells #[.int .i64 n] 3 (0, 0))
  b2 : w.heap[p2]? = some (.cells #[.int .i64 e] 23 (0, 0))
  n01 : p0 ≠ p1
  n02 : p0 ≠ p2
  n12 : p1 ≠ p2
theorem Res3.lay {w : World} {p0 p1 p2 : Nat} {t : ByteArray} {n e : Int} (h : Res3 w p0 p1 p2 t n e) (t' : ByteArray) (n' e' : Int) :
    Res3 (((w.setCell ⟨p0, 0, none⟩ (.string t')).setCell ⟨p1, 0, none⟩ (.int .i64 n')).setCell ⟨p2, 0, none⟩ (.int .i64 e')) p0 p1 p2 t' n' e' := by
  have k : ∀ (w : World) (p q : Nat) (v : Value), q ≠ p → (w.setCell ⟨p, 0, none⟩ v).heap[q]? = w.heap[q]? := fun w p q v hne => Below.heap_setCell _ _ _ _ hne
  refine ⟨?_, ?_, ?_, h.n01, h.n02, h.n12⟩
  · rw [k _ _ _ _ h.n02, k _ _ _ _ h.n01]
    exact blk_set h.b0 0 _
  · rw [k _ _ _ _ h.n12]
    exact blk_set ((k _ _ _ _ h.n01.symm).trans h.b1) 0 _
  · exact blk_set ((k _ _ _ _ h.n12.symm).trans ((k _ _ _ _ h.n02.symm).trans h.b2)) 0 _
theorem Res3.keep {w w' : World} {S : Nat → Prop} {p0 p1 p2 : Nat} {t : ByteArray} {n e : Int} (h : Res3 w p0 p1 p2 t n e) (hf : Fr S w w') (h0 : ¬ S p0) (h1 : ¬ S p1) (h2 : ¬ S p2) : Res3 w' p0 p1 p2 t n e :=
  ⟨hf.blk h.b0 h0, hf.blk h.b1 h1, hf.blk h.b2 h2, h.n01, h.n02, h.n12⟩
@[local go_sem] theorem as_refused (v : Value) (w : World) : (Instr.typeAssert (.iface 45 v) 20 45 true).run Try.prog w = .ok (.tuple #[v, .bool true]) w := by kernel_rfl
theorem catch_idle (p0 p1 p2 : Value) (w : World) :
    CallsD Try.prog 18 #[p0, p1, p2] .returning w fun e u' w' => e = .returned (.tuple #[]) ∧ u' = .returning ∧ w' = w := by
  refine callsD_of_wpS Try.func18 rfl fun c₀ cs hu => ?_
  apply wpS_seq
  apply wpS_region
  simp [wpOpsS, go_sem, recoverD, hu, Try.ntmps18, Exit.thenS]
  refine wpS_of_wp ?_
  go_wp2_with fail
  cases c₀
  simp_all [bodyPostS, results, Try.results18]
set_option maxRecDepth 100000 in
set_option maxHeartbeats 4000000 in
theorem catch_panicking (p0 p1 p2 : Nat) (er : Int) (w : World) {t : ByteArray} {n e0 : Int} (h : Res3 w p0 p1 p2 t n e0) :
    CallsD Try.prog 18 #[.pointer (some ⟨p0, 0, none⟩), .pointer (some ⟨p1, 0, none⟩), .pointer (some ⟨p2, 0, none⟩)] (.panicking (refErr er)) w fun e u' w' =>
      e = .returned (.tuple #[]) ∧ u' = .panicking [{ v := .iface 45 (.agg #[.int .i64 er]), recovered := true }] ∧ Res3 w' p0 p1 p2 ⟨#[]⟩ 0 er ∧ Fr (fun k => k = p0 ∨ k = p1 ∨ k = p2) w w' := by
  refine callsD_of_wpS Try.func18 rfl fun c₀ cs hu => ?_
  apply wpS_seq
  apply wpS_region
  unfold refErr at hu
  simp [wpOpsS, go_sem, recoverD, hu, Try.ntmps18, Exit.thenS]
  refine wpS_of_wp ?_
  change Code.wp Try.prog _ _ { tmps := #[.pointer (some ⟨p0, 0, none⟩), .pointer (some ⟨p1, 0, none⟩), .pointer (some ⟨p2, 0, none⟩), undef, undef, undef, .iface 45 (.agg #[.int .i64 er]), undef, undef, undef, undef, undef, undef, undef], defers := [] } _
  go_upto_region 7 with (fail)
  obtain ⟨y, hy⟩ : ∃ z, w.heap.size = z := ⟨_, rfl⟩
  have HR1 := Aside0.mk (h.keep (Fr.of_below_all (below_alloc (Below.refl _ _) (.cells #[.int .i64 er] 45)) (fun _ => False)) (fun h => h) (fun h => h) (fun h => h))
  have cy : (w.alloc (.cells #[.int .i64 er] 45)).heap[y]? = some (.cells #[.int .i64 er] 45 (0, 0)) := by rw [← hy]; exact heap_alloc_new _ _
  have HN := Aside0.mk (show y ≠ p0 ∧ y ≠ p1 ∧ y ≠ p2 from ⟨fun e => by have := blk_lt h.b0; omega, fun e => by have := blk_lt h.b1; omega, fun e => by have := blk_lt h.b2; omega⟩)
  have HFR := Aside0.mk ((Fr.refl (fun k => k = p0 ∨ k = p1 ∨ k = p2) w).alloc (.cells #[.int .i64 er] 45))
  rw [hy]
  clear hy h
  generalize w.alloc (.cells #[.int .i64 er] 45) = w1 at HR1 cy HFR ⊢
  have c4 : w1.drew.cell? ⟨y, 0, none⟩ = some (.int .i64 er) := (blk_cell (w := w1.drew) cy 0).trans rfl
  have c0 : w1.drew.cell? ⟨p0, 0, none⟩ = some (.string t) := (blk_cell (w := w1.drew) HR1.out.b0 0).trans rfl
  have c1 : w1.drew.cell? ⟨p1, 0, none⟩ = some (.int .i64 n) := (blk_cell (w := w1.drew) HR1.out.b1 0).trans rfl
  have c2 : w1.drew.cell? ⟨p2, 0, none⟩ = some (.int .i64 e0) := (blk_cell (w := w1.drew) HR1.out.b2 0).trans rfl
  have f0 : w1.drew.frozen? ⟨p0, 0, none⟩ = false := blk_frozen (w := w1.drew) HR1.out.b0 0
  have f1 : w1.drew.frozen? ⟨p1, 0, none⟩ = false := blk_frozen (w := w1.drew) HR1.out.b1 0
  have f2 : w1.drew.frozen? ⟨p2, 0, none⟩ = false := blk_frozen (w := w1.drew) HR1.out.b2 0
  have c4b : w1.cell? ⟨y, 0, none⟩ = some (.int .i64 er) := (blk_cell (w := w1) cy 0).trans rfl
  have c0b : w1.cell? ⟨p0, 0, none⟩ = some (.string t) := (blk_cell (w := w1) HR1.out.b0 0).trans rfl
  have c1b : w1.cell? ⟨p1, 0, none⟩ = some (.int .i64 n) := (blk_cell (w := w1) HR1.out.b1 0).trans rfl
  have c2b : w1.cell? ⟨p2, 0, none⟩ = some (.int .i64 e0) := (blk_cell (w := w1) HR1.out.b2 0).trans rfl
  have f0b : w1.frozen? ⟨p0, 0, none⟩ = false := blk_frozen (w := w1) HR1.out.b0 0
  have f1b : w1.frozen? ⟨p1, 0, none⟩ = false := blk_frozen (w := w1) HR1.out.b1 0
  have f2b : w1.frozen? ⟨p2, 0, none⟩ = false := blk_frozen (w := w1) HR1.out.b2 0
  have n0 := HN.out.1
  have n1 := HN.out.2.1
  have n2 := HN.out.2.2
  have n01 := HR1.out.n01
  have n02 := HR1.out.n02
  have n12 := HR1.out.n12
  have m0 := n0.symm
  have m1 := n1.symm
  have m2 := n2.symm
  have m01 := n01.symm
  have m02 := n02.symm
  have m12 := n12.symm
  go_region_held3 (fun w' => w'.cell? ⟨y, 0, none⟩ = some (.int .i64 er)) (go_keep) ((fail))
  have HRL := HR1.out.lay ⟨#[]⟩ 0 er
  refine ⟨rfl, _, rfl, .tuple #[], by simp [results, Try.results18], rfl, rfl, HRL.keep (Fr.drew (Fr.refl (fun _ => False) _)) (fun h => h) (fun h => h) (fun h => h), ?_⟩
  exact (((HFR.out.setCell (p := ⟨p0, 0, none⟩) (Or.inl (Or.inl rfl)) _).setCell (p := ⟨p1, 0, none⟩) (Or.inl (Or.inr (Or.inl rfl))) _).setCell (p := ⟨p2, 0, none⟩) (Or.inl (Or.inr (Or.inr rfl))) _).drew
end Go.Proofs.Yteffjbjhkaobfaa.HI
namespace Go.Proofs.Yteffjbjhkaobfaa.HI
open Go.RowKit Go.Proofs.YteffjbjhkaobfaaW.PrintWords Go.Proofs.YteffjbjhkaobfaaW.PrintLast Go.Proofs.YteffjbjhkaobfaaW.PrintMore Go.Proofs.Yteffjbjhkaobfaa.HW Go.Proofs.Yteffjbjhkaobfaa.MB Go.Proofs.Yteffjbjhkaobfaa.Fn Go.Proofs.Yteffjbjhkaobfaa.HF Go.Proofs.Yteffjbjhkaobfaa.RT Go.Proofs.Yteffjbjhkaobfaa.RT.Rd
attribute [local go_sem] max2_int min2_int max_two min_two max_three min_three max_four min_four   -- for this text's walks alone
/-- What Inflate comes to. -/
def inflR (s : ByteArray) (most : Int) : ByteArray × Int × Int :=
  if most < 0 ∨ 1048576 < most then (⟨#[]⟩, 0, 1) else
  match infl most.toNat s with
  | .ok o a => (strOfNums o, ((a + 7) / 8 : Nat), 0)
  | .no er => (⟨#[]⟩, 0, er)
theorem inflT_step (most F f : Nat) (out : List Int) (s : ByteArray) (a : Nat) : (inflT most F (f + 1) out).run s a = match (blockT most F out).run s a with
    | .no er => .no er
    | .ok p a1 => (if p.1 = true then ret p.2 else inflT most F f p.2).run s a1 := by
  show ((blockT most F out).bind _).run s a = _
  rw [run_bind]
  cases (blockT most F out).run s a <;> rfl
theorem blockT_pos {most F : Nat} {out : List Int} {s : ByteArray} {a a' : Nat} {p : Bool × List Int} (ha : a ≤ 8 * s.size) (h : (blockT most F out).run s a = .ok p a') : a < a' ∧ a' ≤ 8 * s.size := by
  have hp := run_place s _ a p a' ha h
  refine ⟨?_, hp.2⟩
  rw [blockT_run] at h
  cases h1 : (bitsN 1).run s a with
  | no er => rw [h1] at h; cases h
  | ok x a1 =>
    have h2 := h1
    rw [run_bitsN s 1 a ha] at h2
    split at h2
    · injection h2 with _ h2
      have h3 : (blockT most F out).run s a = (blockT most F out).run s a := rfl
      rw [h1] at h
      simp only at h
      cases h4 : (bitsN 2).run s a1 with
      | no er => rw [h4] at h; cases h
      | ok y a2 =>
        rw [h4] at h
        simp only at h
        have := (run_place s _ a1 y a2 (by omega) h4).1
        cases h5 : (if y = 0 then storedT most out else if y = 1 then packedT most fixL (some fixD) F out else if y = 2 then dynamicT.bind fun (lens, dist) => packedT most lens (tableO dist) F out else err 40).run s a2 with
        | no er => rw [h5] at h; cases h
        | ok o a3 =>
          rw [h5] at h
          injection h with _ h
          have := (run_place s _ a2 o a3 (run_place s _ a1 y a2 (by omega) h4).2 h5).1
          omega
    · cases h2
theorem nopanic_normal {Q : Exit → Act → World → Prop} {a : Act} {w : World} (h : Q .normal a w) : NoPanic Q .normal a w := h
/-- Inflate's reading. -/
structure InS (w3 w : World) (x g : Nat) (s : ByteArray) (m a : Nat) (ov : Value) (out : List Int) : Prop where
  ix : IsX w w3.heap.size x g ov s a m out
  be : Below w3.heap.size w3 w
set_option maxRecDepth 100000 in
set_option maxHeartbeats 8000000 in
theorem inflateX (s : ByteArray) (hs : s.size ≤ 1000000000000000) (most : Int) (W : World) :
    Calls Try.prog 10 #[.string s, .int .i64 most] W fun e w' => e = .returned (.tuple #[.string (inflR s most).1, .int .i64 (inflR s most).2.1, .int .i64 (inflR s most).2.2]) ∧ Below W.heap.size W w' := by
  have hmf : ∀ (fn : Fn) (first cap : Array Value) (w : World), (Instr.makeFunc fn first cap).run Try.prog w = .ok (.func fn first cap) w := fun _ _ _ _ => rfl
  by_cases hm : most < 0 ∨ 1048576 < most
  · have he : inflR s most = (⟨#[]⟩, 0, 1) := if_pos hm
    rw [he]
    by_cases h0 : most < 0
    · have b1 : decide (most < 0) = true := decide_eq_true h0
      clear hm h0 he
      go_enter_defers Try.func10, Try.ntmps10
      go_wp2_with fail
      have hb := below_alloc (below_alloc (below_alloc (Below.refl W.heap.size W) (Obj.cells #[Value.string { data := #[] }] 9)) (Obj.cells #[Value.int IntKind.i64 0] 3)) (Obj.cells #[Value.int IntKind.i64 1] 23)
      simp [bodyPostD, Leaves, results, Try.results10, go_sem]
      first | exact hb | trace_state
    · have b1 : decide (most < 0) = false := decide_eq_false h0
      have b2 : decide (1048576 < most) = true := decide_eq_true (by omega)
      clear hm h0 he
      go_enter_defers Try.func10, Try.ntmps10
      go_wp2_with fail
      have hb := below_alloc (below_alloc (below_alloc (Below.refl W.heap.size W) (Obj.cells #[Value.string { data := #[] }] 9)) (Obj.cells #[Value.int IntKind.i64 0] 3)) (Obj.cells #[Value.int IntKind.i64 1] 23)
      simp [bodyPostD, Leaves, results, Try.results10, go_sem]
      first | exact hb | trace_state
  · obtain ⟨m, rfl⟩ : ∃ m : Nat, most = m := ⟨most.toNat, by omega⟩
    have b1 : decide ((m : Int) < 0) = false := decide_eq_false (by omega)
    have b2 : decide ((1048576 : Int) < (m : Int)) = false := decide_eq_false (by omega)
    go_enter_defers Try.func10, Try.ntmps10
    go_upto_region 4 with (fail)
    obtain ⟨w3, hw3⟩ : ∃ z, z = (((W.alloc (Obj.cells #[Value.string { data := #[] }] 9)).alloc (Obj.cells #[Value.int IntKind.i64 0] 3)).alloc (Obj.cells #[Value.int IntKind.i64 0] 23)) := ⟨_, rfl⟩
    have HR3 : Aside0 (Res3 w3 W.heap.size (W.heap.size + 1) (W.heap.size + 1 + 1) ⟨#[]⟩ 0 0) := ⟨by
      have k0 : (W.alloc (Obj.cells #[Value.string { data := #[] }] 9)).heap[W.heap.size]? = some (.cells #[Value.string { data := #[] }] 9 (0, 0)) := heap_alloc_new _ _
      have z1 : (W.alloc (Obj.cells #[Value.string { data := #[] }] 9)).heap.size = W.heap.size + 1 := by show (Array.push _ _).size = _; rw [Array.size_push]
      have k1 : ((W.alloc (Obj.cells #[Value.string { data := #[] }] 9)).alloc (Obj.cells #[Value.int IntKind.i64 0] 3)).heap[W.heap.size + 1]? = some (.cells #[Value.int IntKind.i64 0] 3 (0, 0)) := by rw [← z1]; exact heap_alloc_new _ _
      have z2 : ((W.alloc (Obj.cells #[Value.string { data := #[] }] 9)).alloc (Obj.cells #[Value.int IntKind.i64 0] 3)).heap.size = W.heap.size + 1 + 1 := by show (Array.push _ _).size = _; rw [Array.size_push, z1]
      have k2 : (((W.alloc (Obj.cells #[Value.string { data := #[] }] 9)).alloc (Obj.cells #[Value.int IntKind.i64 0] 3)).alloc (Obj.cells #[Value.int IntKind.i64 0] 23)).heap[W.heap.size + 1 + 1]? = some (.cells #[Value.int IntKind.i64 0] 23 (0, 0)) := by rw [← z2]; exact heap_alloc_new _ _
      have a1 := below_alloc (Below.refl (W.alloc (Obj.cells #[Value.string { data := #[] }] 9)).heap.size (W.alloc (Obj.cells #[Value.string { data := #[] }] 9))) (Obj.cells #[Value.int IntKind.i64 0] 3)
      have a2 := below_alloc (Below.refl ((W.alloc (Obj.cells #[Value.string { data := #[] }] 9)).alloc (Obj.cells #[Value.int IntKind.i64 0] 3)).heap.size ((W.alloc (Obj.cells #[Value.string { data := #[] }] 9)).alloc (Obj.cells #[Value.int IntKind.i64 0] 3))) (Obj.cells #[Value.int IntKind.i64 0] 23)
      rw [hw3]
      exact ⟨(a2.block _ (by rw [z2]; omega)).trans ((a1.block _ (by rw [z1]; omega)).trans k0), (a2.block _ (by rw [z2]; omega)).trans k1, k2, by omega, by omega, by omega⟩⟩
    have HB3 : Aside0 (Below W.heap.size W w3) := ⟨by rw [hw3]; exact below_alloc (below_alloc (below_alloc (Below.refl _ _) _) _) _⟩
    rw [← hw3]
    clear hw3
    obtain ⟨p0, hp0⟩ : ∃ z, W.heap.size = z := ⟨_, rfl⟩
    have HP0 := Aside0.mk hp0
    rw [hp0] at HR3
    rw [hp0]
    obtain ⟨p1, hp1⟩ : ∃ z, p0 + 1 = z := ⟨_, rfl⟩
    rw [hp1] at HR3
    rw [hp1]
    obtain ⟨p2, hp2⟩ : ∃ z, p1 + 1 = z := ⟨_, rfl⟩
    rw [hp2] at HR3
    rw [hp2]
    have HPS := Aside0.mk (show p0 < w3.heap.size ∧ p1 < w3.heap.size ∧ p2 < w3.heap.size from ⟨blk_lt HR3.out.b0, blk_lt HR3.out.b1, blk_lt HR3.out.b2⟩)
    have HPW := Aside0.mk (show W.heap.size ≤ p0 ∧ W.heap.size ≤ p1 ∧ W.heap.size ≤ p2 by omega)
    clear hp0 hp1 hp2
    go_wp2_with fail
    refine (newReader s w3).mono ?_
    rintro e w4 ⟨g, rfl, hg, hr4, hb4⟩
    have HR4 := Aside0.mk hr4
    have HB4 := Aside0.mk (And.intro hg hb4)
    clear hg hr4 hb4
    go_wp2_with fail
    obtain ⟨x, hx⟩ : ∃ z, w4.heap.size = z := ⟨_, rfl⟩
    have HI0 : Aside0 (InS w3 (w4.alloc (.cells #[.pointer (some ⟨g, 0, none⟩), .int .i64 m, .slice none 0 0] 50)) x g s m 0 (.slice none 0 0) []) := ⟨⟨by rw [← hx]; exact heap_alloc_new _ _, ((below_alloc (Below.refl w4.heap.size w4) _).block g HR4.out.lt).trans HR4.out, Kd.R_nil _ _ _ _ _, by rw [← hx]; exact HB4.out.2.size, HB4.out.1, Nat.zero_le _, hs, by omega, Nat.zero_le _⟩, below_alloc HB4.out.2 _⟩
    rw [hx]
    generalize w4.alloc _ = w5 at HI0 ⊢
    have HM := Aside0.mk hm
    have HSZ := Aside0.mk hs
    clear hx HR4 HB4 hm hs
    go_loopw [22] (fun v22 wr => ∃ (f a1 : Nat) (ov1 : Value) (o1 : List Int), 8 * s.size < f + a1 ∧ Aside0 (InS w3 wr x g s m a1 ov1 o1) ∧ Aside0 ((inflT m manyF manyF []).run s 0 = (inflT m manyF f o1).run s a1)) (fun _ wr => 8 * s.size - posOf g wr)
    case atStart => exact ⟨manyF, 0, _, [], by have := HSZ.out; unfold manyF; omega, HI0, ⟨rfl⟩⟩
    case round =>
      clear HI0
      obtain ⟨f, a1, ov1, o1, hf, HI, HRUN⟩ := hrel
      have hle := HI.out.ix.le
      obtain ⟨f, rfl⟩ : ∃ f', f = f' + 1 := ⟨f - 1, by omega⟩
      have hrun := HRUN.out
      rw [inflT_step] at hrun
      have HR := Aside0.mk hrun
      have HBK := Aside0.mk (blockX HI.out.ix manyF (by have := HSZ.out; unfold manyF; omega))
      have HPO := Aside0.mk (posOf_is HI.out.ix.rd)
      have HFF := Aside0.mk hf
      have HLE := Aside0.mk hle
      clear hrun HRUN hf hle
      go_wp2_with fail
      refine HBK.out.mono ?_
      cases hbk : (blockT m manyF o1).run s a1 with
      | no er =>
        rintro e w6 ⟨rfl, hb⟩
        have hr := HR.out
        rw [hbk] at hr
        have hb6 := HI.out.be.trans hb
        have hres := HR3.out.keep (Fr.of_below_all hb6 (fun _ => False)) (fun h => h) (fun h => h) (fun h => h)
        refine leaves_cons (f := 18) (args := #[.pointer (some ⟨p0, 0, none⟩), .pointer (some ⟨p1, 0, none⟩), .pointer (some ⟨p2, 0, none⟩)]) (by simp) (by simp [go_sem]) ?_
        refine (catch_panicking p0 p1 p2 er w6 hres).mono ?_
        rintro e u' w7 ⟨rfl, rfl, hres7, hf7⟩
        have c0 := (blk_cell hres7.b0 0).trans (rfl : _ = some (Value.string ⟨#[]⟩))
        have c1 := (blk_cell hres7.b1 0).trans (rfl : _ = some (Value.int .i64 0))
        have c2 := (blk_cell hres7.b2 0).trans (rfl : _ = some (Value.int .i64 er))
        have he : inflR s m = (⟨#[]⟩, 0, er) := by
          unfold inflR infl
          rw [if_neg HM.out, Int.toNat_natCast, hr]
        have hbw : Below W.heap.size W w7 := (HB3.out.trans (hb6.mono HB3.out.size)).trans (hf7.below (Nat.le_trans HB3.out.size hb6.size) (fun k hk => by have := HPW.out; omega))
        rw [he]
        simp [Leaves, settle, results, Try.results10, go_sem, c0, c1, c2]
        exact hbw
      | ok q a2 =>
        rintro e w6 ⟨rfl, ov2, hx2, hf2, hat2⟩
        have HI2 : Aside0 (InS w3 w6 x g s m a2 ov2 q.2) := ⟨hx2, HI.out.be.trans (hf2.below HI.out.ix.base HI.out.ix.ge)⟩
        have hr := HR.out
        rw [hbk] at hr
        simp only at hr
        have HR2 := Aside0.mk hr
        have HPS := Aside0.mk (blockT_pos HLE.out hbk)
        have HPO2 := Aside0.mk (posOf_is hx2.rd)
        clear hr HR HBK HI hx2 hf2 hat2 hbk
        obtain ⟨lb, o2⟩ := q
        cases lb with
        | false =>
          have HR3' : Aside0 ((inflT m manyF manyF []).run s 0 = (inflT m manyF f o2).run s a2) := ⟨HR2.out⟩
          clear HR2
          go_wp2_with fail
          go_roundw
          case rel => exact ⟨f, a2, ov2, o2, by have := HFF.out; have := HPS.out; omega, HI2, HR3'⟩
          case measure => rw [HPO.out, HPO2.out]; have := HPS.out; omega
        | true =>
          have HR3' : Aside0 ((inflT m manyF manyF []).run s 0 = .ok o2 a2) := ⟨HR2.out⟩
          clear HR2
          obtain ⟨oA, oc, hov⟩ := HI2.out.ix.slice
          subst hov
          have HI2d : Aside0 (InS w3 w6.drew x g s m a2 (.slice oA o2.length oc) o2) := ⟨HI2.out.ix.below (below_drew (Below.refl _ _)), HI2.out.be.trans (below_drew (Below.refl _ _))⟩
          have HPL := Aside0.mk (r_place g s a2 w6.drew HI2d.out.ix.rd)
          have cx2 := HI2d.out.ix.c2
          have cx0 := HI2d.out.ix.c0
          have hcv := Kd.C_string (P := Try.prog) Try.underlying33 Try.underlying5 Try.underlying9 (A := oA) (c := oc) (Kd.R_reads' HI2d.out.ix.ro).2.2
          have ha2 : (a2 : Int) ≤ 8000000000000000 := by have := HPS.out.2; have := HSZ.out; omega
          have hw7 : IntKind.i64.wrap ((a2 : Int) + 7) = (a2 : Int) + 7 := IntWalk.i64_in _ (by omega)
          have hq8 : ((a2 : Int) + 7).tdiv 8 = ((a2 : Int) + 7) / 8 := Int.tdiv_eq_ediv_of_nonneg (by omega)
          have hw8 : IntKind.i64.wrap (((a2 : Int) + 7) / 8) = ((a2 : Int) + 7) / 8 := IntWalk.i64_in _ (by omega)
          have HIR : Aside0 (inflR s m = (strOfNums o2, ((a2 : Int) + 7) / 8, 0)) := ⟨by
            unfold inflR infl
            rw [if_neg HM.out, Int.toNat_natCast, HR3'.out]
            show (strOfNums o2, (((a2 + 7) / 8 : Nat) : Int), (0 : Int)) = _
            rw [show (((a2 + 7) / 8 : Nat) : Int) = ((a2 : Int) + 7) / 8 by omega]⟩
          have n01 := HR3.out.n01
          have n02 := HR3.out.n02
          have n12 := HR3.out.n12
          have m01 := n01.symm
          have m02 := n02.symm
          have m12 := n12.symm
          clear HI2
          go_upto_region 6 with (fail)
          refine wp_region_noPanic ?_
          refine wp_region_any (by kernel_rfl) ?_
          change wpAny _ _ _ _ _ _ _ (World.drew _)
          generalize w6.drew = wd at HI2d HPL cx2 cx0 hcv ⊢
          -- REGION6
          refine wpAny_take (i := 0) (v := ?vm1) rfl (by kernel_rfl) (by kernel_rfl) (by kernel_rfl) (fun _ _ _ h => h) (Or.inl ⟨by kernel_rfl, ?ym1⟩) ?_
          case ym1 => (intro w; go_simp; try with_reducible rfl)
          refine wpAny_take (i := 1) (v := ?vm2) rfl (by kernel_rfl) (by kernel_rfl) (by kernel_rfl) (fun _ _ _ h => h) (Or.inl ⟨by kernel_rfl, ?ym2⟩) ?_
          case ym2 => (intro w; go_simp; try with_reducible rfl)
          refine wpAny_take (i := 2) (v := ?vm3) rfl (by kernel_rfl) (by kernel_rfl) (by kernel_rfl) (fun _ _ _ h => h) (Or.inl ⟨by kernel_rfl, ?ym3⟩) ?_
          case ym3 => (intro w; go_simp; try with_reducible rfl)
          refine wpAny_take (i := 5) (v := ?vm4) rfl (by kernel_rfl) (by kernel_rfl) (by kernel_rfl) (fun _ _ _ h => h) (Or.inl ⟨by kernel_rfl, ?ym4⟩) ?_
          case ym4 => (intro w; go_simp; try with_reducible rfl)
          refine wpAny_take (i := 6) (v := ?vm5) rfl (by kernel_rfl) (by kernel_rfl) (by kernel_rfl) (fun _ _ _ h => h) (Or.inl ⟨by kernel_rfl, ?ym5⟩) ?_
          case ym5 => (intro w; go_simp; try with_reducible rfl)
          refine wpAny_take (i := 7) (v := ?vm6) rfl (by kernel_rfl) (by kernel_rfl) (by kernel_rfl) (fun _ _ _ h => h) (Or.inl ⟨by kernel_rfl, ?ym6⟩) ?_
          case ym6 => (intro w; go_simp; try with_reducible rfl)
          refine wpAny_ready (rs := [3, 8]) (by kernel_rfl) (by simp) ?_
          refine (AllReady.cons rfl (fun K hK => ?_) (AllReady.cons rfl (fun K hK => ?_) AllReady.nil))
          · skip
            go_simp
            refine hK _ _ ?_
            clear hK K
            refine wpAny_ready (rs := [4, 8]) (by kernel_rfl) (by simp) ?_
            refine (AllReady.cons rfl (fun K hK => ?_) (AllReady.cons rfl (fun K hK => ?_) AllReady.nil))
            · skip
              go_simp
              refine hK _ _ ?_
              clear hK K
              refine wpAny_ready (rs := [8]) (by kernel_rfl) (by simp) ?_
              refine (AllReady.cons rfl (fun K hK => ?_) AllReady.nil)
              go_simp
              refine hK _ _ ?_
              clear hK K
              refine wpAny_ready (rs := [9]) (by kernel_rfl) (by simp) ?_
              refine (AllReady.cons rfl (fun K hK => ?_) AllReady.nil)
              go_simp
              go_wp2_with fail
              refine HPL.out.mono ?_
              rintro e w9 ⟨rfl, hr9, hf9⟩
              have HI9 : Aside0 (InS w3 w9 x g s m a2 (.slice oA o2.length oc) o2) := ⟨HI2d.out.ix.read hr9 HI2d.out.ix.le hf9, HI2d.out.be.trans (hf9.below HI2d.out.ix.base (fun k hk => by rw [hk]; exact HI2d.out.ix.hg))⟩
              have cx2b := HI9.out.ix.c2
              have hcvb := Kd.C_string (P := Try.prog) Try.underlying33 Try.underlying5 Try.underlying9 (A := oA) (c := oc) (Kd.R_reads' HI9.out.ix.ro).2.2
              have HRS9 := Aside0.mk (HR3.out.keep (Fr.of_below_all HI9.out.be (fun _ => False)) (fun h => h) (fun h => h) (fun h => h))
              have c0 := (blk_cell HRS9.out.b0 0).trans (rfl : _ = some (Value.string ⟨#[]⟩))
              have c1 := (blk_cell HRS9.out.b1 0).trans (rfl : _ = some (Value.int .i64 0))
              have c2 := (blk_cell HRS9.out.b2 0).trans (rfl : _ = some (Value.int .i64 0))
              have f0 := blk_frozen HRS9.out.b0 0
              have f1 := blk_frozen HRS9.out.b1 0
              have f2 := blk_frozen HRS9.out.b2 0
              clear hr9 hf9
              refine hK _ _ ?_
              clear hK K
              refine wpAny_take (i := 10) (v := ?vm7) rfl (by kernel_rfl) (by kernel_rfl) (by kernel_rfl) (fun _ _ _ h => h) (Or.inl ⟨by kernel_rfl, ?ym7⟩) ?_
              case ym7 => (intro w; go_simp; try with_reducible rfl)
              refine wpAny_take (i := 11) (v := ?vm8) rfl (by kernel_rfl) (by kernel_rfl) (by kernel_rfl) (fun _ _ _ h => h) (Or.inl ⟨by kernel_rfl, ?ym8⟩) ?_
              case ym8 => (intro w; go_simp; try with_reducible rfl)
              refine wpAny_ready (rs := [12]) (by kernel_rfl) (by simp) ?_
              refine (AllReady.cons rfl (fun K hK => ?_) AllReady.nil)
              go_simp
              refine hK _ _ ?_
              clear hK K
              refine wpAny_ready (rs := [13]) (by kernel_rfl) (by simp) ?_
              refine (AllReady.cons rfl (fun K hK => ?_) AllReady.nil)
              go_simp
              refine hK _ _ ?_
              clear hK K
              refine wpAny_ready (rs := [14]) (by kernel_rfl) (by simp) ?_
              refine (AllReady.cons rfl (fun K hK => ?_) AllReady.nil)
              go_simp
              refine hK _ _ ?_
              clear hK K
              refine wpAny_done (by kernel_rfl) ?_ _
              have HRL := HRS9.out.lay (strOfNums o2) (((a2 : Int) + 7) / 8) 0
              have hbz := (((HB3.out.trans (HI9.out.be.mono HB3.out.size)).setCell (p := ⟨p0, 0, none⟩) HPW.out.1 (.string (strOfNums o2))).setCell (p := ⟨p1, 0, none⟩) HPW.out.2.1 (.int .i64 (((a2 : Int) + 7) / 8))).setCell (p := ⟨p2, 0, none⟩) HPW.out.2.2 (.int .i64 0)
              generalize ((w9.setCell ⟨p0, 0, none⟩ (.string (strOfNums o2))).setCell ⟨p1, 0, none⟩ (.int .i64 (((a2 : Int) + 7) / 8))).setCell ⟨p2, 0, none⟩ (.int .i64 0) = wz at HRL hbz ⊢
              clear c0 c1 c2 f0 f1 f2
              have c0 := (blk_cell HRL.b0 0).trans (rfl : _ = some (Value.string (strOfNums o2)))
              have c1 := (blk_cell HRL.b1 0).trans (rfl : _ = some (Value.int .i64 (((a2 : Int) + 7) / 8)))
              have c2 := (blk_cell HRL.b2 0).trans (rfl : _ = some (Value.int .i64 0))
              refine nopanic_normal ?_
              go_wp2_with fail
              refine leaves_cons (f := 18) (args := #[.pointer (some ⟨p0, 0, none⟩), .pointer (some ⟨p1, 0, none⟩), .pointer (some ⟨p2, 0, none⟩)]) (by simp) (by simp [go_sem]) ?_
              refine (catch_idle _ _ _ _).mono ?_
              rintro e u' w'' ⟨rfl, rfl, rfl⟩
              rw [HIR.out]
              simp [Leaves, settle, results, Try.results10, go_sem, c0, c1, c2]
              exact hbz
            · skip
              go_simp
              refine hK _ _ ?_
              clear hK K
              refine wpAny_ready (rs := [4, 9]) (by kernel_rfl) (by simp) ?_
              refine (AllReady.cons rfl (fun K hK => ?_) (AllReady.cons rfl (fun K hK => ?_) AllReady.nil))
              · skip
                go_simp
                refine hK _ _ ?_
                clear hK K
                refine wpAny_ready (rs := [9]) (by kernel_rfl) (by simp) ?_
                refine (AllReady.cons rfl (fun K hK => ?_) AllReady.nil)
                go_simp
                go_wp2_with fail
                refine HPL.out.mono ?_
                rintro e w9 ⟨rfl, hr9, hf9⟩
                have HI9 : Aside0 (InS w3 w9 x g s m a2 (.slice oA o2.length oc) o2) := ⟨HI2d.out.ix.read hr9 HI2d.out.ix.le hf9, HI2d.out.be.trans (hf9.below HI2d.out.ix.base (fun k hk => by rw [hk]; exact HI2d.out.ix.hg))⟩
                have cx2b := HI9.out.ix.c2
                have hcvb := Kd.C_string (P := Try.prog) Try.underlying33 Try.underlying5 Try.underlying9 (A := oA) (c := oc) (Kd.R_reads' HI9.out.ix.ro).2.2
                have HRS9 := Aside0.mk (HR3.out.keep (Fr.of_below_all HI9.out.be (fun _ => False)) (fun h => h) (fun h => h) (fun h => h))
                have c0 := (blk_cell HRS9.out.b0 0).trans (rfl : _ = some (Value.string ⟨#[]⟩))
                have c1 := (blk_cell HRS9.out.b1 0).trans (rfl : _ = some (Value.int .i64 0))
                have c2 := (blk_cell HRS9.out.b2 0).trans (rfl : _ = some (Value.int .i64 0))
                have f0 := blk_frozen HRS9.out.b0 0
                have f1 := blk_frozen HRS9.out.b1 0
                have f2 := blk_frozen HRS9.out.b2 0
                clear hr9 hf9
                refine hK _ _ ?_
                clear hK K
                refine wpAny_take (i := 10) (v := ?vm9) rfl (by kernel_rfl) (by kernel_rfl) (by kernel_rfl) (fun _ _ _ h => h) (Or.inl ⟨by kernel_rfl, ?ym9⟩) ?_
                case ym9 => (intro w; go_simp; try with_reducible rfl)
                refine wpAny_take (i := 11) (v := ?vm10) rfl (by kernel_rfl) (by kernel_rfl) (by kernel_rfl) (fun _ _ _ h => h) (Or.inl ⟨by kernel_rfl, ?ym10⟩) ?_
                case ym10 => (intro w; go_simp; try with_reducible rfl)
                refine wpAny_ready (rs := [12]) (by kernel_rfl) (by simp) ?_
                refine (AllReady.cons rfl (fun K hK => ?_) AllReady.nil)
                go_simp
                refine hK _ _ ?_
                clear hK K
                refine wpAny_ready (rs := [13]) (by kernel_rfl) (by simp) ?_
                refine (AllReady.cons rfl (fun K hK => ?_) AllReady.nil)
                go_simp
                refine hK _ _ ?_
                clear hK K
                refine wpAny_ready (rs := [14]) (by kernel_rfl) (by simp) ?_
                refine (AllReady.cons rfl (fun K hK => ?_) AllReady.nil)
                go_simp
                refine hK _ _ ?_
                clear hK K
                refine wpAny_done (by kernel_rfl) ?_ _
                have HRL := HRS9.out.lay (strOfNums o2) (((a2 : Int) + 7) / 8) 0
                have hbz := (((HB3.out.trans (HI9.out.be.mono HB3.out.size)).setCell (p := ⟨p0, 0, none⟩) HPW.out.1 (.string (strOfNums o2))).setCell (p := ⟨p1, 0, none⟩) HPW.out.2.1 (.int .i64 (((a2 : Int) + 7) / 8))).setCell (p := ⟨p2, 0, none⟩) HPW.out.2.2 (.int .i64 0)
                generalize ((w9.setCell ⟨p0, 0, none⟩ (.string (strOfNums o2))).setCell ⟨p1, 0, none⟩ (.int .i64 (((a2 : Int) + 7) / 8))).setCell ⟨p2, 0, none⟩ (.int .i64 0) = wz at HRL hbz ⊢
                clear c0 c1 c2 f0 f1 f2
                have c0 := (blk_cell HRL.b0 0).trans (rfl : _ = some (Value.string (strOfNums o2)))
                have c1 := (blk_cell HRL.b1 0).trans (rfl : _ = some (Value.int .i64 (((a2 : Int) + 7) / 8)))
                have c2 := (blk_cell HRL.b2 0).trans (rfl : _ = some (Value.int .i64 0))
                refine nopanic_normal ?_
                go_wp2_with fail
                refine leaves_cons (f := 18) (args := #[.pointer (some ⟨p0, 0, none⟩), .pointer (some ⟨p1, 0, none⟩), .pointer (some ⟨p2, 0, none⟩)]) (by simp) (by simp [go_sem]) ?_
                refine (catch_idle _ _ _ _).mono ?_
                rintro e u' w'' ⟨rfl, rfl, rfl⟩
                rw [HIR.out]
                simp [Leaves, settle, results, Try.results10, go_sem, c0, c1, c2]
                exact hbz
              · skip
                go_simp
                go_wp2_with fail
                refine HPL.out.mono ?_
                rintro e w9 ⟨rfl, hr9, hf9⟩
                have HI9 : Aside0 (InS w3 w9 x g s m a2 (.slice oA o2.length oc) o2) := ⟨HI2d.out.ix.read hr9 HI2d.out.ix.le hf9, HI2d.out.be.trans (hf9.below HI2d.out.ix.base (fun k hk => by rw [hk]; exact HI2d.out.ix.hg))⟩
                have cx2b := HI9.out.ix.c2
                have hcvb := Kd.C_string (P := Try.prog) Try.underlying33 Try.underlying5 Try.underlying9 (A := oA) (c := oc) (Kd.R_reads' HI9.out.ix.ro).2.2
                have HRS9 := Aside0.mk (HR3.out.keep (Fr.of_below_all HI9.out.be (fun _ => False)) (fun h => h) (fun h => h) (fun h => h))
                have c0 := (blk_cell HRS9.out.b0 0).trans (rfl : _ = some (Value.string ⟨#[]⟩))
                have c1 := (blk_cell HRS9.out.b1 0).trans (rfl : _ = some (Value.int .i64 0))
                have c2 := (blk_cell HRS9.out.b2 0).trans (rfl : _ = some (Value.int .i64 0))
                have f0 := blk_frozen HRS9.out.b0 0
                have f1 := blk_frozen HRS9.out.b1 0
                have f2 := blk_frozen HRS9.out.b2 0
                clear hr9 hf9
                refine hK _ _ ?_
                clear hK K
                refine wpAny_take (i := 10) (v := ?vm11) rfl (by kernel_rfl) (by kernel_rfl) (by kernel_rfl) (fun _ _ _ h => h) (Or.inl ⟨by kernel_rfl, ?ym11⟩) ?_
                case ym11 => (intro w; go_simp; try with_reducible rfl)
                refine wpAny_take (i := 11) (v := ?vm12) rfl (by kernel_rfl) (by kernel_rfl) (by kernel_rfl) (fun _ _ _ h => h) (Or.inl ⟨by kernel_rfl, ?ym12⟩) ?_
                case ym12 => (intro w; go_simp; try with_reducible rfl)
                refine wpAny_ready (rs := [4]) (by kernel_rfl) (by simp) ?_
                refine (AllReady.cons rfl (fun K hK => ?_) AllReady.nil)
                go_simp
                refine hK _ _ ?_
                clear hK K
                refine wpAny_ready (rs := [12]) (by kernel_rfl) (by simp) ?_
                refine (AllReady.cons rfl (fun K hK => ?_) AllReady.nil)
                go_simp
                refine hK _ _ ?_
                clear hK K
                refine wpAny_ready (rs := [13]) (by kernel_rfl) (by simp) ?_
                refine (AllReady.cons rfl (fun K hK => ?_) AllReady.nil)
                go_simp
                refine hK _ _ ?_
                clear hK K
                refine wpAny_ready (rs := [14]) (by kernel_rfl) (by simp) ?_
                refine (AllReady.cons rfl (fun K hK => ?_) AllReady.nil)
                go_simp
                refine hK _ _ ?_
                clear hK K
                refine wpAny_done (by kernel_rfl) ?_ _
                have HRL := HRS9.out.lay (strOfNums o2) (((a2 : Int) + 7) / 8) 0
                have hbz := (((HB3.out.trans (HI9.out.be.mono HB3.out.size)).setCell (p := ⟨p0, 0, none⟩) HPW.out.1 (.string (strOfNums o2))).setCell (p := ⟨p1, 0, none⟩) HPW.out.2.1 (.int .i64 (((a2 : Int) + 7) / 8))).setCell (p := ⟨p2, 0, none⟩) HPW.out.2.2 (.int .i64 0)
                generalize ((w9.setCell ⟨p0, 0, none⟩ (.string (strOfNums o2))).setCell ⟨p1, 0, none⟩ (.int .i64 (((a2 : Int) + 7) / 8))).setCell ⟨p2, 0, none⟩ (.int .i64 0) = wz at HRL hbz ⊢
                clear c0 c1 c2 f0 f1 f2
                have c0 := (blk_cell HRL.b0 0).trans (rfl : _ = some (Value.string (strOfNums o2)))
                have c1 := (blk_cell HRL.b1 0).trans (rfl : _ = some (Value.int .i64 (((a2 : Int) + 7) / 8)))
                have c2 := (blk_cell HRL.b2 0).trans (rfl : _ = some (Value.int .i64 0))
                refine nopanic_normal ?_
                go_wp2_with fail
                refine leaves_cons (f := 18) (args := #[.pointer (some ⟨p0, 0, none⟩), .pointer (some ⟨p1, 0, none⟩), .pointer (some ⟨p2, 0, none⟩)]) (by simp) (by simp [go_sem]) ?_
                refine (catch_idle _ _ _ _).mono ?_
                rintro e u' w'' ⟨rfl, rfl, rfl⟩
                rw [HIR.out]
                simp [Leaves, settle, results, Try.results10, go_sem, c0, c1, c2]
                exact hbz
          · skip
            go_simp
            refine hK _ _ ?_
            clear hK K
            refine wpAny_ready (rs := [3, 9]) (by kernel_rfl) (by simp) ?_
            refine (AllReady.cons rfl (fun K hK => ?_) (AllReady.cons rfl (fun K hK => ?_) AllReady.nil))
            · skip
              go_simp
              refine hK _ _ ?_
              clear hK K
              refine wpAny_ready (rs := [4, 9]) (by kernel_rfl) (by simp) ?_
              refine (AllReady.cons rfl (fun K hK => ?_) (AllReady.cons rfl (fun K hK => ?_) AllReady.nil))
              · skip
                go_simp
                refine hK _ _ ?_
                clear hK K
                refine wpAny_ready (rs := [9]) (by kernel_rfl) (by simp) ?_
                refine (AllReady.cons rfl (fun K hK => ?_) AllReady.nil)
                go_simp
                go_wp2_with fail
                refine HPL.out.mono ?_
                rintro e w9 ⟨rfl, hr9, hf9⟩
                have HI9 : Aside0 (InS w3 w9 x g s m a2 (.slice oA o2.length oc) o2) := ⟨HI2d.out.ix.read hr9 HI2d.out.ix.le hf9, HI2d.out.be.trans (hf9.below HI2d.out.ix.base (fun k hk => by rw [hk]; exact HI2d.out.ix.hg))⟩
                have cx2b := HI9.out.ix.c2
                have hcvb := Kd.C_string (P := Try.prog) Try.underlying33 Try.underlying5 Try.underlying9 (A := oA) (c := oc) (Kd.R_reads' HI9.out.ix.ro).2.2
                have HRS9 := Aside0.mk (HR3.out.keep (Fr.of_below_all HI9.out.be (fun _ => False)) (fun h => h) (fun h => h) (fun h => h))
                have c0 := (blk_cell HRS9.out.b0 0).trans (rfl : _ = some (Value.string ⟨#[]⟩))
                have c1 := (blk_cell HRS9.out.b1 0).trans (rfl : _ = some (Value.int .i64 0))
                have c2 := (blk_cell HRS9.out.b2 0).trans (rfl : _ = some (Value.int .i64 0))
                have f0 := blk_frozen HRS9.out.b0 0
                have f1 := blk_frozen HRS9.out.b1 0
                have f2 := blk_frozen HRS9.out.b2 0
                clear hr9 hf9
                refine hK _ _ ?_
                clear hK K
                refine wpAny_take (i := 10) (v := ?vm13) rfl (by kernel_rfl) (by kernel_rfl) (by kernel_rfl) (fun _ _ _ h => h) (Or.inl ⟨by kernel_rfl, ?ym13⟩) ?_
                case ym13 => (intro w; go_simp; try with_reducible rfl)
                refine wpAny_take (i := 11) (v := ?vm14) rfl (by kernel_rfl) (by kernel_rfl) (by kernel_rfl) (fun _ _ _ h => h) (Or.inl ⟨by kernel_rfl, ?ym14⟩) ?_
                case ym14 => (intro w; go_simp; try with_reducible rfl)
                refine wpAny_ready (rs := [12]) (by kernel_rfl) (by simp) ?_
                refine (AllReady.cons rfl (fun K hK => ?_) AllReady.nil)
                go_simp
                refine hK _ _ ?_
                clear hK K
                refine wpAny_ready (rs := [13]) (by kernel_rfl) (by simp) ?_
                refine (AllReady.cons rfl (fun K hK => ?_) AllReady.nil)
                go_simp
                refine hK _ _ ?_
                clear hK K
                refine wpAny_ready (rs := [14]) (by kernel_rfl) (by simp) ?_
                refine (AllReady.cons rfl (fun K hK => ?_) AllReady.nil)
                go_simp
                refine hK _ _ ?_
                clear hK K
                refine wpAny_done (by kernel_rfl) ?_ _
                have HRL := HRS9.out.lay (strOfNums o2) (((a2 : Int) + 7) / 8) 0
                have hbz := (((HB3.out.trans (HI9.out.be.mono HB3.out.size)).setCell (p := ⟨p0, 0, none⟩) HPW.out.1 (.string (strOfNums o2))).setCell (p := ⟨p1, 0, none⟩) HPW.out.2.1 (.int .i64 (((a2 : Int) + 7) / 8))).setCell (p := ⟨p2, 0, none⟩) HPW.out.2.2 (.int .i64 0)
                generalize ((w9.setCell ⟨p0, 0, none⟩ (.string (strOfNums o2))).setCell ⟨p1, 0, none⟩ (.int .i64 (((a2 : Int) + 7) / 8))).setCell ⟨p2, 0, none⟩ (.int .i64 0) = wz at HRL hbz ⊢
                clear c0 c1 c2 f0 f1 f2
                have c0 := (blk_cell HRL.b0 0).trans (rfl : _ = some (Value.string (strOfNums o2)))
                have c1 := (blk_cell HRL.b1 0).trans (rfl : _ = some (Value.int .i64 (((a2 : Int) + 7) / 8)))
                have c2 := (blk_cell HRL.b2 0).trans (rfl : _ = some (Value.int .i64 0))
                refine nopanic_normal ?_
                go_wp2_with fail
                refine leaves_cons (f := 18) (args := #[.pointer (some ⟨p0, 0, none⟩), .pointer (some ⟨p1, 0, none⟩), .pointer (some ⟨p2, 0, none⟩)]) (by simp) (by simp [go_sem]) ?_
                refine (catch_idle _ _ _ _).mono ?_
                rintro e u' w'' ⟨rfl, rfl, rfl⟩
                rw [HIR.out]
                simp [Leaves, settle, results, Try.results10, go_sem, c0, c1, c2]
                exact hbz
              · skip
                go_simp
                go_wp2_with fail
                refine HPL.out.mono ?_
                rintro e w9 ⟨rfl, hr9, hf9⟩
                have HI9 : Aside0 (InS w3 w9 x g s m a2 (.slice oA o2.length oc) o2) := ⟨HI2d.out.ix.read hr9 HI2d.out.ix.le hf9, HI2d.out.be.trans (hf9.below HI2d.out.ix.base (fun k hk => by rw [hk]; exact HI2d.out.ix.hg))⟩
                have cx2b := HI9.out.ix.c2
                have hcvb := Kd.C_string (P := Try.prog) Try.underlying33 Try.underlying5 Try.underlying9 (A := oA) (c := oc) (Kd.R_reads' HI9.out.ix.ro).2.2
                have HRS9 := Aside0.mk (HR3.out.keep (Fr.of_below_all HI9.out.be (fun _ => False)) (fun h => h) (fun h => h) (fun h => h))
                have c0 := (blk_cell HRS9.out.b0 0).trans (rfl : _ = some (Value.string ⟨#[]⟩))
                have c1 := (blk_cell HRS9.out.b1 0).trans (rfl : _ = some (Value.int .i64 0))
                have c2 := (blk_cell HRS9.out.b2 0).trans (rfl : _ = some (Value.int .i64 0))
                have f0 := blk_frozen HRS9.out.b0 0
                have f1 := blk_frozen HRS9.out.b1 0
                have f2 := blk_frozen HRS9.out.b2 0
                clear hr9 hf9
                refine hK _ _ ?_
                clear hK K
                refine wpAny_take (i := 10) (v := ?vm15) rfl (by kernel_rfl) (by kernel_rfl) (by kernel_rfl) (fun _ _ _ h => h) (Or.inl ⟨by kernel_rfl, ?ym15⟩) ?_
                case ym15 => (intro w; go_simp; try with_reducible rfl)
                refine wpAny_take (i := 11) (v := ?vm16) rfl (by kernel_rfl) (by kernel_rfl) (by kernel_rfl) (fun _ _ _ h => h) (Or.inl ⟨by kernel_rfl, ?ym16⟩) ?_
                case ym16 => (intro w; go_simp; try with_reducible rfl)
                refine wpAny_ready (rs := [4]) (by kernel_rfl) (by simp) ?_
                refine (AllReady.cons rfl (fun K hK => ?_) AllReady.nil)
                go_simp
                refine hK _ _ ?_
                clear hK K
                refine wpAny_ready (rs := [12]) (by kernel_rfl) (by simp) ?_
                refine (AllReady.cons rfl (fun K hK => ?_) AllReady.nil)
                go_simp
                refine hK _ _ ?_
                clear hK K
                refine wpAny_ready (rs := [13]) (by kernel_rfl) (by simp) ?_
                refine (AllReady.cons rfl (fun K hK => ?_) AllReady.nil)
                go_simp
                refine hK _ _ ?_
                clear hK K
                refine wpAny_ready (rs := [14]) (by kernel_rfl) (by simp) ?_
                refine (AllReady.cons rfl (fun K hK => ?_) AllReady.nil)
                go_simp
                refine hK _ _ ?_
                clear hK K
                refine wpAny_done (by kernel_rfl) ?_ _
                have HRL := HRS9.out.lay (strOfNums o2) (((a2 : Int) + 7) / 8) 0
                have hbz := (((HB3.out.trans (HI9.out.be.mono HB3.out.size)).setCell (p := ⟨p0, 0, none⟩) HPW.out.1 (.string (strOfNums o2))).setCell (p := ⟨p1, 0, none⟩) HPW.out.2.1 (.int .i64 (((a2 : Int) + 7) / 8))).setCell (p := ⟨p2, 0, none⟩) HPW.out.2.2 (.int .i64 0)
                generalize ((w9.setCell ⟨p0, 0, none⟩ (.string (strOfNums o2))).setCell ⟨p1, 0, none⟩ (.int .i64 (((a2 : Int) + 7) / 8))).setCell ⟨p2, 0, none⟩ (.int .i64 0) = wz at HRL hbz ⊢
                clear c0 c1 c2 f0 f1 f2
                have c0 := (blk_cell HRL.b0 0).trans (rfl : _ = some (Value.string (strOfNums o2)))
                have c1 := (blk_cell HRL.b1 0).trans (rfl : _ = some (Value.int .i64 (((a2 : Int) + 7) / 8)))
                have c2 := (blk_cell HRL.b2 0).trans (rfl : _ = some (Value.int .i64 0))
                refine nopanic_normal ?_
                go_wp2_with fail
                refine leaves_cons (f := 18) (args := #[.pointer (some ⟨p0, 0, none⟩), .pointer (some ⟨p1, 0, none⟩), .pointer (some ⟨p2, 0, none⟩)]) (by simp) (by simp [go_sem]) ?_
                refine (catch_idle _ _ _ _).mono ?_
                rintro e u' w'' ⟨rfl, rfl, rfl⟩
                rw [HIR.out]
                simp [Leaves, settle, results, Try.results10, go_sem, c0, c1, c2]
                exact hbz
            · skip
              go_simp
              go_wp2_with fail
              refine HPL.out.mono ?_
              rintro e w9 ⟨rfl, hr9, hf9⟩
              have HI9 : Aside0 (InS w3 w9 x g s m a2 (.slice oA o2.length oc) o2) := ⟨HI2d.out.ix.read hr9 HI2d.out.ix.le hf9, HI2d.out.be.trans (hf9.below HI2d.out.ix.base (fun k hk => by rw [hk]; exact HI2d.out.ix.hg))⟩
              have cx2b := HI9.out.ix.c2
              have hcvb := Kd.C_string (P := Try.prog) Try.underlying33 Try.underlying5 Try.underlying9 (A := oA) (c := oc) (Kd.R_reads' HI9.out.ix.ro).2.2
              have HRS9 := Aside0.mk (HR3.out.keep (Fr.of_below_all HI9.out.be (fun _ => False)) (fun h => h) (fun h => h) (fun h => h))
              have c0 := (blk_cell HRS9.out.b0 0).trans (rfl : _ = some (Value.string ⟨#[]⟩))
              have c1 := (blk_cell HRS9.out.b1 0).trans (rfl : _ = some (Value.int .i64 0))
              have c2 := (blk_cell HRS9.out.b2 0).trans (rfl : _ = some (Value.int .i64 0))
              have f0 := blk_frozen HRS9.out.b0 0
              have f1 := blk_frozen HRS9.out.b1 0
              have f2 := blk_frozen HRS9.out.b2 0
              clear hr9 hf9
              refine hK _ _ ?_
              clear hK K
              refine wpAny_take (i := 10) (v := ?vm17) rfl (by kernel_rfl) (by kernel_rfl) (by kernel_rfl) (fun _ _ _ h => h) (Or.inl ⟨by kernel_rfl, ?ym17⟩) ?_
              case ym17 => (intro w; go_simp; try with_reducible rfl)
              refine wpAny_take (i := 11) (v := ?vm18) rfl (by kernel_rfl) (by kernel_rfl) (by kernel_rfl) (fun _ _ _ h => h) (Or.inl ⟨by kernel_rfl, ?ym18⟩) ?_
              case ym18 => (intro w; go_simp; try with_reducible rfl)
              refine wpAny_ready (rs := [3]) (by kernel_rfl) (by simp) ?_
              refine (AllReady.cons rfl (fun K hK => ?_) AllReady.nil)
              go_simp
              refine hK _ _ ?_
              clear hK K
              refine wpAny_ready (rs := [4]) (by kernel_rfl) (by simp) ?_
              refine (AllReady.cons rfl (fun K hK => ?_) AllReady.nil)
              go_simp
              refine hK _ _ ?_
              clear hK K
              refine wpAny_ready (rs := [12]) (by kernel_rfl) (by simp) ?_
              refine (AllReady.cons rfl (fun K hK => ?_) AllReady.nil)
              go_simp
              refine hK _ _ ?_
              clear hK K
              refine wpAny_ready (rs := [13]) (by kernel_rfl) (by simp) ?_
              refine (AllReady.cons rfl (fun K hK => ?_) AllReady.nil)
              go_simp
              refine hK _ _ ?_
              clear hK K
              refine wpAny_ready (rs := [14]) (by kernel_rfl) (by simp) ?_
              refine (AllReady.cons rfl (fun K hK => ?_) AllReady.nil)
              go_simp
              refine hK _ _ ?_
              clear hK K
              refine wpAny_done (by kernel_rfl) ?_ _
              have HRL := HRS9.out.lay (strOfNums o2) (((a2 : Int) + 7) / 8) 0
              have hbz := (((HB3.out.trans (HI9.out.be.mono HB3.out.size)).setCell (p := ⟨p0, 0, none⟩) HPW.out.1 (.string (strOfNums o2))).setCell (p := ⟨p1, 0, none⟩) HPW.out.2.1 (.int .i64 (((a2 : Int) + 7) / 8))).setCell (p := ⟨p2, 0, none⟩) HPW.out.2.2 (.int .i64 0)
              generalize ((w9.setCell ⟨p0, 0, none⟩ (.string (strOfNums o2))).setCell ⟨p1, 0, none⟩ (.int .i64 (((a2 : Int) + 7) / 8))).setCell ⟨p2, 0, none⟩ (.int .i64 0) = wz at HRL hbz ⊢
              clear c0 c1 c2 f0 f1 f2
              have c0 := (blk_cell HRL.b0 0).trans (rfl : _ = some (Value.string (strOfNums o2)))
              have c1 := (blk_cell HRL.b1 0).trans (rfl : _ = some (Value.int .i64 (((a2 : Int) + 7) / 8)))
              have c2 := (blk_cell HRL.b2 0).trans (rfl : _ = some (Value.int .i64 0))
              refine nopanic_normal ?_
              go_wp2_with fail
              refine leaves_cons (f := 18) (args := #[.pointer (some ⟨p0, 0, none⟩), .pointer (some ⟨p1, 0, none⟩), .pointer (some ⟨p2, 0, none⟩)]) (by simp) (by simp [go_sem]) ?_
              refine (catch_idle _ _ _ _).mono ?_
              rintro e u' w'' ⟨rfl, rfl, rfl⟩
              rw [HIR.out]
              simp [Leaves, settle, results, Try.results10, go_sem, c0, c1, c2]
              exact hbz
          -- REGION6 END
end Go.Proofs.Yteffjbjhkaobfaa.HI
