/- The document's Inflate: walked. What must come, whatever the arguments are: walked. -/
import Derived.Test.YteffjbjhkaobfaaGJ
import Derived.Test.YteffjbjhkaobfaaGI
import Derived.Test.YteffjbjhkaobfaaGH
import Derived.Test.YteffjbjhkaobfaaHRow
namespace Go.Proofs.Yteffjbjhkaobfaa.HI
open Go.RowKit Go.Proofs.YteffjbjhkaobfaaW.PrintWords Go.Proofs.YteffjbjhkaobfaaW.PrintLast Go.Proofs.YteffjbjhkaobfaaW.PrintMore Go.Proofs.Yteffjbjhkaobfaa.HW Go.Proofs.Yteffjbjhkaobfaa.MB Go.Proofs.Yteffjbjhkaobfaa.Fn Go.Proofs.Yteffjbjhkaobfaa.HF Go.Proofs.Yteffjbjhkaobfaa.RT Go.Proofs.Yteffjbjhkaobfaa.RT.Rd Go.Proofs.Yteffjbjhkaobfaa.HP
attribute [local go_sem] max2_int min2_int max_two min_two max_three min_three max_four min_four   -- for this text's walks alone
theorem bV_no {s : ByteArray} {a : Nat} {er : Int} {n : Nat} (h : bE s a er n ≠ 0) : bV s a er n = 0 := by
  unfold bE at h
  unfold bV
  rw [if_neg]
  rintro ⟨h1, h2⟩
  rw [if_pos h1, if_pos h2] at h
  exact h rfl
theorem bA_ge (s : ByteArray) (a : Nat) (er : Int) (n : Nat) : a ≤ bA s a er n := by
  unfold bA
  split <;> omega
theorem bA_one {s : ByteArray} {a : Nat} {er : Int} {n : Nat} (h : bE s a er n = 0) (h0 : er = 0) : bA s a er n = a + n := by
  subst h0
  unfold bE at h
  rw [if_pos rfl] at h
  unfold bA
  by_cases hn : a + n ≤ 8 * s.size
  · rw [if_pos ⟨rfl, hn⟩]
  · rw [if_neg hn] at h
    exact absurd h (by decide)
/-- A block behind its head. -/
def kindT (most F : Nat) (out : List Int) (kind : Nat) : Rd (List Int) :=
  if kind = 0 then storedT most out else if kind = 1 then packedT most fixL (some fixD) F out else if kind = 2 then dynamicT.bind (fun z => packedT most z.1 (tableO z.2) F out) else err 40
theorem infl_step (most F f : Nat) (out : List Int) (s : ByteArray) (a : Nat) (ha : a ≤ 8 * s.size) : runS 0 (inflT most F (f + 1) out) s a =
    runS (bE s (bA s a 0 1) (bE s a 0 1) 2) ((kindT most F out (bV s (bA s a 0 1) (bE s a 0 1) 2)).bind fun o => if bV s a 0 1 = 1 then ret o else inflT most F f o) s (bA s (bA s a 0 1) (bE s a 0 1) 2) := by
  have : inflT most F (f + 1) out = (bitsN 1).bind fun last => (bitsN 2).bind fun kind => (kindT most F out kind).bind fun o => if last = 1 then ret o else inflT most F f o := by
    show (blockT most F out).bind _ = _
    unfold blockT
    rw [bind_assoc]
    congr 1
    funext last
    rw [bind_assoc]
    congr 1
    funext kind
    rw [bind_assoc]
    show (kindT most F out kind).bind _ = _
    congr 1
    funext o
    show (if decide (last = 1) = true then ret o else inflT most F f o) = _
    by_cases h : last = 1
    · rw [if_pos h, if_pos (decide_eq_true h)]
    · rw [if_neg h, if_neg (by rw [decide_eq_false h]; exact Bool.false_ne_true)]
  rw [this, runS_bits _ _ _ _ _ ha, runS_bits _ _ _ _ _ (bA_le s a 0 1 ha)]
theorem two_blocks (w : World) (c1 c2 : Array Value) : Below w.heap.size w ((w.alloc (.cells c1 57)).alloc (.cells c2 57)) ∧ ((w.alloc (.cells c1 57)).alloc (.cells c2 57)).heap[w.heap.size]? = some (.cells c1 57 (0, 0)) ∧ ((w.alloc (.cells c1 57)).alloc (.cells c2 57)).heap[w.heap.size + 1]? = some (.cells c2 57 (0, 0)) := by
  have hs1 := alloc_size w (.cells c1 57)
  have hb1 := below_alloc (Below.refl w.heap.size w) (.cells c1 57)
  have hb2 := below_alloc (Below.refl (w.alloc (.cells c1 57)).heap.size (w.alloc (.cells c1 57))) (.cells c2 57)
  refine ⟨hb1.trans (hb2.mono hb1.size), blk_below (heap_alloc_new _ _) hb2, ?_⟩
  rw [← hs1]
  exact heap_alloc_new _ _
/-- What is to be read behind a block. -/
def RB (R : Res (List Int)) (s : ByteArray) (m lv a : Nat) (o : List Int) (er : Int) : Prop :=
  ∃ f, (er = 0 → (lv = 0 ∧ 8 * s.size < f + a ∧ R = runS 0 (inflT m manyF f o) s a) ∨ (lv ≠ 0 ∧ R = .ok o a)) ∧ (er ≠ 0 → R = .no er)
theorem RB_ok {R : Res (List Int)} {s : ByteArray} {m lv a2 a3 f : Nat} {o' : List Int} {t : Rd (List Int)} (hR : R = runS 0 (t.bind fun o => if lv = 1 then ret o else inflT m manyF f o) s a2) (h : t.run s a2 = .ok o' a3) (hl : lv < 2) (hf : 8 * s.size < f + a3) : RB R s m lv a3 o' 0 := by
  rw [runS_0, run_bind, h] at hR
  refine ⟨f, fun _ => ?_, fun h => absurd rfl h⟩
  by_cases h1 : lv = 1
  · right
    refine ⟨by omega, ?_⟩
    rw [hR]
    simp only [h1]
    rfl
  · left
    refine ⟨by omega, hf, ?_⟩
    rw [hR, runS_0]
    simp only [h1, if_false]
theorem RB_no {R : Res (List Int)} {s : ByteArray} {m lv a2 a3 : Nat} {o' : List Int} {t : Rd (List Int)} {er : Int} {G : List Int → Rd (List Int)} (hR : R = runS 0 (t.bind G) s a2) (h : t.run s a2 = .no er) (h0 : er ≠ 0) : RB R s m lv a3 o' er := by
  rw [runS_0, run_bind, h] at hR
  exact ⟨0, fun h => absurd h h0, fun _ => hR⟩
theorem RB_is {R : Res (List Int)} {s : ByteArray} {m lv a : Nat} {o : List Int} {er : Int} (h : R = .no er) (h0 : er ≠ 0) : RB R s m lv a o er := ⟨0, fun h => absurd h h0, fun _ => h⟩
set_option maxRecDepth 100000 in
set_option maxHeartbeats 40000000 in
theorem rinflateQ (s : ByteArray) (hs : s.size ≤ 1000000000000000) (most : Int) (W : World) :
    Calls Try.prog 11 #[.string s, .int .i64 most] W fun e w' => e = .returned (.tuple #[.string (inflR s most).1, .int .i64 (inflR s most).2.1, .int .i64 (inflR s most).2.2]) ∧ Below W.heap.size W w' := by
  by_cases hm : most < 0 ∨ 1048576 < most
  · have he : inflR s most = (⟨#[]⟩, 0, 1) := if_pos hm
    rw [he]
    by_cases h0 : most < 0
    · have b1 : decide (most < 0) = true := decide_eq_true h0
      clear hm he
      go_enter Try.func11, Try.ntmps11
      go_wp2_with fail
      go_ret3
      exact ⟨rfl, Below.refl _ _⟩
    · have b1 : decide (most < 0) = false := decide_eq_false h0
      have h1 : (1048576 : Int) < most := by omega
      have b2 : decide ((1048576 : Int) < most) = true := decide_eq_true h1
      clear hm he
      go_enter Try.func11, Try.ntmps11
      go_wp2_with fail
      go_ret3
      exact ⟨rfl, Below.refl _ _⟩
  · have HM := Aside0.mk hm
    have HSZ := Aside0.mk hs
    obtain ⟨m, rfl⟩ : ∃ m : Nat, most = m := ⟨most.toNat, by omega⟩
    have b1 : decide ((m : Int) < 0) = false := decide_eq_false (by omega)
    have b2 : decide ((1048576 : Int) < (m : Int)) = false := decide_eq_false (by omega)
    have b3 : ¬ (1048576 : Int) < (m : Int) := by omega
    have b4 : ¬ (m : Int) < 0 := by omega
    have b5 : decide (1048576 < m) = false := decide_eq_false (by omega)
    obtain ⟨r, hr⟩ : ∃ z, W.heap.size = z := ⟨_, rfl⟩
    have hB := below_alloc (Below.refl W.heap.size W) (.cells #[.string s, .int .i64 0, .int .i64 m, .slice none 0 0, .int .i64 0] 54)
    have HB := Aside0.mk hB
    have HQ0 : Aside0 (IsQ (W.alloc (.cells #[.string s, .int .i64 0, .int .i64 m, .slice none 0 0, .int .i64 0] 54)) r r (.slice none 0 0) s 0 m [] 0) := ⟨⟨by rw [← hr]; exact heap_alloc_new _ _, Kd.R_nil _ _ _ _ _, Nat.le_refl _, Nat.zero_le _, hs, by omega, Nat.zero_le _⟩⟩
    clear hm hs hB
    go_enter Try.func11, Try.ntmps11
    go_upto_block 0 with (fail)
    obtain ⟨R, hR⟩ : ∃ R, R = (inflT m manyF manyF []).run s 0 := ⟨_, rfl⟩
    have HRR := Aside0.mk hR
    have HRB0 : Aside0 (RB R s m 0 0 [] 0) := ⟨⟨manyF, fun _ => Or.inl ⟨rfl, by have := HSZ.out; unfold manyF; omega, by rw [hR, runS_0]⟩, fun h => absurd rfl h⟩⟩
    clear hR
    generalize W.alloc (.cells #[.string s, .int .i64 0, .int .i64 m, .slice none 0 0, .int .i64 0] 54) = W1 at HB HQ0 ⊢
    have HG0 := Aside0.mk (QG.start HQ0.out)
    go_cut [8] (fun _ w => ∃ (a : Nat) (ov : Value) (o : List Int) (er : Int), Aside0 (QG W1 w r r (.slice none 0 0) s m a ov o er) ∧ Aside0 (R = if er = 0 then .ok o a else .no er))
    case first =>
      go_wp2_with fail
      go_loopw [8] (fun v8 wr => ∃ (lv a : Nat) (ov : Value) (o : List Int) (er : Int), v8 = .int .i64 lv ∧ Aside0 (QG W1 wr r r (.slice none 0 0) s m a ov o er) ∧ Aside0 (RB R s m lv a o er)) (fun _ wr => posQ r s wr)
      case atStart => exact ⟨0, 0, _, [], 0, rfl, HG0, HRB0⟩
      case round =>
        clear HG0 HRB0
        obtain ⟨lv, a, ov, o, er, rfl, HG, HRB⟩ := hrel
        have c4 := HG.out.ix.c4
        by_cases hl : lv = 0
        · have b6 : decide (lv = 0) = true := decide_eq_true hl
          have b7 : decide ((lv : Int) = 0) = true := decide_eq_true (by omega)
          have b8 : ((lv : Int) == 0) = true := by rw [beq_iff_eq]; omega
          have b9 : (lv == 0) = true := by rw [beq_iff_eq]; exact hl
          by_cases h0 : er = 0
          · subst h0
            subst hl
            obtain ⟨f, hf, hR⟩ : ∃ f, 8 * s.size < f + a ∧ R = runS 0 (inflT m manyF f o) s a := by
              obtain ⟨f, h1, _⟩ := HRB.out
              rcases h1 rfl with h | h
              · exact ⟨f, h.2⟩
              · exact absurd rfl h.1
            have hle := HG.out.ix.le
            obtain ⟨f, rfl⟩ : ∃ f', f = f' + 1 := ⟨f - 1, by omega⟩
            rw [infl_step _ _ _ _ _ _ hle] at hR
            have HPO : Aside0 (posQ r s wr = 8 * s.size + 1 - a) := ⟨(posQ_is HG.out.ix).trans (if_pos rfl)⟩
            obtain ⟨lw, hlw⟩ : ∃ z, bV s a 0 1 = z := ⟨_, rfl⟩
            have hlw2 : lw < 2 := by rw [← hlw]; exact bV_lt s a 0 1
            obtain ⟨a1, ha1⟩ : ∃ z, bA s a 0 1 = z := ⟨_, rfl⟩
            obtain ⟨e1, he1⟩ : ∃ z, bE s a 0 1 = z := ⟨_, rfl⟩
            have HB1 := Aside0.mk (bitsQ_any HG.out.ix 1 (by decide))
            have hal1 := bA_le s a 0 1 hle
            have hon := bA_one (s := s) (a := a) (er := 0) (n := 1)
            rw [hlw, ha1, he1] at hR HB1
            rw [ha1] at hal1
            rw [ha1, he1] at hon
            obtain ⟨kd, hkd⟩ : ∃ z, bV s a1 e1 2 = z := ⟨_, rfl⟩
            have hkd4 : kd < 4 := by rw [← hkd]; exact bV_lt s a1 e1 2
            obtain ⟨a2, ha2⟩ : ∃ z, bA s a1 e1 2 = z := ⟨_, rfl⟩
            obtain ⟨e2, he2⟩ : ∃ z, bE s a1 e1 2 = z := ⟨_, rfl⟩
            have hal2 := bA_le s a1 e1 2 hal1
            have hge := bA_ge s a1 e1 2
            have hz := bV_no (s := s) (a := a1) (er := e1) (n := 2)
            have he0 := bE_0 (s := s) (a := a1) (er := e1) (n := 2)
            rw [hkd, he2] at hz
            rw [ha2] at hge hal2
            rw [he2] at he0
            rw [hkd, ha2, he2] at hR
            have HE2 := Aside0.mk (And.intro hkd (And.intro ha2 he2))
            have HGT : Aside0 (e2 = 0 → a < a2) := ⟨fun h => by have := hon (he0 h) rfl; omega⟩
            have HRN := Aside0.mk hR
            have HFF := Aside0.mk hf
            have HLE := Aside0.mk (And.intro hle hal2)
            have HLW := Aside0.mk hlw2
            clear hR hlw hlw2 ha1 he1 hkd ha2 he2 hal1 hal2 hge he0 hon hle hf HRB
            go_wp2_with fail
            refine HB1.out.mono ?_
            rintro e w1 ⟨rfl, hx, hfr⟩
            have HG1 := Aside0.mk (HG.out.used hx (QS_of_r hfr) (AtB.refl _ _))
            have HB2 := Aside0.mk (bitsQ_any HG1.out.ix 2 (by decide))
            rw [HE2.out.1, HE2.out.2.1, HE2.out.2.2] at HB2
            clear hx hfr HB1
            go_wp2_with fail
            refine HB2.out.mono ?_
            rintro e w2 ⟨rfl, hx, hfr⟩
            have HG2 := Aside0.mk (HG1.out.used hx (QS_of_r hfr) (AtB.refl _ _))
            have c4 := HG2.out.ix.c4
            clear hx hfr HB2 HG1 HE2
            by_cases h2 : e2 = 0
            · subst h2
              have HGT2 := Aside0.mk (HGT.out rfl)
              clear hz HGT
              by_cases hk0 : kd = 0
              · subst hk0
                clear hkd4
                have HST := Aside0.mk (storedQ HG2.out.ix)
                go_wp2_with fail
                refine HST.out.mono ?_
                cases hst : (storedT m o).run s a2 with
                | no er =>
                  rintro e w3 ⟨rfl, hne, a', ov', out', hx, hfr, hat⟩
                  have HG3 := Aside0.mk (HG2.out.used hx hfr hat)
                  have HRB : Aside0 (RB R s m lw a' out' er) := ⟨RB_no HRN.out hst hne⟩
                  have HPO2 : Aside0 (posQ r s w3 = 0) := ⟨(posQ_is hx).trans (if_neg hne)⟩
                  clear hx hfr hat hst hne HST
                  go_wp2_with fail
                  go_roundw
                  case rel => exact ⟨lw, a', ov', out', er, rfl, HG3, HRB⟩
                  case measure => rw [HPO.out, HPO2.out]; have := HLE.out.1; omega
                | ok o3 a3 =>
                  rintro e w3 ⟨rfl, ov', hx, hfr, hat⟩
                  have HG3 := Aside0.mk (HG2.out.used hx hfr hat)
                  have hp := run_place s _ a2 o3 a3 HLE.out.2 hst
                  have HRB : Aside0 (RB R s m lw a3 o3 0) := ⟨RB_ok HRN.out hst HLW.out (by have := HFF.out; have := HGT2.out; omega)⟩
                  have HPO2 : Aside0 (posQ r s w3 = 8 * s.size + 1 - a3) := ⟨(posQ_is hx).trans (if_pos rfl)⟩
                  have HPP := Aside0.mk hp
                  clear hx hfr hat hst HST hp
                  go_wp2_with fail
                  go_roundw
                  case rel => exact ⟨lw, a3, ov', o3, 0, rfl, HG3, HRB⟩
                  case measure => rw [HPO.out, HPO2.out]; have := HLE.out.1; have := HGT2.out; have := HPP.out; omega
              · by_cases hk1 : kd = 1
                · subst hk1
                  clear hk0 hkd4
                  have HFX := Aside0.mk (fixedQ w2)
                  go_wp2_with fail
                  refine HFX.out.mono ?_
                  rintro e w3 ⟨cv, dv, rfl, hc, hd, hb⟩
                  obtain ⟨A1, n1, y1, A2, n2, y2, rfl⟩ := hc.agg
                  obtain ⟨A3, n3, y3, A4, n4, y4, rfl⟩ := hd.agg
                  have HG3 := Aside0.mk (HG2.out.below hb)
                  have HCc := Aside0.mk hc
                  have HCd := Aside0.mk hd
                  clear hc hd hb HFX
                  go_upto_region 14 with (fail)
                  obtain ⟨hb2, hx1, hx2⟩ := two_blocks w3 #[.slice A1 n1 y1, .slice A2 n2 y2] #[.slice A3 n3 y3, .slice A4 n4 y4]
                  have HG4 := Aside0.mk (HG3.out.below hb2)
                  have HC4 := Aside0.mk (HCc.out.below hb2)
                  have HD4 := Aside0.mk (HCd.out.below hb2)
                  obtain ⟨P, hP⟩ : ∃ z, w3.heap.size = z := ⟨_, rfl⟩
                  rw [hP] at hx1 hx2 HC4 HD4 ⊢
                  generalize (w3.alloc (.cells #[.slice A1 n1 y1, .slice A2 n2 y2] 57)).alloc (.cells #[.slice A3 n3 y3, .slice A4 n4 y4] 57) = w4 at HG4 HC4 HD4 hx1 hx2 ⊢
                  have d0 := blk_cell hx1 0
                  have d1 := blk_cell hx1 1
                  have g0 := blk_cell hx2 0
                  have g1 := blk_cell hx2 1
                  have HPK := Aside0.mk (packedQ HG4.out.ix HC4.out HD4.out fixL_ok (by decide +kernel) fixD_ok (by decide +kernel) manyF (by have := HSZ.out; unfold manyF; omega))
                  clear hb2 hP hx1 hx2 HG3 HCc HCd
                  go_wp2_with fail
                  refine HPK.out.mono ?_
                  have HKT : Aside0 ((kindT m manyF o 1).run s a2 = (packedT m fixL (tableO fixD) manyF o).run s a2) := ⟨by rw [show tableO fixD = some fixD from by decide +kernel]; rfl⟩
                  cases hpk : (packedT m fixL (tableO fixD) manyF o).run s a2 with
                  | no er =>
                    rintro e w5 ⟨rfl, hne, a', ov', out', hx, hfr, hat⟩
                    have HG5 := Aside0.mk (HG4.out.used hx hfr hat)
                    have HRB : Aside0 (RB R s m lw a' out' er) := ⟨RB_no HRN.out (HKT.out.trans hpk) hne⟩
                    have HPO2 : Aside0 (posQ r s w5 = 0) := ⟨(posQ_is hx).trans (if_neg hne)⟩
                    clear hx hfr hat hpk hne HPK d0 d1 g0 g1
                    go_wp2_with fail
                    go_roundw
                    case rel => exact ⟨lw, a', ov', out', er, rfl, HG5, HRB⟩
                    case measure => rw [HPO.out, HPO2.out]; have := HLE.out.1; omega
                  | ok o3 a3 =>
                    rintro e w5 ⟨rfl, ov', hx, hfr, hat⟩
                    have HG5 := Aside0.mk (HG4.out.used hx hfr hat)
                    have hp := run_place s _ a2 o3 a3 HG4.out.ix.le hpk
                    have HRB : Aside0 (RB R s m lw a3 o3 0) := ⟨RB_ok HRN.out (HKT.out.trans hpk) HLW.out (by have := HFF.out; have := HGT2.out; omega)⟩
                    have HPO2 : Aside0 (posQ r s w5 = 8 * s.size + 1 - a3) := ⟨(posQ_is hx).trans (if_pos rfl)⟩
                    have HPP := Aside0.mk hp
                    clear hx hfr hat hpk HPK hp d0 d1 g0 g1
                    go_wp2_with fail
                    go_roundw
                    case rel => exact ⟨lw, a3, ov', o3, 0, rfl, HG5, HRB⟩
                    case measure => rw [HPO.out, HPO2.out]; have := HLE.out.1; have := HGT2.out; have := HPP.out; omega
                · by_cases hk2 : kd = 2
                  · subst hk2
                    clear hk0 hk1 hkd4
                    have HDY := Aside0.mk (dynamicQ HG2.out.ix)
                    go_wp2_with fail
                    refine HDY.out.mono ?_
                    cases hdy : dynamicT.run s a2 with
                    | no er =>
                      rintro e w3 ⟨hne, rfl, a', hg⟩
                      have HG3 := Aside0.mk (HG2.out.used hg.ix hg.fr hg.atb)
                      have HKT : Aside0 ((kindT m manyF o 2).run s a2 = .no er) := ⟨by
                        show (dynamicT.bind (fun z : List Int × List Int => packedT m z.1 (tableO z.2) manyF o)).run s a2 = _
                        rw [run_bind, hdy]⟩
                      have HNE := Aside0.mk hne
                      clear hg hdy hne HDY
                      go_upto_region 17 with (fail)
                      obtain ⟨hb2, hx1, hx2⟩ := two_blocks w3 #[.slice none 0 0, .slice none 0 0] #[.slice none 0 0, .slice none 0 0]
                      have HG4 := Aside0.mk (HG3.out.below hb2)
                      obtain ⟨P, hP⟩ : ∃ z, w3.heap.size = z := ⟨_, rfl⟩
                      rw [hP] at hx1 hx2 ⊢
                      generalize (w3.alloc (.cells #[.slice none 0 0, .slice none 0 0] 57)).alloc (.cells #[.slice none 0 0, .slice none 0 0] 57) = w4 at HG4 hx1 hx2 ⊢
                      have d0 := blk_cell hx1 0
                      have d1 := blk_cell hx1 1
                      have g0 := blk_cell hx2 0
                      have g1 := blk_cell hx2 1
                      have HPK := Aside0.mk (packedQ_bad HG4.out.ix HNE.out none 0 0 none 0 0 none 0 0 none 0 0)
                      clear hb2 hP hx1 hx2 HG3
                      go_wp2_with fail
                      refine HPK.out.mono ?_
                      rintro e w5 ⟨rfl, hb5⟩
                      have HG5 := Aside0.mk (HG4.out.below hb5)
                      have HRB : Aside0 (RB R s m lw a' o er) := ⟨RB_no HRN.out HKT.out HNE.out⟩
                      have HPO2 : Aside0 (posQ r s w5 = 0) := ⟨(posQ_is HG5.out.ix).trans (if_neg HNE.out)⟩
                      clear hb5 HPK d0 d1 g0 g1
                      go_wp2_with fail
                      go_roundw
                      case rel => exact ⟨lw, a', ov, o, er, rfl, HG5, HRB⟩
                      case measure => rw [HPO.out, HPO2.out]; have := HLE.out.1; omega
                    | ok pp ad =>
                      obtain ⟨p1, p2⟩ := pp
                      rintro e w3 ⟨cv, dv, rfl, hc, hd, hok, hg⟩
                      obtain ⟨A1, n1, y1, A2, n2, y2, rfl⟩ := hc.agg
                      obtain ⟨A3, n3, y3, A4, n4, y4, rfl⟩ := hd.agg
                      have HG3 := Aside0.mk (HG2.out.used hg.ix hg.fr hg.atb)
                      have HCc := Aside0.mk hc
                      have HCd := Aside0.mk hd
                      have HOK := Aside0.mk hok
                      have HAD := Aside0.mk (run_place s _ a2 _ ad HLE.out.2 hdy)
                      have HKT : Aside0 ((kindT m manyF o 2).run s a2 = (packedT m p1 (tableO p2) manyF o).run s ad) := ⟨by
                        show (dynamicT.bind (fun z : List Int × List Int => packedT m z.1 (tableO z.2) manyF o)).run s a2 = _
                        rw [run_bind, hdy]⟩
                      clear hc hd hok hg hdy HDY
                      go_upto_region 17 with (fail)
                      obtain ⟨hb2, hx1, hx2⟩ := two_blocks w3 #[.slice A1 n1 y1, .slice A2 n2 y2] #[.slice A3 n3 y3, .slice A4 n4 y4]
                      have HG4 := Aside0.mk (HG3.out.below hb2)
                      have HC4 := Aside0.mk (HCc.out.below hb2)
                      have HD4 := Aside0.mk (HCd.out.below hb2)
                      obtain ⟨P, hP⟩ : ∃ z, w3.heap.size = z := ⟨_, rfl⟩
                      rw [hP] at hx1 hx2 HC4 HD4 ⊢
                      generalize (w3.alloc (.cells #[.slice A1 n1 y1, .slice A2 n2 y2] 57)).alloc (.cells #[.slice A3 n3 y3, .slice A4 n4 y4] 57) = w4 at HG4 HC4 HD4 hx1 hx2 ⊢
                      have d0 := blk_cell hx1 0
                      have d1 := blk_cell hx1 1
                      have g0 := blk_cell hx2 0
                      have g1 := blk_cell hx2 1
                      have HPK := Aside0.mk (packedQ HG4.out.ix HC4.out HD4.out HOK.out.1 HOK.out.2.1 HOK.out.2.2.1 HOK.out.2.2.2 manyF (by have := HSZ.out; unfold manyF; omega))
                      clear hb2 hP hx1 hx2 HG3 HCc HCd
                      go_wp2_with fail
                      refine HPK.out.mono ?_
                      cases hpk : (packedT m p1 (tableO p2) manyF o).run s ad with
                      | no er =>
                        rintro e w5 ⟨rfl, hne, a', ov', out', hx, hfr, hat⟩
                        have HG5 := Aside0.mk (HG4.out.used hx hfr hat)
                        have HRB : Aside0 (RB R s m lw a' out' er) := ⟨RB_no HRN.out (HKT.out.trans hpk) hne⟩
                        have HPO2 : Aside0 (posQ r s w5 = 0) := ⟨(posQ_is hx).trans (if_neg hne)⟩
                        clear hx hfr hat hpk hne HPK d0 d1 g0 g1
                        go_wp2_with fail
                        go_roundw
                        case rel => exact ⟨lw, a', ov', out', er, rfl, HG5, HRB⟩
                        case measure => rw [HPO.out, HPO2.out]; have := HLE.out.1; omega
                      | ok o3 a3 =>
                        rintro e w5 ⟨rfl, ov', hx, hfr, hat⟩
                        have HG5 := Aside0.mk (HG4.out.used hx hfr hat)
                        have hp := run_place s _ ad o3 a3 HG4.out.ix.le hpk
                        have HRB : Aside0 (RB R s m lw a3 o3 0) := ⟨RB_ok HRN.out (HKT.out.trans hpk) HLW.out (by have := HFF.out; have := HGT2.out; have := HAD.out; omega)⟩
                        have HPO2 : Aside0 (posQ r s w5 = 8 * s.size + 1 - a3) := ⟨(posQ_is hx).trans (if_pos rfl)⟩
                        have HPP := Aside0.mk hp
                        clear hx hfr hat hpk HPK hp d0 d1 g0 g1
                        go_wp2_with fail
                        go_roundw
                        case rel => exact ⟨lw, a3, ov', o3, 0, rfl, HG5, HRB⟩
                        case measure => rw [HPO.out, HPO2.out]; have := HLE.out.1; have := HGT2.out; have := HPP.out; have := HAD.out; omega
                  · have hk3 : kd = 3 := by omega
                    subst hk3
                    clear hk0 hk1 hk2 hkd4
                    have HE := Aside0.mk (endsQ_any HG2.out.ix)
                    go_wp2_with fail
                    refine HE.out.mono ?_
                    rintro e w3 ⟨rfl, hx, hfr⟩
                    have HG3 := Aside0.mk (HG2.out.used hx hfr (AtB.refl _ _))
                    have HRB : Aside0 (RB R s m lw a2 o (enE 0)) := ⟨RB_no HRN.out (show (kindT m manyF o 3).run s a2 = .no (enE 0) from rfl) (enE_ne _)⟩
                    have HPO2 : Aside0 (posQ r s w3 = 0) := ⟨(posQ_is hx).trans (if_neg (enE_ne _))⟩
                    clear hx hfr HE
                    go_wp2_with fail
                    go_roundw
                    case rel => exact ⟨lw, a2, ov, o, enE 0, rfl, HG3, HRB⟩
                    case measure => rw [HPO.out, HPO2.out]; have := HLE.out.1; omega
            · have hkz := hz h2
              subst hkz
              have b10 : (e2 == 0) = false := by rw [beq_eq_false_iff_ne]; exact h2
              have b11 : decide (e2 = 0) = false := decide_eq_false h2
              have HRB : Aside0 (RB R s m lw a2 o e2) := ⟨RB_is (by rw [HRN.out, runS_no h2]) h2⟩
              have HPO2 : Aside0 (posQ r s w2 = 0) := ⟨(posQ_is HG2.out.ix).trans (if_neg h2)⟩
              clear hz h2 hkd4 HGT
              go_wp2_with fail
              go_roundw
              case rel => exact ⟨lw, a2, ov, o, e2, rfl, HG2, HRB⟩
              case measure => rw [HPO.out, HPO2.out]; have := HLE.out.1; omega
          · have b10 : (er == 0) = false := by rw [beq_eq_false_iff_ne]; exact h0
            have b11 : decide (er = 0) = false := decide_eq_false h0
            have HRX : Aside0 (R = if er = 0 then .ok o a else .no er) := ⟨by
              obtain ⟨f, _, h1⟩ := HRB.out
              rw [if_neg h0]
              exact h1 h0⟩
            clear h0 hl
            go_wp2_with fail
            go_meet
            case rel => exact ⟨a, ov, o, er, HG, HRX⟩
        · have b6 : decide (lv = 0) = false := decide_eq_false hl
          have b7 : decide ((lv : Int) = 0) = false := decide_eq_false (by omega)
          have b8 : ((lv : Int) == 0) = false := by rw [beq_eq_false_iff_ne]; omega
          have b9 : (lv == 0) = false := by rw [beq_eq_false_iff_ne]; exact hl
          have HRX : Aside0 (R = if er = 0 then .ok o a else .no er) := ⟨by
            obtain ⟨f, h2, h1⟩ := HRB.out
            by_cases h0 : er = 0
            · rw [if_pos h0]
              rcases h2 h0 with h | h
              · exact absurd h.1 hl
              · exact h.2
            · rw [if_neg h0]
              exact h1 h0⟩
          clear hl
          go_wp2_with fail
          go_meet
          case rel => exact ⟨a, ov, o, er, HG, HRX⟩
    case rest =>
      obtain ⟨a, ov, o, er, HG, HRX⟩ := hcut
      have c4 := HG.out.ix.c4
      have HBZ : Aside0 (Below W.heap.size W wc) := ⟨HB.out.trans ((HG.out.fr.below HQ0.out.base HQ0.out.ge).mono (by omega))⟩
      clear HG0 HRB0
      by_cases h0 : er = 0
      · subst h0
        have HR : Aside0 (inflR s (m : Int) = (strOfNums o, (((a + 7) / 8 : Nat) : Int), 0)) := ⟨by
          have h := HRX.out
          rw [if_pos rfl, HRR.out] at h
          unfold inflR infl
          rw [if_neg HM.out, Int.toNat_natCast, h]⟩
        obtain ⟨oA, oc, hov⟩ := HG.out.ix.slice
        subst hov
        have hle := HG.out.ix.le
        have hsz := HSZ.out
        have HAL := Aside0.mk (fun w : World => aligned_any a (by omega) w)
        obtain ⟨al, hal⟩ : ∃ z, (a + 7) / 8 * 8 = z := ⟨_, rfl⟩
        obtain ⟨nb, hnb⟩ : ∃ z, (a + 7) / 8 = z := ⟨_, rfl⟩
        rw [hal] at HAL
        rw [hnb] at HR
        have hq8 : Int.tdiv (al : Int) 8 = (nb : Int) := by
          rw [Int.tdiv_eq_ediv_of_nonneg (by omega)]
          omega
        have hw8 : IntKind.i64.wrap (nb : Int) = (nb : Int) := IntWalk.i64_in _ (by omega)
        clear hle hsz hal hnb HRX HRR
        go_upto_region 20 with (fail)
        have HGd := Aside0.mk (HG.out.below (below_drew (Below.refl _ _)))
        have HK := Aside0.mk (fun (w' : World) (hb : Below wc.drew.heap.size wc.drew w') => (And.intro ((HGd.out.below hb).ix.c3) (And.intro ((HGd.out.below hb).ix.c1) (Kd.C_string (P := Try.prog) Try.underlying33 Try.underlying5 Try.underlying9 (A := oA) (c := oc) (Kd.R_reads' (HGd.out.below hb).ix.ro).2.2))))
        have hcv := Kd.C_string (P := Try.prog) Try.underlying33 Try.underlying5 Try.underlying9 (A := oA) (c := oc) (Kd.R_reads' HGd.out.ix.ro).2.2
        have b0 := Below.refl wc.drew.heap.size wc.drew
        have c3 := HGd.out.ix.c3
        have c1 := HGd.out.ix.c1
        go_region_held3 (fun w' => Below wc.drew.heap.size wc.drew w' ∧ w'.cell? ⟨r, 3, none⟩ = some (.slice oA o.length oc) ∧ w'.cell? ⟨r, 1, none⟩ = some (.int .i64 a) ∧ (convert 33 9 (.slice oA o.length oc)).run Try.prog w' = .ok (.string (strOfNums o)) w') ((refine ⟨?_, ?_, ?_, ?_⟩ <;> first | assumption | (exact (HK.out _ (by assumption)).1) | (exact (HK.out _ (by assumption)).2.1) | (exact (HK.out _ (by assumption)).2.2) | go_keep)) ((first | (go_at_call 28; refine (HAL.out _).mono ?_; rintro e w8 ⟨rfl, hb8⟩; have b8 := b0.trans hb8; have hcv8 := Kd.C_string (P := Try.prog) Try.underlying33 Try.underlying5 Try.underlying9 (A := oA) (c := oc) (Kd.R_reads' (HGd.out.below b8).ix.ro).2.2)))
        all_goals
          have hbz := (HBZ.out.drew).trans (b8.mono HBZ.out.drew.size)
          have HBF := Aside0.mk hbz
          go_wp2_with fail
          go_ret3
          rw [HR.out]
          exact ⟨rfl, HBF.out⟩
      · have b10 : (er == 0) = false := by rw [beq_eq_false_iff_ne]; exact h0
        have b11 : decide (er = 0) = false := decide_eq_false h0
        have HR : Aside0 (inflR s (m : Int) = (⟨#[]⟩, 0, er)) := ⟨by
          have h := HRX.out
          rw [if_neg h0, HRR.out] at h
          unfold inflR infl
          rw [if_neg HM.out, Int.toNat_natCast, h]⟩
        have HNZ := Aside0.mk h0
        clear h0 HRX HRR
        go_upto_region 19 with (fail)
        go_quiet (fail)
        go_wp2_with fail
        go_ret3
        rw [HR.out]
        refine ⟨rfl, ?_⟩
        try rw [← hr]
        exact HBZ.out.trans (pw_below_drewN (Below.refl _ _) nq)
end Go.Proofs.Yteffjbjhkaobfaa.HI
namespace Go.Proofs.Yteffjbjhkaobfaa.HI
open Go.RowKit Go.Proofs.YteffjbjhkaobfaaW.PrintWords Go.Proofs.YteffjbjhkaobfaaW.PrintLast Go.Proofs.YteffjbjhkaobfaaW.PrintMore Go.Proofs.Yteffjbjhkaobfaa.HW Go.Proofs.Yteffjbjhkaobfaa.MB Go.Proofs.Yteffjbjhkaobfaa.Fn Go.Proofs.Yteffjbjhkaobfaa.HF Go.Proofs.Yteffjbjhkaobfaa.RT Go.Proofs.Yteffjbjhkaobfaa.RT.Rd Go.Proofs.Yteffjbjhkaobfaa.HP
theorem aw1 : inflR ⟨#[1, 2, 0, 253, 255, 104, 105, 33]⟩ 9 = (⟨#[104, 105]⟩, 7, 0) := by kernel_rfl
theorem aw3 : inflR ⟨#[7]⟩ 9 = (⟨#[]⟩, 0, 40) := by kernel_rfl
theorem aw2 : inflR ⟨#[75, 4, 0]⟩ 9 = (⟨#[97]⟩, 3, 0) := by kernel_rfl
attribute [local go_sem] max2_int min2_int max_two min_two max_three min_three max_four min_four   -- for this text's walks alone
set_option maxRecDepth 100000 in
set_option maxHeartbeats 4000000 in
theorem awake_ok (W : World) : Calls Try.prog 9 #[] W fun e w' => e = .returned (.bool true) ∧ Below W.heap.size W w' := by
  have H1 := Aside0.mk (fun W : World => inflateX ⟨#[1, 2, 0, 253, 255, 104, 105, 33]⟩ (by decide) 9 W)
  have H2 := Aside0.mk (fun W : World => inflateX ⟨#[75, 4, 0]⟩ (by decide) 9 W)
  have H3 := Aside0.mk (fun W : World => inflateX ⟨#[7]⟩ (by decide) 9 W)
  rw [aw1] at H1
  rw [aw2] at H2
  rw [aw3] at H3
  go_enter Try.func9, Try.ntmps9
  go_wp2_with fail
  refine (H1.out _).mono ?_
  rintro e w1 ⟨rfl, hb1⟩
  have HB1 := Aside0.mk hb1
  clear hb1
  go_wp2_with fail
  refine (H2.out _).mono ?_
  rintro e w2 ⟨rfl, hb2⟩
  have HB2 := Aside0.mk (HB1.out.trans (hb2.mono HB1.out.size))
  clear hb2
  go_wp2_with fail
  refine (H3.out _).mono ?_
  rintro e w3 ⟨rfl, hb3⟩
  have HB3 := Aside0.mk (HB2.out.trans (hb3.mono HB2.out.size))
  clear hb3
  go_wp2_with fail
  go_ret
  exact ⟨rfl, HB3.out⟩
end Go.Proofs.Yteffjbjhkaobfaa.HI
