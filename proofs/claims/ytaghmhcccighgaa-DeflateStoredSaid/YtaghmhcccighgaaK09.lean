/- Parts: HRq9 -/
import Derived.Test.YtaghmhcccighgaaK08
set_option linter.unusedVariables false
set_option linter.unusedSimpArgs false
/- The document's dynamic: walked. -/
namespace Go.Proofs.Ytaghmhcccighgaa.HI
open Go.RowKit Go.Proofs.YtaghmhcccighgaaW.PrintWords Go.Proofs.YtaghmhcccighgaaW.PrintLast Go.Proofs.YtaghmhcccighgaaW.PrintMore Go.Proofs.Ytaghmhcccighgaa.HW Go.Proofs.Ytaghmhcccighgaa.MB Go.Proofs.Ytaghmhcccighgaa.Fn Go.Proofs.Ytaghmhcccighgaa.HF Go.Proofs.Ytaghmhcccighgaa.RT Go.Proofs.Ytaghmhcccighgaa.RT.Rd Go.Proofs.Ytaghmhcccighgaa.HP
attribute [local go_sem] max2_int min2_int max_two min_two max_three min_three max_four min_four   -- for this text's walks alone
set_option maxRecDepth 100000 in
set_option maxHeartbeats 40000000 in
theorem dynamicQ {W : World} {B r : Nat} {ov : Value} {s : ByteArray} {a most : Nat} {out : List Int} (h : IsQ W B r ov s a most out 0) :
    Calls Try.prog 28 #[.pointer (some ⟨r, 0, none⟩)] W (DQR B r ov s most out W (dynamicT.run s a)) := by
  obtain ⟨R, hR⟩ : ∃ z, dynamicT.run s a = z := ⟨_, rfl⟩
  rw [hR]
  have hrun : R = runS 0 dynamicT s a := by rw [runS_0, hR]
  clear hR
  rw [dynT_eq, runS_bits _ _ _ _ _ h.le] at hrun
  obtain ⟨p, hp⟩ : ∃ z, bV s a 0 5 = z := ⟨_, rfl⟩
  have hp32 : p < 32 := by rw [← hp]; exact bV_lt s a 0 5
  have ha1 := bA_le s a 0 5 h.le
  obtain ⟨a1, he1⟩ : ∃ z, bA s a 0 5 = z := ⟨_, rfl⟩
  obtain ⟨er1, hr1⟩ : ∃ z, bE s a 0 5 = z := ⟨_, rfl⟩
  rw [he1] at ha1
  rw [hp, he1, hr1, runS_bits _ _ _ _ _ ha1] at hrun
  obtain ⟨q, hq⟩ : ∃ z, bV s a1 er1 5 = z := ⟨_, rfl⟩
  have hq32 : q < 32 := by rw [← hq]; exact bV_lt s a1 er1 5
  have ha2 := bA_le s a1 er1 5 ha1
  obtain ⟨a2, he2⟩ : ∃ z, bA s a1 er1 5 = z := ⟨_, rfl⟩
  obtain ⟨er2, hr2⟩ : ∃ z, bE s a1 er1 5 = z := ⟨_, rfl⟩
  rw [he2] at ha2
  rw [hq, he2, hr2, runS_bits _ _ _ _ _ ha2] at hrun
  obtain ⟨c, hc⟩ : ∃ z, bV s a2 er2 4 = z := ⟨_, rfl⟩
  have hc16 : c < 16 := by rw [← hc]; exact bV_lt s a2 er2 4
  have ha3 := bA_le s a2 er2 4 ha2
  obtain ⟨a3, he3⟩ : ∃ z, bA s a2 er2 4 = z := ⟨_, rfl⟩
  obtain ⟨er3, hr3⟩ : ∃ z, bE s a2 er2 4 = z := ⟨_, rfl⟩
  rw [he3] at ha3
  rw [hc, he3, hr3, runS_if] at hrun
  have HRUN := Aside0.mk hrun
  have HE1 := Aside0.mk (And.intro hp (And.intro he1 hr1))
  have HE2 := Aside0.mk (And.intro hq (And.intro he2 hr2))
  have HE3 := Aside0.mk (And.intro hc (And.intro he3 hr3))
  have HP := Aside0.mk hp32
  have HQ := Aside0.mk hq32
  have HC := Aside0.mk hc16
  have H := Aside0.mk h
  obtain ⟨u, hu⟩ : ∃ z, W.heap.size = z := ⟨_, rfl⟩
  have hs1 := alloc_size W (.cells #[.slice none 0 0, .slice none 0 0] 50)
  have hb1 := below_alloc (Below.refl W.heap.size W) (.cells #[.slice none 0 0, .slice none 0 0] 50)
  have hb2 := below_alloc (Below.refl (W.alloc (.cells #[.slice none 0 0, .slice none 0 0] 50)).heap.size (W.alloc (.cells #[.slice none 0 0, .slice none 0 0] 50))) (.cells #[.slice none 0 0, .slice none 0 0] 50)
  have HB := Aside0.mk (hb1.trans (hb2.mono hb1.size))
  have hq1 : (W.alloc (.cells #[.slice none 0 0, .slice none 0 0] 50)).heap[u]? = some (.cells #[.slice none 0 0, .slice none 0 0] 50 (0, 0)) := by rw [← hu]; exact heap_alloc_new _ _
  have HQ1 := Aside0.mk (blk_below hq1 hb2)
  have hq2 : ((W.alloc (.cells #[.slice none 0 0, .slice none 0 0] 50)).alloc (.cells #[.slice none 0 0, .slice none 0 0] 50)).heap[u + 1]? = some (.cells #[.slice none 0 0, .slice none 0 0] 50 (0, 0)) := by rw [← hu, ← hs1]; exact heap_alloc_new _ _
  have HQ2 := Aside0.mk hq2
  have hs1 : (W.alloc (.cells #[.slice none 0 0, .slice none 0 0] 50)).heap.size = u + 1 := by rw [hs1, hu]
  clear h hrun hp hp32 ha1 he1 hr1 hq hq32 ha2 he2 hr2 hc hc16 ha3 he3 hr3 hb1 hb2 hq1 hq2
  go_enter Try.func28, Try.ntmps28
  go_upto_region 1 with (fail)
  generalize (W.alloc (.cells #[.slice none 0 0, .slice none 0 0] 50)).alloc (.cells #[.slice none 0 0, .slice none 0 0] 50) = W1 at HB HQ1 HQ2 ⊢
  have HG0 : Aside0 (DG W W1 B r ov s most out a 0 u) := ⟨(QG.start H.out).below HB.out, HQ1.out, HQ2.out⟩
  clear HQ1 HQ2 HB hs1
  have HB1 := Aside0.mk (bitsQ_any HG0.out.g.ix 5 (by decide))
  rw [HE1.out.1, HE1.out.2.1, HE1.out.2.2] at HB1
  go_wp2_with fail
  refine HB1.out.mono ?_
  rintro e w1 ⟨rfl, hx, hf⟩
  have HG1 := Aside0.mk (HG0.out.used hx (QS_of_r hf))
  clear hx hf HG0 HB1
  have HB2 := Aside0.mk (bitsQ_any HG1.out.g.ix 5 (by decide))
  rw [HE2.out.1, HE2.out.2.1, HE2.out.2.2] at HB2
  go_wp2_with fail
  refine HB2.out.mono ?_
  rintro e w2 ⟨rfl, hx, hf⟩
  have HG2 := Aside0.mk (HG1.out.used hx (QS_of_r hf))
  clear hx hf HG1 HB2
  have HB3 := Aside0.mk (bitsQ_any HG2.out.g.ix 4 (by decide))
  rw [HE3.out.1, HE3.out.2.1, HE3.out.2.2] at HB3
  go_wp2_with fail
  refine HB3.out.mono ?_
  rintro e w3 ⟨rfl, hx, hf⟩
  have HG3 := Aside0.mk (HG2.out.used hx (QS_of_r hf))
  clear hx hf HG2 HB3 HE1 HE2 HE3
  have hp := HP.out
  have hq := HQ.out
  have hc := HC.out
  have hw1 : IntKind.i64.wrap (257 + (p : Int)) = 257 + (p : Int) := IntWalk.i64_in _ (by omega)
  have hw2 : IntKind.i64.wrap (1 + (q : Int)) = 1 + (q : Int) := IntWalk.i64_in _ (by omega)
  have hw3 : IntKind.i64.wrap ((c : Int) + 4) = (c : Int) + 4 := IntWalk.i64_in _ (by omega)
  go_upto_region 4 with (fail)
  go_cut [33] from 26 to 33 (fun v w => v = .bool (decide (¬ (257 + p ≤ 286 ∧ 1 + q ≤ 30))) ∧ w = w3)
  case first =>
    by_cases h1 : 257 + p ≤ 286
    · have d1 : decide ((286 : Int) < 257 + (p : Int)) = false := decide_eq_false (by omega)
      have d1' : ¬ (286 : Int) < 257 + (p : Int) := by omega
      by_cases h2 : 1 + q ≤ 30
      · have d2 : decide ((30 : Int) < 1 + (q : Int)) = false := decide_eq_false (by omega)
        have d2' : ¬ (30 : Int) < 1 + (q : Int) := by omega
        have HV := Aside0.mk (show decide (¬ (257 + p ≤ 286 ∧ 1 + q ≤ 30)) = false from decide_eq_false (fun h => h ⟨h1, h2⟩))
        clear h1 h2 hp hq hc
        go_wp2_with fail
        go_meet
        case rel => exact ⟨by rw [HV.out], rfl⟩
      · have d2 : decide ((30 : Int) < 1 + (q : Int)) = true := decide_eq_true (by omega)
        have d2' : (30 : Int) < 1 + (q : Int) := by omega
        have HV := Aside0.mk (show decide (¬ (257 + p ≤ 286 ∧ 1 + q ≤ 30)) = true from decide_eq_true (fun h => h2 h.2))
        clear h1 h2 hp hq hc
        go_wp2_with fail
        go_meet
        case rel => exact ⟨by rw [HV.out], rfl⟩
    · have d1 : decide ((286 : Int) < 257 + (p : Int)) = true := decide_eq_true (by omega)
      have d1' : (286 : Int) < 257 + (p : Int) := by omega
      have HV := Aside0.mk (show decide (¬ (257 + p ≤ 286 ∧ 1 + q ≤ 30)) = true from decide_eq_true (fun h => h1 h.1))
      clear h1 hp hq hc
      go_wp2_with fail
      go_meet
      case rel => exact ⟨by rw [HV.out], rfl⟩
  case rest =>
    obtain ⟨rfl, rfl⟩ := hcut
    go_upto_if 33 with (fail)
    go_cut [] from 26 to 36 (fun w => Aside0 (DG W w B r ov s most out a3 (if 257 + p ≤ 286 ∧ 1 + q ≤ 30 then er3 else enE er3) u))
    case first =>
      by_cases hpq : 257 + p ≤ 286 ∧ 1 + q ≤ 30
      · have HV : decide (¬ (257 + p ≤ 286 ∧ 1 + q ≤ 30)) = false := decide_eq_false (fun h => h hpq)
        have HPQ := Aside0.mk hpq
        (try rw [HV])
        clear hpq hp hq hc
        go_wp2_with fail
        go_meet
        case rel => rw [if_pos HPQ.out]; exact HG3
      · have HV : decide (¬ (257 + p ≤ 286 ∧ 1 + q ≤ 30)) = true := decide_eq_true hpq
        have HPQ := Aside0.mk hpq
        have HE := Aside0.mk (endsQ_any HG3.out.g.ix)
        (try rw [HV])
        clear hpq hp hq hc
        go_wp2_with fail
        refine HE.out.mono ?_
        rintro e w4 ⟨rfl, hx, hf⟩
        have HG4 := Aside0.mk (HG3.out.used hx hf)
        clear hx hf HE
        go_wp2_with fail
        go_meet
        case rel => rw [if_neg HPQ.out]; exact HG4
    case rest =>
      have HG4 := hcut
      have HPQ : Aside0 ((if 257 + p ≤ 286 ∧ 1 + q ≤ 30 then er3 else enE er3) = 0 → 257 + p ≤ 286 ∧ 1 + q ≤ 30) := ⟨by
        intro h
        by_cases hh : 257 + p ≤ 286 ∧ 1 + q ≤ 30
        · exact hh
        · rw [if_neg hh] at h
          exact absurd h (enE_ne _)⟩
      obtain ⟨er4, he4⟩ : ∃ z, (if 257 + p ≤ 286 ∧ 1 + q ≤ 30 then er3 else enE er3) = z := ⟨_, rfl⟩
      rw [he4] at HG4 HRUN HPQ
      clear he4 hcut HG3
      go_upto_region 7 with (fail)
      obtain ⟨g3, hg3⟩ : ∃ z, wc.heap.size = z := ⟨_, rfl⟩
      have HD5 := Aside0.mk (HG4.out.below (below_alloc (Below.refl _ _) (.cells (ordI.map (fun y => Value.int .i64 y)).toArray 3)))
      have HO3 : Aside0 ((wc.alloc (.cells (ordI.map (fun y => Value.int .i64 y)).toArray 3)).heap[g3]? = some (.cells (ordI.map (fun y => Value.int .i64 y)).toArray 3 (0, 0))) := ⟨by rw [← hg3]; exact heap_alloc_new _ _⟩
      change Aside0 (DG W (wc.alloc (.cells #[.int .i64 16, .int .i64 17, .int .i64 18, .int .i64 0, .int .i64 8, .int .i64 7, .int .i64 9, .int .i64 6, .int .i64 10, .int .i64 5, .int .i64 11, .int .i64 4, .int .i64 12, .int .i64 3, .int .i64 13, .int .i64 2, .int .i64 14, .int .i64 1, .int .i64 15] 3)) _ _ _ _ _ _ _ _ _) at HD5
      change Aside0 ((wc.alloc (.cells #[.int .i64 16, .int .i64 17, .int .i64 18, .int .i64 0, .int .i64 8, .int .i64 7, .int .i64 9, .int .i64 6, .int .i64 10, .int .i64 5, .int .i64 11, .int .i64 4, .int .i64 12, .int .i64 3, .int .i64 13, .int .i64 2, .int .i64 14, .int .i64 1, .int .i64 15] 3)).heap[g3]? = _) at HO3
      rw [hg3]
      generalize wc.alloc _ = w5 at HD5 HO3 ⊢
      clear hg3 HG4
      go_upto_block 0 with (first | ((with_reducible refine gate_dst (N := 37) rfl ?_); (try (refine gate_guard (by rfl) ?_; dsimp only)); refine Kd.R_make (Kd.int .i64) (w0 := w5) w5.heap.size 3 rfl (N := 37) rfl 48 _ _ rfl (19 : Int) rfl rfl Try.underlying48 (.int .i64 0) 8 info3 rfl (by decide) (by decide) 0 (ok := fun _ => True) (okp := fun _ => True) rfl (fun _ hk => hk) trivial (by decide) (by decide) (Below.refl _ _) (Nat.le_refl _) ?_; intro v7 w7 ho7 hb7 hg7 hn7; have HO7 := Aside0.mk ho7; have HB7 := Aside0.mk hb7; clear ho7 hb7 hg7 hn7))
      obtain ⟨g7, c7, e7⟩ := HF.R_first HO7.out (by decide)
      change v7 = .slice (some ⟨g7, 0, none⟩) 19 c7 at e7
      subst e7
      have HF0 : Aside0 (FG W w7 B r ov s most out a3 er4 u g7 c7 g3 (List.replicate 19 0)) := ⟨HD5.out.below HB7.out, Kd.R_lower HO7.out HD5.out.g.fr.size, blk_below HO3.out HB7.out, fun e => by
        have h1 := Kd.R_base HO7.out g7 rfl
        have h2 := blk_lt HO3.out
        omega⟩
      have HR0 : Aside0 (R = runS er4 ((firstT ((orderL.take (4 + c)).drop 0) (List.replicate 19 0)).bind (dynF p q)) s a3) := HRUN
      clear HD5 HO3 HO7 HB7 HRUN hw3
      have hw3 : IntKind.i64.wrap ((c : Int) + 4) = (c : Int) + 4 := IntWalk.i64_in _ (by omega)
      go_cut [9] (fun _ w => ∃ (l : List Int) (a4 : Nat) (er : Int), l.length = 19 ∧ Aside0 (∀ y ∈ l, 0 ≤ y ∧ y ≤ 7) ∧ Aside0 (er = 0 → 257 + p ≤ 286 ∧ 1 + q ≤ 30) ∧ Aside0 (FG W w B r ov s most out a4 er u g7 c7 g3 l) ∧ Aside0 (R = runS er (dynF p q l) s a4))
      case first =>
        go_wp2_with fail
        go_loopw [9] (fun v9 wr => ∃ (i a4 : Nat) (er : Int) (l : List Int), v9 = .int .i64 i ∧ i ≤ 4 + c ∧ l.length = 19 ∧ Aside0 (FG W wr B r ov s most out a4 er u g7 c7 g3 l) ∧ Aside0 (R = runS er ((firstT ((orderL.take (4 + c)).drop i) l).bind (dynF p q)) s a4) ∧ Aside0 (∀ y ∈ l, 0 ≤ y ∧ y ≤ 7) ∧ Aside0 (er = 0 → 257 + p ≤ 286 ∧ 1 + q ≤ 30)) (fun v9 _ => 4 + c - (intOf v9).toNat)
        case atStart => exact ⟨0, a3, er4, _, rfl, Nat.zero_le _, rfl, HF0, HR0, ⟨fun y hy => by rw [List.eq_of_mem_replicate hy]; exact ⟨by decide, by decide⟩⟩, HPQ⟩
        case round =>
          clear HF0 HR0 HPQ
          obtain ⟨i, a4, er, l, rfl, hi, hl, HF, HR4, HL7, HPQ⟩ := hrel
          have c4 := HF.out.d.g.ix.c4
          have hol : orderL.length = 19 := rfl
          have htl : (orderL.take (4 + c)).length = 4 + c := by rw [List.length_take]; omega
          by_cases h0 : er = 0
          · subst h0
            by_cases hlt : i < 4 + c
            · have b1 : decide (i < 4 + c) = true := decide_eq_true hlt
              have b2 : decide ((i : Int) < (c : Int) + 4) = true := decide_eq_true (by omega)
              have i19 : i < 19 := by omega
              have hr := HR4.out
              rw [List.drop_eq_getElem_cons (by omega), List.getElem_take] at hr
              obtain ⟨k, hke⟩ : ∃ k : Nat, orderL[i]'(by omega) = k := ⟨_, rfl⟩
              have hk := ord_at i k (by omega) hke
              have hkr := ord_rng i i19
              have HOC := Aside0.mk (fun (w : World) (h : w.heap[g3]? = some (.cells (ordI.map (fun y => Value.int .i64 y)).toArray 3 (0, 0))) => ord_cell h i i19)
              rw [hk] at hkr HOC
              rw [hke] at hr
              unfold firstT at hr
              rw [bind_assoc, runS_bits _ _ _ _ _ HF.out.d.g.ix.le] at hr
              obtain ⟨y, hy⟩ : ∃ z, bV s a4 0 3 = z := ⟨_, rfl⟩
              have hy8 : y < 8 := by rw [← hy]; exact bV_lt s a4 0 3
              obtain ⟨a5, ha5⟩ : ∃ z, bA s a4 0 3 = z := ⟨_, rfl⟩
              obtain ⟨e5, he5⟩ : ∃ z, bE s a4 0 3 = z := ⟨_, rfl⟩
              rw [hy, ha5, he5] at hr
              have HR5 := Aside0.mk hr
              have HI := Aside0.mk (And.intro hlt hl)
              have HY := Aside0.mk hy8
              have k0 : (0 : Int) ≤ (k : Int) := by omega
              have k1 : (k : Int) < 19 := by omega
              have i0 : (0 : Int) ≤ (i : Int) := by omega
              have i1 : (i : Int) < 19 := by omega
              have i2 : IntKind.i64.wrap ((i : Int) + 1) = (i : Int) + 1 := IntWalk.i64_in _ (by omega)
              have HFd := Aside0.mk (HF.out.below (below_drew (Below.refl _ _)))
              have HBI := Aside0.mk (bitsQ_any HFd.out.d.g.ix 3 (by decide))
              rw [hy, ha5, he5] at HBI
              have x0 := HOC.out _ HFd.out.b3
              clear hr hk hke hkr htl hol hlt hl hi hy hy8 ha5 he5 HR4 i19
              go_upto_region 11 with (fail)
              go_region_held3 (fun w' => w'.cell? ⟨g3, i, none⟩ = some (.int .i64 k)) (first | assumption | go_keep) ((first | (go_at_call 24; refine HBI.out.mono ?_; rintro e w9 ⟨rfl, hx9, hf9⟩; have HF9 := Aside0.mk (HFd.out.used hx9 (QS_of_r hf9)); have x9 := HOC.out _ HF9.out.b3; obtain ⟨y9, z9⟩ := Kd.R_celln 0 HF9.out.r7 (k : Int) k0 k1; simp only [Int.toNat_natCast] at y9 z9; have HF10 := Aside0.mk (HF9.out.put k (y : Int)); have x10 := HOC.out _ HF10.out.b3)))
              go_wp2_with fail
              go_roundw
              case rel => exact ⟨i + 1, a5, e5, _, by simp, HI.out.1, by rw [List.length_set]; exact HI.out.2, HF10, HR5, ⟨fun z hz => by
                rcases List.mem_or_eq_of_mem_set hz with hz | hz
                · exact HL7.out z hz
                · rw [hz]; have := HY.out; omega⟩, ⟨fun _ => HPQ.out (by trivial)⟩⟩
              case measure => simp [intOf]; have := HI.out.1; omega
            · have hie : i = 4 + c := by omega
              have b1 : decide (i < 4 + c) = false := decide_eq_false hlt
              have b2 : decide ((i : Int) < (c : Int) + 4) = false := decide_eq_false (by omega)
              have HR5 : Aside0 (R = runS 0 (dynF p q l) s a4) := ⟨by
                rw [HR4.out, hie, List.drop_eq_nil_of_le (by omega)]
                rfl⟩
              have HLL := Aside0.mk hl
              clear hlt hi hie hl htl hol
              go_wp2_with fail
              go_meet
              case rel => exact ⟨l, a4, 0, HLL.out, HL7, ⟨fun _ => HPQ.out (by trivial)⟩, HF, HR5⟩
          · have b3 : (er == 0) = false := by rw [beq_eq_false_iff_ne]; exact h0
            have b4 : decide (er = 0) = false := decide_eq_false h0
            have HR5 : Aside0 (R = runS er (dynF p q l) s a4) := ⟨by rw [HR4.out, runS_no h0, runS_no h0]⟩
            have HLL := Aside0.mk hl
            by_cases hlt : i < 4 + c
            · have b1 : decide (i < 4 + c) = true := decide_eq_true hlt
              have b2 : decide ((i : Int) < (c : Int) + 4) = true := decide_eq_true (by omega)
              clear hlt hi hl htl hol h0
              go_wp2_with fail
              go_meet
              case rel => exact ⟨l, a4, er, HLL.out, HL7, HPQ, HF, HR5⟩
            · have b1 : decide (i < 4 + c) = false := decide_eq_false hlt
              have b2 : decide ((i : Int) < (c : Int) + 4) = false := decide_eq_false (by omega)
              clear hlt hi hl htl hol h0
              go_wp2_with fail
              go_meet
              case rel => exact ⟨l, a4, er, HLL.out, HL7, HPQ, HF, HR5⟩
      case rest =>
        obtain ⟨l, a4, er5, hl, HL7, HPQ5, HF, HR5⟩ := hcut
        clear HF0 HR0 HPQ hw3
        have HLL := Aside0.mk hl
        have hC7 := (Kd.R_reads' HF.out.r7).2
        rw [← hl] at hC7
        have HW7 := Aside0.mk (refFull_any (some ⟨g7, 0, none⟩) c7 l wc hC7.2 hC7.1)
        rw [hl] at HW7
        clear hC7 hl
        go_wp2_with fail
        refine HW7.out.mono ?_
        rintro e w9 ⟨rfl, hb9⟩
        have HF9 := Aside0.mk (HF.out.below hb9)
        clear hb9 HW7 HF
        go_upto_if 61 with (fail)
        go_cut [] from 59 to 64 (fun w => Aside0 (FG W w B r ov s most out a4 (if isWhole l = true then er5 else enE er5) u g7 c7 g3 l))
        case first =>
          cases hwh : isWhole l with
          | true =>
            go_wp2_with fail
            go_meet
            case rel => rw [if_pos hwh]; exact HF9
          | false =>
            have HE := Aside0.mk (endsQ_any HF9.out.d.g.ix)
            go_wp2_with fail
            refine HE.out.mono ?_
            rintro e w10 ⟨rfl, hx, hf⟩
            have HF10 := Aside0.mk (HF9.out.used hx hf)
            clear hx hf HE
            go_wp2_with fail
            go_meet
            case rel => rw [if_neg (by rw [hwh]; exact Bool.false_ne_true)]; exact HF10
        case rest =>
          have HF6 := hcut
          have HOK : Aside0 ((if isWhole l = true then er5 else enE er5) = 0 → okL l = true ∧ 257 + p ≤ 286 ∧ 1 + q ≤ 30) := ⟨by
            intro h
            by_cases hh : isWhole l = true
            · rw [if_pos hh] at h
              exact ⟨isWhole_ok hh, HPQ5.out h⟩
            · rw [if_neg hh] at h
              exact absurd h (enE_ne _)⟩
          have hr := HR5.out
          unfold dynF at hr
          rw [runS_if] at hr
          obtain ⟨er6, he6⟩ : ∃ z, (if isWhole l = true then er5 else enE er5) = z := ⟨_, rfl⟩
          rw [he6] at HF6 HOK hr
          have hadd : 257 + p + (1 + q) = 257 + p + 1 + q := by omega
          rw [hadd] at hr
          obtain ⟨n, hn⟩ : ∃ z, 257 + p + 1 + q = z := ⟨_, rfl⟩
          rw [hn] at hr
          have HN := Aside0.mk hn
          have hnb : n ≤ 400 := by omega
          have HNB := Aside0.mk hnb
          have HR6 := Aside0.mk hr
          clear hcut he6 hr HF9 HR5 HPQ5 hadd
          have hw4 : IntKind.i64.wrap (257 + (p : Int) + 1) = 257 + (p : Int) + 1 := IntWalk.i64_in _ (by omega)
          have hw5 : IntKind.i64.wrap (257 + (p : Int) + 1 + (q : Int)) = (n : Int) := by rw [IntWalk.i64_in _ (by omega)]; omega
          have HMD := Aside0.mk (made_ok (.slice (some ⟨g7, 0, none⟩) 19 c7) l wc.heap.size wc (RowIn.of_R HF6.out.r7 (by rw [HLL.out]; decide)) (Nat.le_refl _) (by rw [HLL.out]; decide))
          clear hn hnb
          go_wp2_with fail
          refine HMD.out.mono ?_
          rintro e w10 ⟨⟨A2, n2, y2, rfl, hcd⟩, hb⟩
          have HD10 := Aside0.mk (HF6.out.d.below hb)
          have HCD10 := Aside0.mk hcd
          clear hcd hb HMD HF6
          go_upto_block 2 with (fail)
          obtain ⟨P, hP⟩ : ∃ z, w10.heap.size = z := ⟨_, rfl⟩
          have hsz := alloc_size w10 (.cells #[.slice (some ⟨g7, 0, none⟩) 19 c7, .slice A2 n2 y2] 50)
          have hWP : W.heap.size ≤ P := by rw [← hP]; exact HD10.out.g.fr.size
          have HL0 : Aside0 (LG W (w10.alloc (.cells #[.slice (some ⟨g7, 0, none⟩) 19 c7, .slice A2 n2 y2] 50)) B r ov s most out a4 er6 u (P + 1) P (some ⟨g7, 0, none⟩) 19 c7 A2 n2 y2 l (.slice none 0 0) []) := ⟨HD10.out.below (below_alloc (Below.refl _ _) _), by omega, fun ho => ((HCD10.out ho).below (below_alloc (Below.refl _ _) _)).mono (by omega), by rw [← hP]; exact heap_alloc_new _ _, Kd.R_nil _ _ _ _ _⟩
          have HSZ : Aside0 (P + 1 ≤ (w10.alloc (.cells #[.slice (some ⟨g7, 0, none⟩) 19 c7, .slice A2 n2 y2] 50)).heap.size) := ⟨by omega⟩
          rw [hP]
          generalize w10.alloc (.cells #[.slice (some ⟨g7, 0, none⟩) 19 c7, .slice A2 n2 y2] 50) = w11 at HL0 HSZ ⊢
          clear hP hsz hWP HD10 HCD10 hw4 hw5
          go_cut [11] (fun v11 w => ∃ (ls : List Int) (a5 : Nat) (er : Int) (A : Option Addr) (cc : Nat), v11 = .slice A ls.length cc ∧ Aside0 (P + 1 ≤ w.heap.size) ∧ Aside0 (LG W w B r ov s most out a5 er u (P + 1) P (some ⟨g7, 0, none⟩) 19 c7 A2 n2 y2 l v11 ls) ∧ Aside0 (R = runS er (dynC p q ls) s a5) ∧ Aside0 (er = 0 → ls.length = n ∧ 257 + p ≤ 286 ∧ 1 + q ≤ 30) ∧ Aside0 (∀ y ∈ ls, 0 ≤ y ∧ y < 19))
          case first =>
            go_wp2_with fail
            go_loopw [11] (fun v11 wr => ∃ (ls : List Int) (f a5 : Nat) (er : Int) (A : Option Addr) (cc : Nat), v11 = .slice A ls.length cc ∧ ls.length ≤ n ∧ n ≤ f + ls.length ∧ Aside0 (P + 1 ≤ wr.heap.size) ∧ Aside0 (LG W wr B r ov s most out a5 er u (P + 1) P (some ⟨g7, 0, none⟩) 19 c7 A2 n2 y2 l v11 ls) ∧ Aside0 (R = runS er ((lengthsT l n f ls).bind (dynC p q)) s a5) ∧ Aside0 (er = 0 → okL l = true ∧ 257 + p ≤ 286 ∧ 1 + q ≤ 30) ∧ Aside0 (∀ y ∈ ls, 0 ≤ y ∧ y < 19)) (fun v11 wr => n - slen v11 + goQ r wr)
            case atStart => exact ⟨[], n, a4, er6, none, 0, rfl, Nat.zero_le _, Nat.le_refl _, HSZ, HL0, HR6, HOK, ⟨fun _ h => by cases h⟩⟩
            case round =>
              clear HSZ HL0 HR6 HOK
              obtain ⟨ls, f, a5, er, A, cc, rfl, hls, hf, HSZ, HG, HRU, HOK, HRG⟩ := hrel
              have c4 := HG.out.d.g.ix.c4
              by_cases h0 : er = 0
              · subst h0
                by_cases hlt : ls.length < n
                · have b1 : decide (ls.length < n) = true := decide_eq_true hlt
                  have b2 : decide ((ls.length : Int) < (n : Int)) = true := decide_eq_true (by omega)
                  have HOL := Aside0.mk (HOK.out rfl)
                  clear HOK
                  obtain ⟨f, rfl⟩ : ∃ f', f = f' + 1 := ⟨f - 1, by omega⟩
                  have hr := HRU.out
                  rw [lengthsT_step l n f ls hlt, bind_assoc] at hr
                  unfold manyT at hr
                  rw [bind_assoc, runS_sym] at hr
                  have hk := sV_rng (l := l) (by rw [HLL.out]; decide) s a5 0
                  rw [HLL.out] at hk
                  have hno := sV_no (l := l) (s := s) (a := a5)
                  obtain ⟨k, hke⟩ : ∃ m : Nat, sV l s a5 0 = m := ⟨(sV l s a5 0).toNat, by omega⟩
                  obtain ⟨a6, hae⟩ : ∃ m, sA l s a5 0 = m := ⟨_, rfl⟩
                  obtain ⟨e6, hee⟩ : ∃ m, sE l s a5 0 = m := ⟨_, rfl⟩
                  have HSY := Aside0.mk (symbolQ_any HG.out.d.g.ix (HG.out.cd HOL.out.1) HOL.out.1)
                  rw [hke, hae, hee] at HSY hr
                  rw [hke] at hk
                  rw [hke, hee] at hno
                  have HR := Aside0.mk hr
                  have HI := Aside0.mk (And.intro hlt hf)
                  have HNO : Aside0 (e6 ≠ 0 → k = 0) := ⟨fun h => by have := hno h; omega⟩
                  have HK : Aside0 (k < 19) := ⟨by omega⟩
                  have HGO : Aside0 (goQ r wr = 1) := ⟨(goQ_is HG.out.d.g.ix).trans (if_pos rfl)⟩
                  have d0 := blk_cell HG.out.bc 0
                  have d1 := blk_cell HG.out.bc 1
                  clear hr hk hno hke hae hee HRU hls hf hlt
                  go_wp2_with fail
                  refine HSY.out.mono ?_
                  rintro e w12 ⟨rfl, hx, hfr⟩
                  have HG2 := Aside0.mk (HG.out.used hx hfr)
                  have HSZ2 := Aside0.mk (Nat.le_trans HSZ.out hfr.size)
                  clear hx hfr HSY HG HSZ d0 d1 c4
                  obtain ⟨G, hG⟩ : ∃ G : Int × Nat → Rd (List Int × List Int), G = fun v => (if ls.length + v.2 ≤ n then lengthsT l n f (ls ++ List.replicate v.2 v.1) else err 40).bind (dynC p q) := ⟨_, rfl⟩
                  have HGG := Aside0.mk hG
                  have HR2 : Aside0 (R = runS e6 ((if (k : Int) = 16 then (if ls.length = 0 then err 40 else (bitsN 2).bind fun x => ret (ls.getD (ls.length - 1) 0, 3 + x)) else if (k : Int) = 17 then (bitsN 3).bind fun x => ret (0, 3 + x) else if (k : Int) = 18 then (bitsN 7).bind fun x => ret (0, 11 + x) else ret ((k : Int), 1)).bind G) s a6) := ⟨by rw [hG]; exact HR.out⟩
                  clear hG HR
                  go_upto_block 4 with (fail)
                  go_cut [14, 15] (fun v14 v15 w => ∃ (kk : Int) (many a7 : Nat) (e7 : Int), v14 = .int .i64 kk ∧ v15 = .int .i64 many ∧ 1 ≤ many ∧ many ≤ 138 ∧ Aside0 (P + 1 ≤ w.heap.size) ∧ Aside0 (LG W w B r ov s most out a7 e7 u (P + 1) P (some ⟨g7, 0, none⟩) 19 c7 A2 n2 y2 l (.slice A ls.length cc) ls) ∧ Aside0 (R = runS e7 (G (kk, many)) s a7) ∧ Aside0 (0 ≤ kk ∧ kk < 19))
                  case first =>
                    by_cases h16 : k = 16
                    · subst h16
                      rw [if_pos (by rfl)] at HR2
                      by_cases hl0 : ls.length = 0
                      · rw [if_pos hl0, runS_err] at HR2
                        have b5 : decide ((ls.length : Int) = 0) = true := decide_eq_true (by omega)
                        have b6 : ((ls.length : Int) == 0) = true := by rw [beq_iff_eq]; omega
                        have b7 : decide (ls.length = 0) = true := decide_eq_true hl0
                        have b8 : (ls.length == 0) = true := by rw [beq_iff_eq]; exact hl0
                        have HE := Aside0.mk (endsQ_any HG2.out.d.g.ix)
                        have HL0 := Aside0.mk hl0
                        clear hl0
                        go_wp2_with fail
                        refine HE.out.mono ?_
                        rintro e w13 ⟨rfl, hx, hfr⟩
                        have HG3 := Aside0.mk (HG2.out.used hx hfr)
                        have HSZ3 := Aside0.mk (Nat.le_trans HSZ2.out hfr.size)
                        have HGO3 : Aside0 (goQ r w13 = 0) := ⟨(goQ_is HG3.out.d.g.ix).trans (if_neg (enE_ne _))⟩
                        clear hx hfr HE HG2 HSZ2
                        go_wp2_with fail
                        go_roundw
                        case rel => exact ⟨ls, f + 1, a6, enE e6, A, cc, rfl, by have := HI.out; omega, HI.out.2, HSZ3, HG3, ⟨by rw [HR2.out, runS_no (enE_ne _)]⟩, ⟨fun h => absurd h (enE_ne _)⟩, HRG⟩
                        case measure => rw [HGO.out, HGO3.out]; simp [slen]
                      · rw [if_neg hl0] at HR2
                        have b5 : decide ((ls.length : Int) = 0) = false := decide_eq_false (by omega)
                        have b6 : ((ls.length : Int) == 0) = false := by rw [beq_eq_false_iff_ne]; omega
                        have b7 : decide (ls.length = 0) = false := decide_eq_false hl0
                        have b8 : (ls.length == 0) = false := by rw [beq_eq_false_iff_ne]; exact hl0
                        have hlN := HI.out.1
                        have hnB := HNB.out
                        have hw1 : IntKind.i64.wrap ((ls.length : Int) - 1) = (ls.length : Int) - 1 := IntWalk.i64_in _ (by omega)
                        have q1 : (0 : Int) ≤ (ls.length : Int) - 1 := by omega
                        have q2 : (ls.length : Int) - 1 < (ls.length : Int) := by omega
                        obtain ⟨ad, hA, x0⟩ := Kd.at_int (Kd.R_reads' HG2.out.ro).2.2 ((ls.length : Int) - 1) (by omega) (by omega)
                        subst hA
                        have q3 : ((ls.length : Int) - 1).toNat = ls.length - 1 := by omega
                        rw [q3] at x0
                        have hrd : rd ls ((ls.length : Int) - 1) = ls.getD (ls.length - 1) 0 := by unfold rd; rw [q3]
                        rw [hrd] at x0
                        have HKK := Aside0.mk (show 0 ≤ ls.getD (ls.length - 1) 0 ∧ ls.getD (ls.length - 1) 0 < 19 by
                          rw [List.getD_eq_getElem?_getD, List.getElem?_eq_getElem (by omega)]
                          exact HRG.out _ (List.getElem_mem _))
                        obtain ⟨kk, hkk⟩ : ∃ z, ls.getD (ls.length - 1) 0 = z := ⟨_, rfl⟩
                        rw [hkk] at x0 HKK HR2
                        rw [bind_assoc, runS_bits _ _ _ _ _ HG2.out.d.g.ix.le] at HR2
                        obtain ⟨y, hy⟩ : ∃ z, bV s a6 e6 2 = z := ⟨_, rfl⟩
                        have hyb : y < 4 := by rw [← hy]; exact bV_lt s a6 e6 2
                        obtain ⟨a7, ha7⟩ : ∃ z, bA s a6 e6 2 = z := ⟨_, rfl⟩
                        obtain ⟨e7, he7⟩ : ∃ z, bE s a6 e6 2 = z := ⟨_, rfl⟩
                        have HBI := Aside0.mk (bitsQ_any HG2.out.d.g.ix 2 (by decide))
                        rw [hy, ha7, he7] at HBI HR2
                        have hwy : IntKind.i64.wrap (3 + (y : Int)) = 3 + (y : Int) := IntWalk.i64_in _ (by omega)
                        have HY := Aside0.mk hyb
                        clear hy hyb ha7 he7 hl0 hrd hkk hlN hnB
                        go_wp2_with fail
                        refine HBI.out.mono ?_
                        rintro e w13 ⟨rfl, hx, hfr⟩
                        have HG3 := Aside0.mk (HG2.out.used hx (QS_of_r hfr))
                        have HSZ3 := Aside0.mk (Nat.le_trans HSZ2.out hfr.size)
                        clear hx hfr HBI HG2 HSZ2
                        go_wp2_with fail
                        go_meet
                        case rel => exact ⟨kk, 3 + y, a7, e7, rfl, by simp, by omega, by have := HY.out; omega, HSZ3, HG3, HR2, HKK⟩
                    · rw [if_neg (by omega)] at HR2
                      have n16 : decide (k = 16) = false := decide_eq_false h16
                      have m16 : (k == 16) = false := by rw [beq_eq_false_iff_ne]; exact h16
                      have o16 : decide ((k : Int) = 16) = false := decide_eq_false (by omega)
                      have p16 : ((k : Int) == 16) = false := by rw [beq_eq_false_iff_ne]; omega
                      by_cases h17 : k = 17
                      · subst h17
                        rw [if_pos (by rfl)] at HR2
                        rw [bind_assoc, runS_bits _ _ _ _ _ HG2.out.d.g.ix.le] at HR2
                        obtain ⟨y, hy⟩ : ∃ z, bV s a6 e6 3 = z := ⟨_, rfl⟩
                        have hyb : y < 8 := by rw [← hy]; exact bV_lt s a6 e6 3
                        obtain ⟨a7, ha7⟩ : ∃ z, bA s a6 e6 3 = z := ⟨_, rfl⟩
                        obtain ⟨e7, he7⟩ : ∃ z, bE s a6 e6 3 = z := ⟨_, rfl⟩
                        have HBI := Aside0.mk (bitsQ_any HG2.out.d.g.ix 3 (by decide))
                        rw [hy, ha7, he7] at HBI HR2
                        have hwy : IntKind.i64.wrap (3 + (y : Int)) = 3 + (y : Int) := IntWalk.i64_in _ (by omega)
                        have HY := Aside0.mk hyb
                        clear hy hyb ha7 he7 h16
                        go_wp2_with fail
                        refine HBI.out.mono ?_
                        rintro e w13 ⟨rfl, hx, hfr⟩
                        have HG3 := Aside0.mk (HG2.out.used hx (QS_of_r hfr))
                        have HSZ3 := Aside0.mk (Nat.le_trans HSZ2.out hfr.size)
                        clear hx hfr HBI HG2 HSZ2
                        go_wp2_with fail
                        go_meet
                        case rel => exact ⟨0, 3 + y, a7, e7, rfl, by simp, by omega, by have := HY.out; omega, HSZ3, HG3, HR2, ⟨by decide, by decide⟩⟩
                      · rw [if_neg (by omega)] at HR2
                        have n17 : decide (k = 17) = false := decide_eq_false h17
                        have m17 : (k == 17) = false := by rw [beq_eq_false_iff_ne]; exact h17
                        have o17 : decide ((k : Int) = 17) = false := decide_eq_false (by omega)
                        have p17 : ((k : Int) == 17) = false := by rw [beq_eq_false_iff_ne]; omega
                        by_cases h18 : k = 18
                        · subst h18
                          rw [if_pos (by rfl)] at HR2
                          rw [bind_assoc, runS_bits _ _ _ _ _ HG2.out.d.g.ix.le] at HR2
                          obtain ⟨y, hy⟩ : ∃ z, bV s a6 e6 7 = z := ⟨_, rfl⟩
                          have hyb : y < 128 := by rw [← hy]; exact bV_lt s a6 e6 7
                          obtain ⟨a7, ha7⟩ : ∃ z, bA s a6 e6 7 = z := ⟨_, rfl⟩
                          obtain ⟨e7, he7⟩ : ∃ z, bE s a6 e6 7 = z := ⟨_, rfl⟩
                          have HBI := Aside0.mk (bitsQ_any HG2.out.d.g.ix 7 (by decide))
                          rw [hy, ha7, he7] at HBI HR2
                          have hwy : IntKind.i64.wrap (11 + (y : Int)) = 11 + (y : Int) := IntWalk.i64_in _ (by omega)
                          have HY := Aside0.mk hyb
                          clear hy hyb ha7 he7 h16 h17
                          go_wp2_with fail
                          refine HBI.out.mono ?_
                          rintro e w13 ⟨rfl, hx, hfr⟩
                          have HG3 := Aside0.mk (HG2.out.used hx (QS_of_r hfr))
                          have HSZ3 := Aside0.mk (Nat.le_trans HSZ2.out hfr.size)
                          clear hx hfr HBI HG2 HSZ2
                          go_wp2_with fail
                          go_meet
                          case rel => exact ⟨0, 11 + y, a7, e7, rfl, by simp, by omega, by have := HY.out; omega, HSZ3, HG3, HR2, ⟨by decide, by decide⟩⟩
                        · rw [if_neg (by omega)] at HR2
                          have n18 : decide (k = 18) = false := decide_eq_false h18
                          have m18 : (k == 18) = false := by rw [beq_eq_false_iff_ne]; exact h18
                          have o18 : decide ((k : Int) = 18) = false := decide_eq_false (by omega)
                          have p18 : ((k : Int) == 18) = false := by rw [beq_eq_false_iff_ne]; omega
                          have HKK : Aside0 (0 ≤ (k : Int) ∧ (k : Int) < 19) := ⟨by have := HK.out; omega⟩
                          clear h16 h17 h18
                          go_wp2_with fail
                          go_meet
                          case rel => exact ⟨k, 1, a6, e6, rfl, rfl, Nat.le_refl _, by omega, HSZ2, HG2, HR2, HKK⟩
                  case rest =>
                    clear HG2 HR2 HSZ2 HNO
                    obtain ⟨kk, many, a7, e7, rfl, rfl, hm1, hm2, HSZ3, HG3, HR3, HKK⟩ := hcut
                    rw [HGG.out] at HR3
                    simp only at HR3
                    have hlN := HI.out.1
                    have hnB := HNB.out
                    have hw1 : IntKind.i64.wrap ((ls.length : Int) + (many : Int)) = (ls.length : Int) + (many : Int) := IntWalk.i64_in _ (by omega)
                    by_cases hle : ls.length + many ≤ n
                    · rw [if_pos hle] at HR3
                      have b5 : decide ((n : Int) < (ls.length : Int) + (many : Int)) = false := decide_eq_false (by omega)
                      have b6 : ¬ (n : Int) < (ls.length : Int) + (many : Int) := by omega
                      have HT := Aside0.mk (times_ok (.slice A ls.length cc) ls kk many (P + 1) _ HG3.out.ro HSZ3.out (by omega))
                      have HLE := Aside0.mk (And.intro hle hm1)
                      clear hle hm1 hm2 hlN hnB
                      go_wp2_with fail
                      refine HT.out.mono ?_
                      rintro e w14 ⟨v', rfl, hro, hfr, _⟩
                      have HG4 := Aside0.mk (HG3.out.rowF hro hfr)
                      have HSZ4 := Aside0.mk (Nat.le_trans HSZ3.out hfr.size)
                      obtain ⟨A4, c4', e4⟩ := Kd.R_slice hro
                      subst e4
                      have HLN2 := Aside0.mk (show (ls ++ List.replicate many kk).length = ls.length + many by rw [List.length_append, List.length_replicate])
                      rw [HLN2.out] at HG4
                      have HGO4 := Aside0.mk (goQ_le r w14)
                      clear hro hfr HT HG3 HSZ3
                      go_wp2_with fail
                      go_roundw
                      case rel => exact ⟨_, f, a7, e7, A4, c4', by rw [HLN2.out], by rw [List.length_append, List.length_replicate]; exact HLE.out.1, by rw [List.length_append, List.length_replicate]; have := HI.out; have := HLE.out; omega, HSZ4, HG4, HR3, ⟨fun _ => HOL.out⟩, ⟨fun z hz => by
                        rcases List.mem_append.1 hz with hz | hz
                        · exact HRG.out z hz
                        · rw [List.eq_of_mem_replicate hz]; exact HKK.out⟩⟩
                      case measure => rw [HGO.out]; simp [slen]; have := HGO4.out; have := HLE.out; have := HI.out; omega
                    · rw [if_neg hle, runS_err] at HR3
                      have b5 : decide ((n : Int) < (ls.length : Int) + (many : Int)) = true := decide_eq_true (by omega)
                      have b6 : (n : Int) < (ls.length : Int) + (many : Int) := by omega
                      have HE := Aside0.mk (endsQ_any HG3.out.d.g.ix)
                      clear hle hm1 hm2 hlN hnB
                      go_wp2_with fail
                      refine HE.out.mono ?_
                      rintro e w13 ⟨rfl, hx, hfr⟩
                      have HG4 := Aside0.mk (HG3.out.used hx hfr)
                      have HSZ4 := Aside0.mk (Nat.le_trans HSZ3.out hfr.size)
                      have HGO3 : Aside0 (goQ r w13 = 0) := ⟨(goQ_is HG4.out.d.g.ix).trans (if_neg (enE_ne _))⟩
                      clear hx hfr HE HG3 HSZ3
                      go_wp2_with fail
                      go_roundw
                      case rel => exact ⟨ls, f + 1, a7, enE e7, A, cc, rfl, by have := HI.out; omega, HI.out.2, HSZ4, HG4, ⟨by rw [HR3.out, runS_no (enE_ne _)]⟩, ⟨fun h => absurd h (enE_ne _)⟩, HRG⟩
                      case measure => rw [HGO.out, HGO3.out]; simp [slen]
                · have hle : ls.length = n := by omega
                  have b1 : decide (ls.length < n) = false := decide_eq_false hlt
                  have b2 : decide ((ls.length : Int) < (n : Int)) = false := decide_eq_false (by omega)
                  have HR : Aside0 (R = runS 0 (dynC p q ls) s a5) := ⟨by rw [HRU.out, lengthsT_end l n f ls hlt]; rfl⟩
                  have HE : Aside0 (ls.length = n ∧ 257 + p ≤ 286 ∧ 1 + q ≤ 30) := ⟨hle, (HOK.out rfl).2⟩
                  clear hlt hls hf hle HOK
                  go_wp2_with fail
                  go_meet
                  case rel => exact ⟨ls, a5, 0, A, cc, rfl, HSZ, HG, HR, ⟨fun _ => HE.out⟩, HRG⟩
              · have b3 : (er == 0) = false := by rw [beq_eq_false_iff_ne]; exact h0
                have b4 : decide (er = 0) = false := decide_eq_false h0
                have HNZ := Aside0.mk h0
                have HR : Aside0 (R = runS er (dynC p q ls) s a5) := ⟨by rw [HRU.out, runS_no h0, runS_no h0]⟩
                by_cases hlt : ls.length < n
                · have b1 : decide (ls.length < n) = true := decide_eq_true hlt
                  have b2 : decide ((ls.length : Int) < (n : Int)) = true := decide_eq_true (by omega)
                  clear hlt hls hf h0
                  go_wp2_with fail
                  go_meet
                  case rel => exact ⟨ls, a5, er, A, cc, rfl, HSZ, HG, HR, ⟨fun h => absurd h HNZ.out⟩, HRG⟩
                · have b1 : decide (ls.length < n) = false := decide_eq_false hlt
                  have b2 : decide ((ls.length : Int) < (n : Int)) = false := decide_eq_false (by omega)
                  clear hlt hls hf h0
                  go_wp2_with fail
                  go_meet
                  case rel => exact ⟨ls, a5, er, A, cc, rfl, HSZ, HG, HR, ⟨fun h => absurd h HNZ.out⟩, HRG⟩
          case rest =>
            obtain ⟨ls, a5, er, A, cc, rfl, HSZ, HG, HR, HE, HRG⟩ := hcut
            clear HL0 HR6 HOK
            have HUW : Aside0 (W.heap.size ≤ u) := ⟨by omega⟩
            have c4 := HG.out.d.g.ix.c4
            by_cases h0 : er = 0
            · subst h0
              have HEE := Aside0.mk (HE.out rfl)
              have hlen : ls.length = 257 + p + (1 + q) := by have := HEE.out.1; have := HN.out; omega
              have HPQ := Aside0.mk HEE.out.2
              have hro := HG.out.ro
              obtain ⟨gA, cA, eA⟩ := HF.R_first hro (by omega)
              injection eA with eA _ ec
              subst eA
              subst ec
              have HRO := Aside0.mk hro
              have HV := Aside0.mk (Kd.R_reads' hro).2
              have HLEN := Aside0.mk hlen
              have HR7 := HR.out
              rw [runS_0] at HR7
              unfold dynC at HR7
              rw [hlen] at HV ⊢
              have HD := Aside0.mk HG.out.d
              have n1 : (0 : Int) ≤ 257 + (p : Int) := by omega
              have n2 : 257 + (p : Int) ≤ ((257 + p + (1 + q) : Nat) : Int) := by omega
              have n3 : (257 + (p : Int)).toNat = 257 + p := by omega
              have n4 : ((257 + p + (1 + q) : Nat) : Int) ≤ (cc : Int) := by have := HV.out.1; omega
              clear hro HEE HE HR
              go_upto_region 37 with (fail)
              go_region
              have HD12 := Aside0.mk (HD.out.below (below_drew (Below.refl _ _)))
              have HRO2 := Aside0.mk (Kd.R_below HRO.out (below_drew (Below.refl _ _)))
              have hC := Kd.C_below HV.out.2 (below_drew (Below.refl wc.heap.size wc))
              rw [← hlen] at hC
              have hl1 : (ls.take (257 + p)).length = 257 + p := by rw [List.length_take]; omega
              have hl2 : (ls.drop (257 + p)).length = 1 + q := by rw [List.length_drop]; omega
              have hC1 := Kd.C_take hC (m := 257 + p) (by omega)
              have hC2 := Kd.C_drop hC (m := 257 + p) (c := cc) (by omega) (by have := HV.out.1; omega)
              rw [if_neg (by have := HV.out.1; omega)] at hC2
              have hadr : (some (⟨gA, 0, none⟩ : Addr)).map (fun z => z.add ((257 + p) * (Kd.int .i64).sz)) = some ⟨gA, 257 + p, none⟩ := by
                show some (Addr.add _ ((257 + p) * 1)) = _
                rw [Nat.mul_one]
                unfold Addr.add
                rw [if_neg (by omega)]
                simp
              rw [hadr] at hC2
              have HL1 : Aside0 ((ls.take (257 + p)).length = 257 + p ∧ (256 < (ls.take (257 + p)).length) ∧ ∀ y ∈ ls.take (257 + p), 0 ≤ y ∧ y < 19) := ⟨hl1, by omega, fun y hy => HRG.out y (List.mem_of_mem_take hy)⟩
              have HL2 : Aside0 ((ls.drop (257 + p)).length = 1 + q ∧ ∀ y ∈ ls.drop (257 + p), 0 ≤ y ∧ y < 19) := ⟨hl2, fun y hy => HRG.out y (List.mem_of_mem_drop hy)⟩
              obtain ⟨l1, hl1e⟩ : ∃ z, ls.take (257 + p) = z := ⟨_, rfl⟩
              obtain ⟨l2, hl2e⟩ : ∃ z, ls.drop (257 + p) = z := ⟨_, rfl⟩
              rw [hl1e] at hC1 HL1 HR7
              rw [hl2e] at hC2 HL2 HR7
              have HI1 : Aside0 (RowIn wc.drew wc.drew.heap.size (.slice (some ⟨gA, 0, none⟩) (257 + p) cc) l1) := ⟨by have h := RowIn.part HRO2.out (by omega) hC1 cc (by rw [HL1.out.1]; have := HV.out.1; omega); rw [HL1.out.1] at h; exact h⟩
              have HI2 : Aside0 (RowIn wc.drew wc.drew.heap.size (.slice (some ⟨gA, 257 + p, none⟩) (1 + q) (cc - (257 + p))) l2) := ⟨by have h := RowIn.part HRO2.out (by omega) hC2 (cc - (257 + p)) (by rw [HL2.out.1]; have := HV.out.1; omega); rw [HL2.out.1] at h; exact h⟩
              have HC1 := Aside0.mk hC1
              have HC2 := Aside0.mk hC2
              have HCC : Aside0 (257 + p ≤ cc ∧ 1 + q ≤ cc - (257 + p)) := ⟨by have := HV.out.1; omega⟩
              have HRR := Aside0.mk HR7
              clear hC hC1 hC2 hl1 hl2 hl1e hl2e hadr HR7 HG HD HRO HRO2 HV HRG HL7 n1 n2 n3 n4 hlen HLEN c4
              generalize wc.drew = w12 at HD12 HC1 HC2 HI1 HI2 ⊢
              go_wp2_with fail
              go_loopw [18, 19] (fun v18 v19 wr => ∃ i : Nat, v19 = .int .i64 i ∧ i ≤ 1 + q ∧ v18 = .int .i64 (l2.take i).sum ∧ wr = w12) (fun _ v19 _ => 1 + q - (intOf v19).toNat)
              case atStart => exact ⟨0, rfl, Nat.zero_le _, by rw [List.take_zero]; rfl, rfl⟩
              case round =>
                obtain ⟨j, rfl, hj, rfl, rfl⟩ := hrel
                by_cases hlt2 : j < 1 + q
                · have hb3 : decide (j < 1 + q) = true := decide_eq_true hlt2
                  have hb4 : decide ((j : Int) < ((1 + q : Nat) : Int)) = true := decide_eq_true (by omega)
                  have hb5 : decide ((j : Int) < 1 + (q : Int)) = true := decide_eq_true (by omega)
                  obtain ⟨ad, hA, x0⟩ := Kd.at_int HC2.out (j : Int) (by omega) (by rw [HL2.out.1]; omega)
                  injection hA with hA
                  subst hA
                  simp only [Int.toNat_natCast] at x0
                  rw [add_at] at x0
                  have hst := sum_take l2 j (by rw [HL2.out.1]; exact hlt2)
                  have hrd : rd l2 (j : Int) = l2.getD j 0 := by unfold rd; rw [Int.toNat_natCast]
                  rw [hrd] at x0
                  have hs1 : 0 ≤ (l2.take j).sum ∧ (l2.take j).sum ≤ 1000 := by
                    have h1 := sum_nn (l2.take j) (fun y hy => (HL2.out.2 y (List.mem_of_mem_take hy)).1)
                    have h2 := sum_le (l2.take j) 18 (fun y hy => by have := (HL2.out.2 y (List.mem_of_mem_take hy)).2; omega)
                    rw [List.length_take] at h2
                    have h3 := HPQ.out
                    refine ⟨h1, ?_⟩
                    omega
                  have hs2 : 0 ≤ l2.getD j 0 ∧ l2.getD j 0 < 19 := by
                    rw [List.getD_eq_getElem?_getD, List.getElem?_eq_getElem (by rw [HL2.out.1]; exact hlt2)]
                    exact HL2.out.2 _ (List.getElem_mem _)
                  obtain ⟨uu, huu⟩ : ∃ z, (l2.take j).sum = z := ⟨_, rfl⟩
                  obtain ⟨z, hz⟩ : ∃ z, l2.getD j 0 = z := ⟨_, rfl⟩
                  rw [huu, hz] at hst
                  rw [huu] at hs1 ⊢
                  rw [hz] at x0 hs2
                  have hwj : IntKind.i64.wrap ((j : Int) + 1) = (j : Int) + 1 := IntWalk.i64_in _ (by have := HPQ.out; omega)
                  have hws : IntKind.i64.wrap (uu + z) = uu + z := IntWalk.i64_in _ (by omega)
                  have j0 : (0 : Int) ≤ (j : Int) := by omega
                  have j1 : (j : Int) < ((1 + q : Nat) : Int) := by omega
                  have j2 : (j : Int) < 1 + (q : Int) := by omega
                  have HST := Aside0.mk (And.intro hst hlt2)
                  clear hst hlt2 hrd huu hz hs1 hs2 hj
                  go_wp2_with fail
                  go_roundw
                  case rel => exact ⟨j + 1, by simp, by have := HST.out.2; omega, by rw [HST.out.1], by trivial⟩
                  case measure => simp [intOf]; have := HST.out.2; omega
                · have hje : j = 1 + q := by omega
                  have hb3 : decide (j < 1 + q) = false := decide_eq_false hlt2
                  have hb4 : decide (1 + q < 1 + q) = false := decide_eq_false (by omega)
                  subst hje
                  have hsum : l2.take (1 + q) = l2 := List.take_of_length_le (by rw [HL2.out.1]; exact Nat.le_refl _)
                  rw [hsum]
                  obtain ⟨ad, hA, x0⟩ := Kd.at_int HC1.out (256 : Int) (by decide) (by have := HL1.out.2.1; omega)
                  injection hA with hA
                  subst hA
                  have hrd : rd l1 256 = l1.getD 256 0 := rfl
                  rw [hrd, add_at] at x0
                  change wr.cell? ⟨gA, 256, none⟩ = _ at x0
                  have hznn : 0 ≤ l1.getD 256 0 := by
                    rw [List.getD_eq_getElem?_getD, List.getElem?_eq_getElem HL1.out.2.1]
                    exact (HL1.out.2.2 _ (List.getElem_mem _)).1
                  obtain ⟨z, hz⟩ : ∃ z, l1.getD 256 0 = z := ⟨_, rfl⟩
                  rw [hz] at x0 HRR hznn
                  obtain ⟨sm, hsm⟩ : ∃ z, l2.sum = z := ⟨_, rfl⟩
                  have HSM := Aside0.mk hsm
                  rw [hsm] at HRR ⊢
                  have j1 : (256 : Int) < 257 + (p : Int) := by omega
                  have j2 : (256 : Int) < ((257 + p : Nat) : Int) := by omega
                  clear hlt2 hj hsum hrd hz
                  go_upto_region 43 with (fail)
                  go_cut [169] from 152 to 169 (fun v w => v = .bool (decide (¬ (0 < z ∧ isWhole l1 = true ∧ (isWhole l2 = true ∨ sm ≤ 1)))) ∧ Aside0 (Below wr.heap.size wr w))
                  case first =>
                    by_cases hz0 : 0 < z
                    · have hb5 : decide (z = 0) = false := decide_eq_false (by omega)
                      have hb6 : (z == 0) = false := by rw [beq_eq_false_iff_ne]; omega
                      have HW1 := Aside0.mk (refFull_any (some ⟨gA, 0, none⟩) cc l1 wr HC1.out (by rw [HL1.out.1]; exact HCC.out.1))
                      rw [HL1.out.1] at HW1
                      have HZ0 := Aside0.mk hz0
                      clear hz0 hznn
                      go_wp2_with fail
                      refine HW1.out.mono ?_
                      rintro e w14 ⟨rfl, hb14⟩
                      have HB14 := Aside0.mk hb14
                      clear hb14 HW1
                      cases hw : isWhole l1 with
                      | false =>
                        have HV := Aside0.mk (show decide (¬ (0 < z ∧ isWhole l1 = true ∧ (isWhole l2 = true ∨ sm ≤ 1))) = true from decide_eq_true (by rw [hw]; rintro ⟨_, h, _⟩; exact absurd h (by decide)))
                        clear hw
                        go_wp2_with fail
                        go_meet
                        case rel => exact ⟨by rw [HV.out], HB14⟩
                      | true =>
                        have HW1 := Aside0.mk hw
                        have HW2 := Aside0.mk (refFull_any (some ⟨gA, 257 + p, none⟩) (cc - (257 + p)) l2 w14 (Kd.C_below HC2.out HB14.out) (by rw [HL2.out.1]; exact HCC.out.2))
                        rw [HL2.out.1] at HW2
                        clear hw
                        go_wp2_with fail
                        refine HW2.out.mono ?_
                        rintro e w15 ⟨rfl, hb15⟩
                        have HB15 := Aside0.mk (HB14.out.trans (hb15.mono HB14.out.size))
                        clear hb15 HW2 HB14
                        cases hw2 : isWhole l2 with
                        | true =>
                          have HV := Aside0.mk (show decide (¬ (0 < z ∧ isWhole l1 = true ∧ (isWhole l2 = true ∨ sm ≤ 1))) = false from decide_eq_false (fun h => h ⟨HZ0.out, HW1.out, Or.inl hw2⟩))
                          clear hw2
                          go_wp2_with fail
                          go_meet
                          case rel => exact ⟨by rw [HV.out], HB15⟩
                        | false =>
                          by_cases hs : sm ≤ 1
                          · have hb6 : decide ((1 : Int) < sm) = false := decide_eq_false (by omega)
                            have hb7 : ¬ (1 : Int) < sm := by omega
                            have HV := Aside0.mk (show decide (¬ (0 < z ∧ isWhole l1 = true ∧ (isWhole l2 = true ∨ sm ≤ 1))) = false from decide_eq_false (fun h => h ⟨HZ0.out, HW1.out, Or.inr hs⟩))
                            clear hw2 hs
                            go_wp2_with fail
                            go_meet
                            case rel => exact ⟨by rw [HV.out], HB15⟩
                          · have hb6 : decide ((1 : Int) < sm) = true := decide_eq_true (by omega)
                            have hb7 : (1 : Int) < sm := by omega
                            have HV := Aside0.mk (show decide (¬ (0 < z ∧ isWhole l1 = true ∧ (isWhole l2 = true ∨ sm ≤ 1))) = true from decide_eq_true (by
                              rintro ⟨_, _, h | h⟩
                              · exact absurd (hw2 ▸ h) (by decide)
                              · exact hs h))
                            clear hw2 hs
                            go_wp2_with fail
                            go_meet
                            case rel => exact ⟨by rw [HV.out], HB15⟩
                    · have hb5 : decide (z = 0) = true := decide_eq_true (by omega)
                      have hb6 : (z == 0) = true := by rw [beq_iff_eq]; omega
                      have HV := Aside0.mk (show decide (¬ (0 < z ∧ isWhole l1 = true ∧ (isWhole l2 = true ∨ sm ≤ 1))) = true from decide_eq_true (fun h => hz0 h.1))
                      clear hz0 hznn
                      go_wp2_with fail
                      go_meet
                      case rel => exact ⟨by rw [HV.out], ⟨Below.refl _ _⟩⟩
                  case rest =>
                    obtain ⟨rfl, HBW⟩ := hcut
                    have HD13 := Aside0.mk (HD12.out.below HBW.out)
                    have HI1a := Aside0.mk ((HI1.out.below HBW.out).mono HBW.out.size)
                    have HI2a := Aside0.mk ((HI2.out.below HBW.out).mono HBW.out.size)
                    clear HD12 HI1 HI2 HC1 HC2 x0
                    by_cases hcond : 0 < z ∧ isWhole l1 = true ∧ (isWhole l2 = true ∨ sm ≤ 1)
                    · have HV : decide (¬ (0 < z ∧ isWhole l1 = true ∧ (isWhole l2 = true ∨ sm ≤ 1))) = false := decide_eq_false (fun h => h hcond)
                      rw [if_pos hcond] at HRR
                      have HO1 := Aside0.mk (isWhole_ok hcond.2.1)
                      have HO2 : Aside0 (okL l2 = true) := ⟨by
                        rcases hcond.2.2 with h | h
                        · exact isWhole_ok h
                        · exact okL_few (fun y hy => (HL2.out.2 y hy).1) (by rw [HSM.out]; exact h) (by rw [HL2.out.1]; have := HPQ.out; omega)⟩
                      have HM1 := Aside0.mk (made_ok _ l1 _ wc HI1a.out (Nat.le_refl _) (by rw [HL1.out.1]; omega))
                      (try rw [HV])
                      clear hcond HV hznn
                      go_wp2_with fail
                      refine HM1.out.mono ?_
                      rintro e w16 ⟨⟨A3, n3, y3, rfl, hcd⟩, hb⟩
                      have HK1 := Aside0.mk (hcd HO1.out)
                      have HD14 := Aside0.mk (HD13.out.below hb)
                      have HM2 := Aside0.mk (made_ok _ l2 _ w16 ((HI2a.out.below hb).mono hb.size) (Nat.le_refl _) (by rw [HL2.out.1]; omega))
                      clear hcd hb HM1 HD13
                      go_wp2_with fail
                      refine HM2.out.mono ?_
                      rintro e w17 ⟨⟨A4, n4, y4, rfl, hcd⟩, hb⟩
                      have HK2 := Aside0.mk (hcd HO2.out)
                      have HK1a := Aside0.mk ((HK1.out.below hb).mono hb.size)
                      have HD15 := Aside0.mk (HD14.out.below hb)
                      clear hcd hb HM2 HD14 HK1
                      have s0 := blk_cell HD15.out.b1 0
                      have s1 := blk_cell HD15.out.b1 1
                      have f0 := blk_frozen HD15.out.b1 0
                      have f1 := blk_frozen HD15.out.b1 1
                      have t0 := blk_cell HD15.out.b2 0
                      have t1 := blk_cell HD15.out.b2 1
                      have g0 := blk_frozen HD15.out.b2 0
                      have g1 := blk_frozen HD15.out.b2 1
                      go_wp2_with fail
                      obtain ⟨p1, p2, p3⟩ := stored2 (.slice (some ⟨gA, 0, none⟩) (257 + p) cc) (.slice A3 n3 y3) (.slice (some ⟨gA, 257 + p, none⟩) (1 + q) (cc - (257 + p))) (.slice A4 n4 y4) HD15.out.b1 HD15.out.b2
                      refine bodyPost_ret (results_cc rfl _ _ u (u + 1) 50 50 #[.slice (some ⟨gA, 0, none⟩) (257 + p) cc, .slice A3 n3 y3] #[.slice (some ⟨gA, 257 + p, none⟩) (1 + q) (cc - (257 + p)), .slice A4 n4 y4] (0, 0) (0, 0) _ _ rfl p1 Try.underlying50 rfl (by kernel_rfl) rfl p2 Try.underlying50 rfl (by kernel_rfl)) rfl ?_
                      rw [HRR.out]
                      exact ⟨_, _, rfl, codes_stored HD15.out.b1 HD15.out.b2 p3 HK1a.out, codes_stored HD15.out.b1 HD15.out.b2 p3 HK2.out, ⟨HO1.out, by show 0 < l1.length; rw [HL1.out.1]; omega, HO2.out, by show 0 < l2.length; rw [HL2.out.1]; omega⟩, HD15.out.fin HUW.out p3⟩
                    · have HV : decide (¬ (0 < z ∧ isWhole l1 = true ∧ (isWhole l2 = true ∨ sm ≤ 1))) = true := decide_eq_true hcond
                      rw [if_neg hcond] at HRR
                      have c4 := HD13.out.g.ix.c4
                      have f4 := HD13.out.g.ix.fz 4
                      have HD14 : Aside0 (DG W (wc.setCell ⟨r, 4, none⟩ (.int .i64 40)) B r ov s most out a5 40 u) := ⟨HD13.out.used (HD13.out.g.ix.setE 40) (QS_set 4 _)⟩
                      have s0 := blk_cell HD14.out.b1 0
                      have s1 := blk_cell HD14.out.b1 1
                      have f0 := blk_frozen HD14.out.b1 0
                      have f1 := blk_frozen HD14.out.b1 1
                      have t0 := blk_cell HD14.out.b2 0
                      have t1 := blk_cell HD14.out.b2 1
                      have g0 := blk_frozen HD14.out.b2 0
                      have g1 := blk_frozen HD14.out.b2 1
                      (try rw [HV])
                      clear hcond HV hznn
                      go_wp2_with fail
                      obtain ⟨p1, p2, p3⟩ := stored2 (.slice none 0 0) (.slice none 0 0) (.slice none 0 0) (.slice none 0 0) HD14.out.b1 HD14.out.b2
                      refine bodyPost_ret (results_cc rfl _ _ u (u + 1) 50 50 #[.slice none 0 0, .slice none 0 0] #[.slice none 0 0, .slice none 0 0] (0, 0) (0, 0) _ _ rfl p1 Try.underlying50 rfl (by kernel_rfl) rfl p2 Try.underlying50 rfl (by kernel_rfl)) rfl ?_
                      rw [HRR.out]
                      exact ⟨by decide, rfl, a5, HD14.out.fin HUW.out p3⟩
            · have b3 : (er == 0) = false := by rw [beq_eq_false_iff_ne]; exact h0
              have b4 : decide (er = 0) = false := decide_eq_false h0
              have HNZ := Aside0.mk h0
              have HD := Aside0.mk HG.out.d
              have HRR : Aside0 (R = .no er) := ⟨by rw [HR.out, runS_no h0]⟩
              clear h0 HG HE HR
              have s0 := blk_cell HD.out.b1 0
              have s1 := blk_cell HD.out.b1 1
              have f0 := blk_frozen HD.out.b1 0
              have f1 := blk_frozen HD.out.b1 1
              have t0 := blk_cell HD.out.b2 0
              have t1 := blk_cell HD.out.b2 1
              have g0 := blk_frozen HD.out.b2 0
              have g1 := blk_frozen HD.out.b2 1
              go_wp2_with fail
              obtain ⟨p1, p2, p3⟩ := stored2 (.slice none 0 0) (.slice none 0 0) (.slice none 0 0) (.slice none 0 0) HD.out.b1 HD.out.b2
              refine bodyPost_ret (results_cc rfl _ _ u (u + 1) 50 50 #[.slice none 0 0, .slice none 0 0] #[.slice none 0 0, .slice none 0 0] (0, 0) (0, 0) _ _ rfl p1 Try.underlying50 rfl (by kernel_rfl) rfl p2 Try.underlying50 rfl (by kernel_rfl)) rfl ?_
              rw [HRR.out]
              exact ⟨HNZ.out, rfl, a5, HD.out.fin HUW.out p3⟩
end Go.Proofs.Ytaghmhcccighgaa.HI
