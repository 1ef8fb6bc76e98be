/- Parts: HRq6 HRq7 HRq8 -/
import Derived.Test.YtaghmhcccighgaaK07
import Derived.Test.YtaghmhcccighgaaK05
set_option linter.unusedVariables false
set_option linter.unusedSimpArgs false
section
/- The document's packed: walked. -/
namespace Go.Proofs.Ytaghmhcccighgaa.HI
open Go.RowKit Go.Proofs.YtaghmhcccighgaaW.PrintWords Go.Proofs.YtaghmhcccighgaaW.PrintLast Go.Proofs.YtaghmhcccighgaaW.PrintMore Go.Proofs.Ytaghmhcccighgaa.HW Go.Proofs.Ytaghmhcccighgaa.MB Go.Proofs.Ytaghmhcccighgaa.Fn Go.Proofs.Ytaghmhcccighgaa.HF Go.Proofs.Ytaghmhcccighgaa.RT Go.Proofs.Ytaghmhcccighgaa.RT.Rd Go.Proofs.Ytaghmhcccighgaa.HP
attribute [local go_sem] max2_int min2_int max_two min_two max_three min_three max_four min_four   -- for this text's walks alone
/-- How many bits a reader has before it; nothing where it has ended. -/
def posQ (r : Nat) (s : ByteArray) (w : World) : Nat :=
  match w.heap[r]? with
  | some (.cells cs _ _) => if intOf (cs.getD 4 undef) = 0 then 8 * s.size + 1 - (intOf (cs.getD 1 undef)).toNat else 0
  | _ => 0
theorem posQ_is {w : World} {B r : Nat} {ov : Value} {s : ByteArray} {a most : Nat} {out : List Int} {er : Int} (h : IsQ w B r ov s a most out er) : posQ r s w = if er = 0 then 8 * s.size + 1 - a else 0 := by
  unfold posQ
  rw [h.bx]
  rfl
theorem sA_pos {l : List Int} {s : ByteArray} {a : Nat} (ha : a ≤ 8 * s.size) (h : sE l s a 0 = 0) : a < sA l s a 0 := by
  have h2 := (sE_0 h).2
  have : (symT l).run s a = .ok (symF l s a).1 (symF l s a).2.2 := by
    rw [run_symT]
    unfold symQ
    rw [if_pos h2]
  have := symT_pos ha this
  unfold sA
  rw [if_pos ⟨rfl, h2⟩]
  exact this.1
theorem packed_step (most : Nat) (lens : List Int) (o : Option (List Int)) (f : Nat) (out : List Int) (s : ByteArray) (a : Nat) : runS 0 (packedT most lens o (f + 1) out) s a =
    runS (sE lens s a 0) (if sV lens s a 0 = 256 then ret out else if 256 < sV lens s a 0 then (copiesT most out (sV lens s a 0).toNat o).bind fun q => packedT most lens o f q else if most < out.length + 1 then err 4 else packedT most lens o f (out ++ [sV lens s a 0])) s (sA lens s a 0) := by
  show runS 0 ((symT lens).bind _) s a = _
  rw [runS_sym]
set_option maxRecDepth 100000 in
set_option maxHeartbeats 4000000 in
theorem packedQ_bad {W : World} {B r : Nat} {ov : Value} {s : ByteArray} {a most : Nat} {out : List Int} {er : Int} (h : IsQ W B r ov s a most out er) (he : er ≠ 0) (A1 : Option Addr) (n1 c1 : Nat) (A2 : Option Addr) (n2 c2 : Nat) (A3 : Option Addr) (n3 c3 : Nat) (A4 : Option Addr) (n4 c4 : Nat) :
    Calls Try.prog 27 #[.pointer (some ⟨r, 0, none⟩), .agg #[.slice A1 n1 c1, .slice A2 n2 c2], .agg #[.slice A3 n3 c3, .slice A4 n4 c4]] W fun e w' => e = .returned (.tuple #[]) ∧ Below W.heap.size W w' := by
  have b1 : (er == 0) = false := by rw [beq_eq_false_iff_ne]; exact he
  have b2 : decide (er = 0) = false := decide_eq_false he
  have hb := below_alloc (Below.refl W.heap.size W) (.cells #[.slice A1 n1 c1, .slice A2 n2 c2] 50)
  have HB := Aside0.mk (hb.trans ((below_alloc (Below.refl _ _) (.cells #[.slice A3 n3 c3, .slice A4 n4 c4] 50)).mono hb.size))
  have h4 := (h.below HB.out).c4
  clear h he hb
  go_enter Try.func27, Try.ntmps27
  go_wp2_with fail
  generalize (W.alloc (.cells #[.slice A1 n1 c1, .slice A2 n2 c2] 50)).alloc (.cells #[.slice A3 n3 c3, .slice A4 n4 c4] 50) = W1 at HB h4 ⊢
  go_loopw [] (fun wr => wr = W1) (fun _ => 0)
  case atStart => rfl
  case round =>
    subst hrel
    go_wp2_with fail
    go_end0
    exact ⟨rfl, HB.out⟩
theorem CodeIs.agg {W : World} {N : Nat} {c : Value} {lens : List Int} (h : CodeIs W N c lens) : ∃ A1 n1 c1 A2 n2 c2, c = .agg #[.slice A1 n1 c1, .slice A2 n2 c2] := by
  obtain ⟨v1, v2, rfl, ⟨k1, o1, e1, cells1, rfl, _⟩, ⟨k2, o2, e2, cells2, rfl, _⟩⟩ := h
  exact ⟨_, _, _, _, _, _, rfl⟩
set_option maxRecDepth 100000 in
set_option maxHeartbeats 16000000 in
theorem packedQ {W : World} {B r : Nat} {ov : Value} {s : ByteArray} {a most : Nat} {out : List Int} (h : IsQ W B r ov s a most out 0) {N : Nat} {c d : Value} {lens dl : List Int} (hc : CodeIs W N c lens) (hd : CodeIs W N d dl) (ho : okL lens = true) (h0 : 0 < lens.length) (hod : okL dl = true) (hd0 : 0 < dl.length) (F : Nat) (hF : 8 * s.size < F + a) :
    Calls Try.prog 27 #[.pointer (some ⟨r, 0, none⟩), c, d] W (PQ (fun _ : List Int => .tuple #[]) (.tuple #[]) (fun o => o) B r ov s most W ((packedT most lens (tableO dl) F out).run s a)) := by
  have HCc := Aside0.mk hc
  have HCd := Aside0.mk hd
  obtain ⟨A1, n1, y1, A2, n2, y2, rfl⟩ := hc.agg
  obtain ⟨A3, n3, y3, A4, n4, y4, rfl⟩ := hd.agg
  have H := Aside0.mk h
  have HO := Aside0.mk (And.intro ho h0)
  have HOD := Aside0.mk (And.intro hod hd0)
  have hlen := (okL_len ho).1
  have HLN := Aside0.mk hlen
  obtain ⟨q, hq⟩ : ∃ z, W.heap.size = z := ⟨_, rfl⟩
  have hs1 := alloc_size W (.cells #[.slice A1 n1 y1, .slice A2 n2 y2] 50)
  have hb1 := below_alloc (Below.refl W.heap.size W) (.cells #[.slice A1 n1 y1, .slice A2 n2 y2] 50)
  have hb2 := below_alloc (Below.refl (W.alloc (.cells #[.slice A1 n1 y1, .slice A2 n2 y2] 50)).heap.size (W.alloc (.cells #[.slice A1 n1 y1, .slice A2 n2 y2] 50))) (.cells #[.slice A3 n3 y3, .slice A4 n4 y4] 50)
  have HB := Aside0.mk (hb1.trans (hb2.mono hb1.size))
  have hq1 : (W.alloc (.cells #[.slice A1 n1 y1, .slice A2 n2 y2] 50)).heap[q]? = some (.cells #[.slice A1 n1 y1, .slice A2 n2 y2] 50 (0, 0)) := by rw [← hq]; exact heap_alloc_new _ _
  have HQ1 := Aside0.mk (blk_below hq1 hb2)
  have hq2 : ((W.alloc (.cells #[.slice A1 n1 y1, .slice A2 n2 y2] 50)).alloc (.cells #[.slice A3 n3 y3, .slice A4 n4 y4] 50)).heap[q + 1]? = some (.cells #[.slice A3 n3 y3, .slice A4 n4 y4] 50 (0, 0)) := by rw [← hq, ← hs1]; exact heap_alloc_new _ _
  have HQ2 := Aside0.mk hq2
  have HRUN0 : Aside0 ((packedT most lens (tableO dl) F out).run s a = runS 0 (packedT most lens (tableO dl) F out) s a) := ⟨(runS_0 _ _ _).symm⟩
  rw [hq] at hs1
  have HF := Aside0.mk hF
  clear h hc hd ho h0 hod hd0 hlen hb1 hb2 hq1 hq2 hF
  go_enter Try.func27, Try.ntmps27
  go_upto_block 0 with (fail)
  generalize (W.alloc (.cells #[.slice A1 n1 y1, .slice A2 n2 y2] 50)).alloc (.cells #[.slice A3 n3 y3, .slice A4 n4 y4] 50) = W1 at HB HQ1 HQ2 ⊢
  have HG0 := Aside0.mk ((QG.start H.out).below HB.out)
  go_wp2_with fail
  go_loopw [6] (fun v6 wr => ∃ (f a1 : Nat) (ov1 : Value) (o1 : List Int) (er : Int), Aside0 (er = 0 → 8 * s.size < f + a1) ∧ Aside0 (QG W wr B r ov s most a1 ov1 o1 er) ∧ Aside0 (wr.heap[q]? = some (.cells #[.slice A1 n1 y1, .slice A2 n2 y2] 50 (0, 0))) ∧ Aside0 (wr.heap[q + 1]? = some (.cells #[.slice A3 n3 y3, .slice A4 n4 y4] 50 (0, 0))) ∧ Aside0 ((packedT most lens (tableO dl) F out).run s a = runS er (packedT most lens (tableO dl) f o1) s a1)) (fun _ wr => posQ r s wr)
  case atStart => exact ⟨F, a, ov, out, 0, ⟨fun _ => HF.out⟩, HG0, HQ1, HQ2, HRUN0⟩
  case round =>
    clear HG0 HQ1 HQ2 HRUN0
    obtain ⟨f, a1, ov1, o1, er, HF1, HG1, HQ1, HQ2, HRUN⟩ := hrel
    have c4 := HG1.out.ix.c4
    by_cases he : er = 0
    · subst he
      have hf := HF1.out rfl
      have hle := HG1.out.ix.le
      obtain ⟨f, rfl⟩ : ∃ f', f = f' + 1 := ⟨f - 1, by omega⟩
      have hrun := HRUN.out
      rw [packed_step] at hrun
      have HPO : Aside0 (posQ r s wr = 8 * s.size + 1 - a1) := ⟨(posQ_is HG1.out.ix).trans (if_pos rfl)⟩
      have HSY := Aside0.mk (symbolQ_any HG1.out.ix (HCc.out.keepQ H.out HG1.out.fr) HO.out.1)
      have hk := sV_rng HO.out.2 s a1 0
      have hps : Aside0 (sE lens s a1 0 = 0 → a1 < sA lens s a1 0) := ⟨sA_pos hle⟩
      obtain ⟨k, hke⟩ : ∃ m : Nat, sV lens s a1 0 = m := ⟨(sV lens s a1 0).toNat, by omega⟩
      obtain ⟨a2, hae⟩ : ∃ m, sA lens s a1 0 = m := ⟨_, rfl⟩
      obtain ⟨e2, hee⟩ : ∃ m, sE lens s a1 0 = m := ⟨_, rfl⟩
      rw [hke] at hk
      rw [hae, hee] at hps
      rw [hke, hae, hee] at HSY hrun
      rw [Int.toNat_natCast] at hrun
      have hk288 : k < 288 := by have := HLN.out; omega
      have HK := Aside0.mk hk288
      have HR := Aside0.mk hrun
      have HFF := Aside0.mk hf
      have d0 := blk_cell HQ1.out 0
      have d1 := blk_cell HQ1.out 1
      clear hrun hke hae hee hk hf hle HRUN HF1
      go_wp2_with fail
      refine HSY.out.mono ?_
      rintro e w1 ⟨rfl, hx, hf⟩
      have HG2 := Aside0.mk (HG1.out.used hx hf (AtB.refl _ _))
      have HQ1' : Aside0 (w1.heap[q]? = some (.cells #[.slice A1 n1 y1, .slice A2 n2 y2] 50 (0, 0))) := ⟨hf.blk HQ1.out (HG1.out.ix.apart HQ1.out)⟩
      have HQ2' : Aside0 (w1.heap[q + 1]? = some (.cells #[.slice A3 n3 y3, .slice A4 n4 y4] 50 (0, 0))) := ⟨hf.blk HQ2.out (HG1.out.ix.apart HQ2.out)⟩
      have g0 := blk_cell HQ2'.out 0
      have g1 := blk_cell HQ2'.out 1
      clear hx hf HSY d0 d1 c4 HQ1 HQ2
      have c4 := HG2.out.ix.c4
      by_cases he2 : e2 = 0
      · subst he2
        have HPS := Aside0.mk (hps.out rfl)
        clear hps
        by_cases h256 : k = 256
        · subst h256
          have HR2 := Aside0.mk HR.out
          rw [if_pos (by rfl)] at HR2
          clear hk288 HR g0 g1
          go_wp2_with fail
          go_end0
          rw [HR2.out, runS_0]
          exact QG.ok (O := fun o : List Int => o) (v := o1) HG2.out rfl
        · have b1 : decide ((k : Int) = 256) = false := decide_eq_false (by omega)
          have b2 : ((k : Int) == 256) = false := by rw [beq_eq_false_iff_ne]; omega
          have b3 : decide (k = 256) = false := decide_eq_false h256
          have HR2 := Aside0.mk HR.out
          rw [if_neg (by omega)] at HR2
          by_cases hgt : 256 < k
          · rw [if_pos (by omega), runS_0, run_bind] at HR2
            have b4 : decide ((256 : Int) < (k : Int)) = true := decide_eq_true (by omega)
            have b5 : decide (256 < k) = true := decide_eq_true hgt
            have HCP := Aside0.mk (copiesQ HG2.out.ix (HCd.out.keepQ H.out HG2.out.fr) HOD.out.1 HOD.out.2 k hgt (by omega))
            clear h256 hgt hk288 HR
            go_wp2_with fail
            refine HCP.out.mono ?_
            cases hcp : (copiesT most o1 k (tableO dl)).run s a2 with
            | no er =>
              rintro e w2 ⟨rfl, hne, a', ov', out', hx, hf, hat⟩
              have HG3 := Aside0.mk (HG2.out.used hx hf hat)
              have HQ1c : Aside0 (w2.heap[q]? = some (.cells #[.slice A1 n1 y1, .slice A2 n2 y2] 50 (0, 0))) := ⟨hf.blk HQ1'.out (HG2.out.ix.apart HQ1'.out)⟩
              have HQ2c : Aside0 (w2.heap[q + 1]? = some (.cells #[.slice A3 n3 y3, .slice A4 n4 y4] 50 (0, 0))) := ⟨hf.blk HQ2'.out (HG2.out.ix.apart HQ2'.out)⟩
              have hr := HR2.out
              rw [hcp] at hr
              have HR3 : Aside0 ((packedT most lens (tableO dl) F out).run s a = runS er (packedT most lens (tableO dl) f out') s a') := ⟨by rw [hr, runS_no hne]⟩
              have HNE := Aside0.mk hne
              have HPO2 : Aside0 (posQ r s w2 = 0) := ⟨(posQ_is hx).trans (if_neg hne)⟩
              clear hr HR2 HCP hx hf hat hne hcp g0 g1 HQ1' HQ2' HG2
              go_wp2_with fail
              go_roundw
              case rel => exact ⟨f, a', ov', out', er, ⟨fun h => absurd h HNE.out⟩, HG3, HQ1c, HQ2c, HR3⟩
              case measure => rw [HPO.out, HPO2.out]; have := HG1.out.ix.le; omega
            | ok o2 a3 =>
              rintro e w2 ⟨rfl, ov', hx, hf, hat⟩
              have HG3 := Aside0.mk (HG2.out.used hx hf hat)
              have HQ1c : Aside0 (w2.heap[q]? = some (.cells #[.slice A1 n1 y1, .slice A2 n2 y2] 50 (0, 0))) := ⟨hf.blk HQ1'.out (HG2.out.ix.apart HQ1'.out)⟩
              have HQ2c : Aside0 (w2.heap[q + 1]? = some (.cells #[.slice A3 n3 y3, .slice A4 n4 y4] 50 (0, 0))) := ⟨hf.blk HQ2'.out (HG2.out.ix.apart HQ2'.out)⟩
              have hr := HR2.out
              rw [hcp] at hr
              have HR3 : Aside0 ((packedT most lens (tableO dl) F out).run s a = runS 0 (packedT most lens (tableO dl) f o2) s a3) := ⟨by rw [hr, runS_0]⟩
              have HPO2 : Aside0 (posQ r s w2 = 8 * s.size + 1 - a3) := ⟨(posQ_is hx).trans (if_pos rfl)⟩
              have HP3 := Aside0.mk (run_place s _ a2 _ a3 HG2.out.ix.le hcp)
              clear hr HR2 HCP hx hf hat hcp g0 g1 HQ1' HQ2' HG2
              go_wp2_with fail
              go_roundw
              case rel => exact ⟨f, a3, ov', o2, 0, ⟨fun _ => by have := HFF.out; have := HPS.out; have := HP3.out; omega⟩, HG3, HQ1c, HQ2c, HR3⟩
              case measure => rw [HPO.out, HPO2.out]; have := HG1.out.ix.le; have := HPS.out; have := HP3.out; omega
          · rw [if_neg (by omega)] at HR2
            have b4 : decide ((256 : Int) < (k : Int)) = false := decide_eq_false (by omega)
            have b5 : decide (256 < k) = false := decide_eq_false hgt
            have hkb : k < 256 := by omega
            have HKB := Aside0.mk hkb
            obtain ⟨oA, oc, hov⟩ := HG2.out.ix.slice
            subst hov
            have c2 := HG2.out.ix.c2
            have c3 := HG2.out.ix.c3
            have hol := HG2.out.ix.ol
            by_cases hmo : o1.length = most
            · have b6 : decide ((o1.length : Int) = (most : Int)) = true := decide_eq_true (by omega)
              have b7 : ((o1.length : Int) == (most : Int)) = true := by rw [beq_iff_eq]; omega
              have b8 : decide (o1.length = most) = true := decide_eq_true hmo
              have b9 : (o1.length == most) = true := by rw [beq_iff_eq]; exact hmo
              rw [if_pos (by omega)] at HR2
              have f4 := HG2.out.ix.fz 4
              clear h256 hgt hk288 HR hkb hmo hol
              go_upto_region 6 with (fail)
              go_quiet (fail)
              have HG3 := Aside0.mk (HG2.out.below (pw_below_drewN (Below.refl _ _) nq))
              have f4 := HG3.out.ix.fz 4
              have c4 := HG3.out.ix.c4
              go_wp2_with fail
              go_end0
              rw [HR2.out, runS_0]
              exact (HG3.out.setE 4).no (by decide) rfl
            · have b6 : decide ((o1.length : Int) = (most : Int)) = false := decide_eq_false (by omega)
              have b7 : ((o1.length : Int) == (most : Int)) = false := by rw [beq_eq_false_iff_ne]; omega
              have b8 : decide (o1.length = most) = false := decide_eq_false hmo
              have b9 : (o1.length == most) = false := by rw [beq_eq_false_iff_ne]; exact hmo
              rw [if_neg (by omega)] at HR2
              have HMO : Aside0 (o1.length + 1 ≤ most) := ⟨by omega⟩
              have hwc : IntKind.u8.wrap (k : Int) = (k : Int) := IntWalk.u8_in _ (by omega)
              clear h256 hgt hk288 HR hkb hmo hol
              go_upto_region 6 with (fail)
              go_quiet (fail)
              have HG3 := Aside0.mk (HG2.out.below (pw_below_drewN (Below.refl _ _) nq))
              have HQ1d := Aside0.mk (blk_below HQ1'.out (pw_below_drewN (Below.refl _ _) nq))
              have HQ2d := Aside0.mk (blk_below HQ2'.out (pw_below_drewN (Below.refl _ _) nq))
              clear g0 g1 HQ1' HQ2' HG2 c2 c3 c4
              generalize w1.drewN nq = w3 at HG3 HQ1d HQ2d ⊢
              have c3 := HG3.out.ix.c3
              have c3a : (w3.alloc (.cells #[.int .u8 (k : Int)] 5)).cell? ⟨r, 3, none⟩ = some (.slice oA o1.length oc) := (HG3.out.below (below_alloc (Below.refl _ _) _)).ix.c3
              go_wp2_with ((with_reducible refine gate_builtin (b := .append) (xs := #[.tmp 47, .tmp 50]) rfl ?_); at_builtin; go_must (refine Kd.R_append (Kd.int .u8) (w0 := w3) B rfl (.tmp 47) (.tmp 50) 28 5 (.int .u8 0) 1 rfl Try.underlying28 info5 (by decide) (by decide) (by decide) (.slice oA o1.length oc) o1 (k : Int) [.int .u8 (k : Int)] (fun _ => True) (fun _ => False) rfl rfl ?aP (fun _ hk => hk.elim) ?aF ?aO ?aB ?aS ?aL ?_); (case aP => exact rfl); (case aF => exact (fun _ _ => trivial)); (case aO => exact HG3.out.ix.ro); (case aB => exact Below.refl _ _); (case aS => exact HG3.out.ix.base); (case aL => have := HMO.out; have := HG3.out.ix.ml; omega); intro v1 w8 ho hb hg hat; have cw8 := (hg.block r HG3.out.ix.lt (fun e => HG3.out.ix.ne e.symm)).trans HG3.out.ix.bx; have c38 := (blk_cell cw8 3).trans (rfl : _ = some (Value.slice oA o1.length oc)); have f38 := blk_frozen cw8 3; have HGR := Aside0.mk (HG3.out.grow ho hg hat (by rw [List.length_append]; exact HMO.out)); have HFG := Aside0.mk (HG3.out.ix.grow ho hg hat (by rw [List.length_append]; exact HMO.out)); obtain ⟨A9, c9, e9⟩ := Kd.R_slice ho; subst e9; rw [List.length_append, List.length_singleton] at HGR HFG; clear ho hb hg hat cw8)
              have HPO2 := Aside0.mk ((posQ_is HGR.out.ix).trans (if_pos rfl))
              have HQ1e := Aside0.mk (HFG.out.2.1.blk HQ1d.out (HG3.out.ix.apart HQ1d.out))
              have HQ2e := Aside0.mk (HFG.out.2.1.blk HQ2d.out (HG3.out.ix.apart HQ2d.out))
              go_roundw
              case rel => exact ⟨f, a2, _, _, 0, ⟨fun _ => by have := HFF.out; have := HPS.out; omega⟩, HGR, HQ1e, HQ2e, ⟨by rw [HR2.out]⟩⟩
              case measure => rw [HPO.out, HPO2.out]; have := HG1.out.ix.le; have := HPS.out; omega
      · have b1 : (e2 == 0) = false := by rw [beq_eq_false_iff_ne]; exact he2
        have b2 : decide (e2 = 0) = false := decide_eq_false he2
        have HE := Aside0.mk he2
        have HR2 := Aside0.mk HR.out
        rw [runS_no he2] at HR2
        clear he2 hk288 HR g0 g1
        go_wp2_with fail
        go_end0
        rw [HR2.out]
        exact HG2.out.no HE.out rfl
    · have b1 : (er == 0) = false := by rw [beq_eq_false_iff_ne]; exact he
      have b2 : decide (er = 0) = false := decide_eq_false he
      have HE := Aside0.mk he
      clear he
      go_wp2_with fail
      go_end0
      rw [HRUN.out, runS_no HE.out]
      exact HG1.out.no HE.out rfl
end Go.Proofs.Ytaghmhcccighgaa.HI
end
section
/- The document's fixed: walked. -/
namespace Go.Proofs.Ytaghmhcccighgaa.HI
open Go.RowKit Go.Proofs.YtaghmhcccighgaaW.PrintWords Go.Proofs.YtaghmhcccighgaaW.PrintLast Go.Proofs.YtaghmhcccighgaaW.PrintMore Go.Proofs.Ytaghmhcccighgaa.HW Go.Proofs.Ytaghmhcccighgaa.MB Go.Proofs.Ytaghmhcccighgaa.Fn Go.Proofs.Ytaghmhcccighgaa.HF Go.Proofs.Ytaghmhcccighgaa.RT Go.Proofs.Ytaghmhcccighgaa.RT.Rd Go.Proofs.Ytaghmhcccighgaa.HP
attribute [local go_sem] max2_int min2_int max_two min_two max_three min_three max_four min_four   -- for this text's walks alone
/-- Two codes are stored. -/
theorem stored2 {w : World} {q : Nat} {x0 x1 y0 y1 : Value} (a b c d : Value) (h1 : w.heap[q]? = some (.cells #[x0, x1] 50 (0, 0))) (h2 : w.heap[q + 1]? = some (.cells #[y0, y1] 50 (0, 0))) :
    ((((w.setCell ⟨q, 0, none⟩ a).setCell ⟨q, 1, none⟩ b).setCell ⟨q + 1, 0, none⟩ c).setCell ⟨q + 1, 1, none⟩ d).heap[q]? = some (.cells #[a, b] 50 (0, 0)) ∧
    ((((w.setCell ⟨q, 0, none⟩ a).setCell ⟨q, 1, none⟩ b).setCell ⟨q + 1, 0, none⟩ c).setCell ⟨q + 1, 1, none⟩ d).heap[q + 1]? = some (.cells #[c, d] 50 (0, 0)) ∧
    Fr (fun k => k = q ∨ k = q + 1) w ((((w.setCell ⟨q, 0, none⟩ a).setCell ⟨q, 1, none⟩ b).setCell ⟨q + 1, 0, none⟩ c).setCell ⟨q + 1, 1, none⟩ d) := by
  have n1 : q ≠ q + 1 := by omega
  refine ⟨?_, ?_, ?_⟩
  · have := blk_set (blk_set h1 0 a) 1 b
    exact blk_far (blk_far this (p := ⟨q + 1, 0, none⟩) n1 c) (p := ⟨q + 1, 1, none⟩) n1 d
  · have := blk_far (blk_far h2 (p := ⟨q, 0, none⟩) n1.symm a) (p := ⟨q, 1, none⟩) n1.symm b
    exact blk_set (blk_set this 0 c) 1 d
  · exact (((((Fr.refl (fun k => k = q ∨ k = q + 1) w).setCell (p := ⟨q, 0, none⟩) (Or.inl (Or.inl rfl)) a).setCell (p := ⟨q, 1, none⟩) (Or.inl (Or.inl rfl)) b).setCell (p := ⟨q + 1, 0, none⟩) (Or.inl (Or.inr rfl)) c).setCell (p := ⟨q + 1, 1, none⟩) (Or.inl (Or.inr rfl)) d)
theorem times_b (v : Value) (l : List Int) (x : Int) (n B : Nat) (W : World) (h : Kd.R (Kd.int .i64) 3 W B (fun _ => True) v l) (hB : B ≤ W.heap.size) (hl : l.length + n ≤ 1000) :
    Calls Try.prog 38 #[v, .int .i64 x, .int .i64 n] W fun e w' => ∃ v', e = .returned v' ∧ Kd.R (Kd.int .i64) 3 w' B (fun _ => True) v' (l ++ List.replicate n x) ∧ Below B W w' :=
  (times_ok v l x n B W h hB hl).mono (fun _ _ ⟨v', h1, h2, h3, _⟩ => ⟨v', h1, h2, h3.below hB (fun k hk => Kd.R_base h k hk)⟩)
/-- Two codes behind a store. -/
theorem codes_stored {w W' : World} {q : Nat} {x0 x1 y0 y1 : Value} (h1 : w.heap[q]? = some (.cells #[x0, x1] 50 (0, 0))) (h2 : w.heap[q + 1]? = some (.cells #[y0, y1] 50 (0, 0))) (hf : Fr (fun k => k = q ∨ k = q + 1) w W') {c : Value} {l : List Int} (hc : CodeIs w w.heap.size c l) : CodeIs W' W'.heap.size c l :=
  (hc.keep hf (fun k cells _ hk e => by
    rcases e with rfl | rfl
    · rw [h1] at hk
      injection hk with hk
      injection hk with _ hk
      exact absurd hk (by decide)
    · rw [h2] at hk
      injection hk with hk
      injection hk with _ hk
      exact absurd hk (by decide))).mono hf.size
set_option maxRecDepth 100000 in
set_option maxHeartbeats 4000000 in
theorem fixedQ (W : World) : Calls Try.prog 26 #[] W fun e w' => ∃ c d, e = .returned (.tuple #[c, d]) ∧ CodeIs w' w'.heap.size c fixL ∧ CodeIs w' w'.heap.size d fixD ∧ Below W.heap.size W w' := by
  obtain ⟨q, hq⟩ : ∃ z, W.heap.size = z := ⟨_, rfl⟩
  have hs1 := alloc_size W (.cells #[.slice none 0 0, .slice none 0 0] 50)
  have hs2 := alloc_size (W.alloc (.cells #[.slice none 0 0, .slice none 0 0] 50)) (.cells #[.slice none 0 0, .slice none 0 0] 50)
  have hb1 := below_alloc (Below.refl W.heap.size W) (.cells #[.slice none 0 0, .slice none 0 0] 50)
  have hb2 := below_alloc (Below.refl (W.alloc (.cells #[.slice none 0 0, .slice none 0 0] 50)).heap.size (W.alloc (.cells #[.slice none 0 0, .slice none 0 0] 50))) (.cells #[.slice none 0 0, .slice none 0 0] 50)
  have HB := Aside0.mk (hb1.trans (hb2.mono hb1.size))
  have hq1 : (W.alloc (.cells #[.slice none 0 0, .slice none 0 0] 50)).heap[q]? = some (.cells #[.slice none 0 0, .slice none 0 0] 50 (0, 0)) := by rw [← hq]; exact heap_alloc_new _ _
  have HQ1 := Aside0.mk (blk_below hq1 hb2)
  have hq2 : ((W.alloc (.cells #[.slice none 0 0, .slice none 0 0] 50)).alloc (.cells #[.slice none 0 0, .slice none 0 0] 50)).heap[q + 1]? = some (.cells #[.slice none 0 0, .slice none 0 0] 50 (0, 0)) := by rw [← hq, ← hs1]; exact heap_alloc_new _ _
  have HQ2 := Aside0.mk hq2
  have HS : Aside0 (((W.alloc (.cells #[.slice none 0 0, .slice none 0 0] 50)).alloc (.cells #[.slice none 0 0, .slice none 0 0] 50)).heap.size = q + 2) := ⟨by rw [hs2, hs1, hq]⟩
  have hs1 : (W.alloc (.cells #[.slice none 0 0, .slice none 0 0] 50)).heap.size = q + 1 := by rw [hs1, hq]
  clear hs2 hb1 hb2 hq1 hq2
  go_enter Try.func26, Try.ntmps26
  go_upto_region 2 with (fail)
  generalize (W.alloc (.cells #[.slice none 0 0, .slice none 0 0] 50)).alloc (.cells #[.slice none 0 0, .slice none 0 0] 50) = W1 at HB HQ1 HQ2 HS ⊢
  have HC1 := Aside0.mk (times_b (.slice none 0 0) [] 8 144 (q + 2) W1 (Kd.R_nil _ _ _ _ _) (by rw [HS.out]; exact Nat.le_refl _) (by decide))
  go_wp2_with fail
  refine HC1.out.mono ?_
  rintro e w1 ⟨v1, rfl, hr, hb⟩
  have HR1 := Aside0.mk hr
  have HB1 := Aside0.mk hb
  have HC2 := Aside0.mk (times_b v1 _ 9 112 (q + 2) w1 hr (by rw [← HS.out]; exact hb.size) (by decide +kernel))
  clear hr hb HC1
  go_wp2_with fail
  refine HC2.out.mono ?_
  rintro e w2 ⟨v2, rfl, hr, hb⟩
  have HB2 := Aside0.mk (HB1.out.trans hb)
  have HC3 := Aside0.mk (times_b v2 _ 7 24 (q + 2) w2 hr (by rw [← HS.out]; exact HB2.out.size) (by decide +kernel))
  clear hr hb HC2 HR1 HB1
  go_wp2_with fail
  refine HC3.out.mono ?_
  rintro e w3 ⟨v3, rfl, hr, hb⟩
  have HB3 := Aside0.mk (HB2.out.trans hb)
  have HC4 := Aside0.mk (times_b v3 _ 8 8 (q + 2) w3 hr (by rw [← HS.out]; exact HB3.out.size) (by decide +kernel))
  clear hr hb HC3 HB2
  go_wp2_with fail
  refine HC4.out.mono ?_
  rintro e w4 ⟨v4, rfl, hr, hb⟩
  have HB4 := Aside0.mk (HB3.out.trans hb)
  have hfx : ([] ++ List.replicate 144 (8 : Int) ++ List.replicate 112 9 ++ List.replicate 24 7 ++ List.replicate 8 8 : List Int) = fixL := by decide +kernel
  rw [hfx] at hr
  have HC5 := Aside0.mk (made_ok v4 fixL _ w4 (RowIn.of_R hr (by decide +kernel)) (Nat.le_refl _) (by decide +kernel))
  clear hr hb HC4 HB3 hfx
  go_wp2_with fail
  refine HC5.out.mono ?_
  rintro e w5 ⟨⟨A2, n2, c2, rfl, hc⟩, hb⟩
  have HD5 := Aside0.mk (hc fixL_ok)
  have HB5 := Aside0.mk (HB4.out.trans (hb.mono (by rw [← HS.out]; exact HB4.out.size)))
  have HC6 := Aside0.mk (times_b (.slice none 0 0) [] 5 32 w5.heap.size w5 (Kd.R_nil _ _ _ _ _) (Nat.le_refl _) (by decide))
  clear hc hb HC5 HB4
  go_wp2_with fail
  refine HC6.out.mono ?_
  rintro e w6 ⟨v6, rfl, hr, hb⟩
  have hfx : ([] ++ List.replicate 32 (5 : Int) : List Int) = fixD := rfl
  rw [hfx] at hr
  have HD6 := Aside0.mk (HD5.out.below hb)
  have HSZ := Aside0.mk hb.size
  have HB6 := Aside0.mk (HB5.out.trans (hb.mono (by rw [← HS.out]; exact HB5.out.size)))
  have HC7 := Aside0.mk (made_ok v6 fixD _ w6 (RowIn.of_R hr (by decide +kernel)) (Nat.le_refl _) (by decide +kernel))
  clear hr hb HC6 HB5 HD5 hfx
  go_wp2_with fail
  refine HC7.out.mono ?_
  rintro e w7 ⟨⟨A3, n3, c3, rfl, hc⟩, hb⟩
  have HE7 := Aside0.mk (hc fixD_ok)
  have HD7 := Aside0.mk ((HD6.out.below hb).mono (Nat.le_trans HSZ.out hb.size))
  have HB7 := Aside0.mk (HB6.out.trans (hb.mono (by rw [← HS.out]; exact HB6.out.size)))
  have HP1 := Aside0.mk ((HB7.out.block q (by omega)).trans HQ1.out)
  have HP2 := Aside0.mk ((HB7.out.block (q + 1) (by omega)).trans HQ2.out)
  obtain ⟨B1, k1, l1, B2, k2, l2, h4⟩ := HD7.out.agg
  injection h4 with h4
  obtain ⟨rfl, rfl, rfl, rfl⟩ : v4 = .slice B1 k1 l1 ∧ A2 = B2 ∧ n2 = k2 ∧ c2 = l2 := by simpa using h4
  clear h4
  obtain ⟨B3, k3, l3, B4, k4, l4, h6⟩ := HE7.out.agg
  injection h6 with h6
  obtain ⟨rfl, rfl, rfl, rfl⟩ : v6 = .slice B3 k3 l3 ∧ A3 = B4 ∧ n3 = k4 ∧ c3 = l4 := by simpa using h6
  clear h6
  have c0 := blk_cell HP1.out 0
  have c1 := blk_cell HP1.out 1
  have f0 := blk_frozen HP1.out 0
  have f1 := blk_frozen HP1.out 1
  have d0 := blk_cell HP2.out 0
  have d1 := blk_cell HP2.out 1
  have g0 := blk_frozen HP2.out 0
  have g1 := blk_frozen HP2.out 1
  clear hc hb HC7 HB6 HD6 HSZ
  go_wp2_with fail
  obtain ⟨p1, p2, p3⟩ := stored2 (.slice B1 k1 l1) (.slice A2 n2 c2) (.slice B3 k3 l3) (.slice A3 n3 c3) HP1.out HP2.out
  refine bodyPost_ret (results_cc rfl _ _ q (q + 1) 50 50 #[.slice B1 k1 l1, .slice A2 n2 c2] #[.slice B3 k3 l3, .slice A3 n3 c3] (0, 0) (0, 0) _ _ rfl p1 Try.underlying50 rfl (by kernel_rfl) rfl p2 Try.underlying50 rfl (by kernel_rfl)) rfl ?_
  have hB7 : Below W.heap.size W w7 := HB.out.trans (HB7.out.mono (by omega))
  exact ⟨_, _, rfl, codes_stored HP1.out HP2.out p3 HD7.out, codes_stored HP1.out HP2.out p3 HE7.out, hB7.trans (p3.below hB7.size (fun k hk => by omega))⟩
end Go.Proofs.Ytaghmhcccighgaa.HI
end
section
/- The document's dynamic: what is kept while it is walked. -/
namespace Go.Proofs.Ytaghmhcccighgaa.HI
open Go.RowKit Go.Proofs.YtaghmhcccighgaaW.PrintWords Go.Proofs.YtaghmhcccighgaaW.PrintLast Go.Proofs.YtaghmhcccighgaaW.PrintMore Go.Proofs.Ytaghmhcccighgaa.HW Go.Proofs.Ytaghmhcccighgaa.MB Go.Proofs.Ytaghmhcccighgaa.Fn Go.Proofs.Ytaghmhcccighgaa.HF Go.Proofs.Ytaghmhcccighgaa.RT Go.Proofs.Ytaghmhcccighgaa.RT.Rd Go.Proofs.Ytaghmhcccighgaa.HP
/-- No codes, stored. -/
def NilB (w : World) (q : Nat) : Prop := w.heap[q]? = some (.cells #[.slice none 0 0, .slice none 0 0] 50 (0, 0))
/-- A reading under way, beside two codes to come. -/
structure DG (W w : World) (B r : Nat) (ov : Value) (s : ByteArray) (most : Nat) (out : List Int) (a : Nat) (er : Int) (q : Nat) : Prop where
  g : QG W w B r ov s most a ov out er
  b1 : NilB w q
  b2 : NilB w (q + 1)
section
variable {W w w' : World} {B r : Nat} {ov : Value} {s : ByteArray} {most : Nat} {out : List Int} {a a' : Nat} {er er' : Int} {q : Nat}
theorem IsQ.apartR {B1 : Nat} {v : Value} {l : List Int} (hx : IsQ w B r ov s a most out er) (h : Kd.R (Kd.int .i64) 3 w B1 (fun _ => True) v l) (k : Nat) (hk : v.ownBlock = some k) : ¬ QS r ov k := by
  obtain ⟨inner, ho⟩ := Kd.R_own h
  obtain ⟨cells, hc⟩ := own_typed ho k hk
  exact hx.apartB hc
theorem DG.used (h : DG W w B r ov s most out a er q) (hx : IsQ w' B r ov s a' most out er') (hf : Fr (QS r ov) w w') : DG W w' B r ov s most out a' er' q :=
  ⟨h.g.used hx hf (AtB.refl _ _), hf.blk h.b1 (h.g.ix.apart h.b1), hf.blk h.b2 (h.g.ix.apart h.b2)⟩
theorem DG.below (h : DG W w B r ov s most out a er q) (hb : Below w.heap.size w w') : DG W w' B r ov s most out a er q :=
  ⟨h.g.below hb, blk_below h.b1 hb, blk_below h.b2 hb⟩
theorem DG.rowF {N : Nat} {v : Value} {l : List Int} (h : DG W w B r ov s most out a er q) (hN : W.heap.size ≤ N) (ho : Kd.R (Kd.int .i64) 3 w N (fun _ => True) v l) (hf : Fr (fun k => v.ownBlock = some k) w w') : DG W w' B r ov s most out a er q :=
  ⟨⟨h.g.ix.keep hf (fun k hk e => h.g.ix.apartR ho k e hk), h.g.fr.then_ hf (fun k hk => Or.inr (Nat.le_trans hN (Kd.R_base ho k hk))), h.g.atb⟩,
    hf.blk h.b1 (fun e => Kd.R_ne ho h.b1 (by decide) e.symm), hf.blk h.b2 (fun e => Kd.R_ne ho h.b2 (by decide) e.symm)⟩
end
/-- While the lengths' lengths are read. -/
structure FG (W w : World) (B r : Nat) (ov : Value) (s : ByteArray) (most : Nat) (out : List Int) (a : Nat) (er : Int) (q g7 c7 g3 : Nat) (l : List Int) : Prop where
  d : DG W w B r ov s most out a er q
  r7 : Kd.R (Kd.int .i64) 3 w W.heap.size (fun _ => True) (.slice (some ⟨g7, 0, none⟩) 19 c7) l
  b3 : w.heap[g3]? = some (.cells (ordI.map (fun y => Value.int .i64 y)).toArray 3 (0, 0))
  ne : g7 ≠ g3
section
variable {W w w' : World} {B r : Nat} {ov : Value} {s : ByteArray} {most : Nat} {out : List Int} {a a' : Nat} {er er' : Int} {q g7 c7 g3 : Nat} {l : List Int}
theorem FG.used (h : FG W w B r ov s most out a er q g7 c7 g3 l) (hx : IsQ w' B r ov s a' most out er') (hf : Fr (QS r ov) w w') : FG W w' B r ov s most out a' er' q g7 c7 g3 l :=
  ⟨h.d.used hx hf, row_keep h.r7 (fun k e hk => hf.block k hk (h.d.g.ix.apartR h.r7 k e)), hf.blk h.b3 (h.d.g.ix.apartB h.b3), h.ne⟩
theorem FG.below (h : FG W w B r ov s most out a er q g7 c7 g3 l) (hb : Below w.heap.size w w') : FG W w' B r ov s most out a er q g7 c7 g3 l :=
  ⟨h.d.below hb, Kd.R_below h.r7 hb, blk_below h.b3 hb, h.ne⟩
theorem FG.put (h : FG W w B r ov s most out a er q g7 c7 g3 l) (i : Nat) (y : Int) : FG W (w.setCell ⟨g7, i, none⟩ (.int .i64 y)) B r ov s most out a er q g7 c7 g3 (l.set i y) := by
  have h2 := Kd.R_putg h.r7 (i : Int) y
  simp only [Int.toNat_natCast] at h2
  exact ⟨h.d.rowF (Nat.le_refl _) h.r7 ((Fr.refl _ w).grown h2.2 (fun k hk => Or.inl hk)), h2.1, (Below.heap_setCell _ _ _ _ (fun e => h.ne e.symm)).trans h.b3, h.ne⟩
end
/-- While the lengths are read. -/
structure LG (W w : World) (B r : Nat) (ov : Value) (s : ByteArray) (most : Nat) (out : List Int) (a : Nat) (er : Int) (q N p : Nat) (A1 : Option Addr) (n1 y1 : Nat) (A2 : Option Addr) (n2 y2 : Nat) (first : List Int) (v : Value) (l : List Int) : Prop where
  d : DG W w B r ov s most out a er q
  hN : W.heap.size ≤ N
  cd : okL first = true → CodeIs w N (.agg #[.slice A1 n1 y1, .slice A2 n2 y2]) first
  bc : w.heap[p]? = some (.cells #[.slice A1 n1 y1, .slice A2 n2 y2] 50 (0, 0))
  ro : Kd.R (Kd.int .i64) 3 w N (fun _ => True) v l
section
variable {W w w' : World} {B r : Nat} {ov : Value} {s : ByteArray} {most : Nat} {out : List Int} {a a' : Nat} {er er' : Int} {q N p : Nat} {A1 : Option Addr} {n1 y1 : Nat} {A2 : Option Addr} {n2 y2 : Nat} {first : List Int} {v v' : Value} {l l' : List Int}
theorem LG.used (h : LG W w B r ov s most out a er q N p A1 n1 y1 A2 n2 y2 first v l) (hx : IsQ w' B r ov s a' most out er') (hf : Fr (QS r ov) w w') : LG W w' B r ov s most out a' er' q N p A1 n1 y1 A2 n2 y2 first v l :=
  ⟨h.d.used hx hf, h.hN, fun ho => (h.cd ho).keepQ h.d.g.ix hf, hf.blk h.bc (h.d.g.ix.apart h.bc), row_keep h.ro (fun k e hk => hf.block k hk (h.d.g.ix.apartR h.ro k e))⟩
theorem LG.below (h : LG W w B r ov s most out a er q N p A1 n1 y1 A2 n2 y2 first v l) (hb : Below w.heap.size w w') : LG W w' B r ov s most out a er q N p A1 n1 y1 A2 n2 y2 first v l :=
  ⟨h.d.below hb, h.hN, fun ho => (h.cd ho).below hb, blk_below h.bc hb, Kd.R_below h.ro hb⟩
theorem LG.rowF (h : LG W w B r ov s most out a er q N p A1 n1 y1 A2 n2 y2 first v l) (ho : Kd.R (Kd.int .i64) 3 w' N (fun _ => True) v' l') (hf : Fr (fun k => v.ownBlock = some k) w w') : LG W w' B r ov s most out a er q N p A1 n1 y1 A2 n2 y2 first v' l' :=
  ⟨h.d.rowF h.hN h.ro hf, h.hN, fun ho' => (h.cd ho').keep hf (fun k cells hk _ e => by have := Kd.R_base h.ro k e; omega), hf.blk h.bc (fun e => Kd.R_ne h.ro h.bc (by decide) e.symm), ho⟩
end
theorem sV_no {l : List Int} {s : ByteArray} {a : Nat} (h : sE l s a 0 ≠ 0) : sV l s a 0 = 0 := by
  unfold sV
  rw [if_neg]
  rintro ⟨_, h0⟩
  apply h
  unfold sE
  rw [if_pos rfl, if_neg (by rw [h0]; decide), h0]
/-- Does a reader go on? -/
def goQ (r : Nat) (w : World) : Nat :=
  match w.heap[r]? with
  | some (.cells cs _ _) => if intOf (cs.getD 4 undef) = 0 then 1 else 0
  | _ => 0
theorem goQ_is {w : World} {B r : Nat} {ov : Value} {s : ByteArray} {a most : Nat} {out : List Int} {er : Int} (h : IsQ w B r ov s a most out er) : goQ r w = if er = 0 then 1 else 0 := by
  unfold goQ
  rw [h.bx]
  rfl
theorem goQ_le (r : Nat) (w : World) : goQ r w ≤ 1 := by
  unfold goQ
  split
  · split <;> omega
  · omega
theorem runS_err {α β : Type} (er : Int) (f : α → Rd β) (s : ByteArray) (a : Nat) : runS er ((err 40 : Rd α).bind f) s a = .no (enE er) := by
  unfold runS enE
  by_cases he : er = 0 <;> simp [he, run, Rd.bind]
theorem DG.fin {W w w' : World} {B r : Nat} {ov : Value} {s : ByteArray} {most : Nat} {out : List Int} {a : Nat} {er : Int} {q : Nat} (h : DG W w B r ov s most out a er q) (hq : W.heap.size ≤ q) (hf : Fr (fun k => k = q ∨ k = q + 1) w w') : QG W w' B r ov s most a ov out er :=
  ⟨h.g.ix.keep hf (fun k hk e => by
    rcases e with rfl | rfl
    · exact h.g.ix.apart h.b1 hk
    · exact h.g.ix.apart h.b2 hk), h.g.fr.then_ hf (fun k hk => Or.inr (by omega)), h.g.atb⟩
/-- A part of a row of numbers. -/
theorem RowIn.part {w : World} {B gA cA off m : Nat} {ls l : List Int} (h : Kd.R (Kd.int .i64) 3 w B (fun _ => True) (.slice (some ⟨gA, 0, none⟩) m cA) ls) (h0 : 0 < ls.length) (hC : Kd.C (Kd.int .i64) w (some ⟨gA, off, none⟩) l.length l) (c : Nat) (hc : l.length ≤ c) : RowIn w w.heap.size (.slice (some ⟨gA, off, none⟩) l.length c) l := by
  obtain ⟨g, cap, hv, h1, h2, cells, hcl⟩ := Kd.R_form h h0
  injection hv with hv _ _
  injection hv with hv
  injection hv with hv
  subst hv
  exact ⟨gA, off, c, cells, rfl, hc, h2, hcl, hC⟩
/-- What dynamic tells. -/
def DQR (B r : Nat) (ov : Value) (s : ByteArray) (most : Nat) (out : List Int) (W : World) (res : Res (List Int × List Int)) (e : Ending) (w' : World) : Prop :=
  match res with
  | .ok p a => ∃ c d, e = .returned (.tuple #[c, d]) ∧ CodeIs w' w'.heap.size c p.1 ∧ CodeIs w' w'.heap.size d p.2 ∧ (okL p.1 = true ∧ 0 < p.1.length ∧ okL p.2 = true ∧ 0 < p.2.length) ∧ QG W w' B r ov s most a ov out 0
  | .no er => er ≠ 0 ∧ e = .returned (.tuple #[.agg #[.slice none 0 0, .slice none 0 0], .agg #[.slice none 0 0, .slice none 0 0]]) ∧ ∃ a, QG W w' B r ov s most a ov out er
/-- The parts of a block's head. -/
def dynC (p _q : Nat) (all : List Int) : Rd (List Int × List Int) :=
  if 0 < (all.take (257 + p)).getD 256 0 ∧ isWhole (all.take (257 + p)) = true ∧ (isWhole (all.drop (257 + p)) = true ∨ (all.drop (257 + p)).sum ≤ 1) then ret (all.take (257 + p), all.drop (257 + p)) else err 40
def dynF (p q : Nat) (first : List Int) : Rd (List Int × List Int) :=
  if isWhole first = true then (lengthsT first (257 + p + (1 + q)) (257 + p + (1 + q)) []).bind (dynC p q) else err 40
theorem dynT_eq : dynamicT = (bitsN 5).bind fun p => (bitsN 5).bind fun q => (bitsN 4).bind fun c => if 257 + p ≤ 286 ∧ 1 + q ≤ 30 then (firstT (orderL.take (4 + c)) (List.replicate 19 0)).bind (dynF p q) else err 40 := rfl
end Go.Proofs.Ytaghmhcccighgaa.HI
end
