/- InflateSays: walked. -/
import Derived.Test.YteffjbjhkaobfaaHPutI
import Derived.Test.YteffjbjhkaobfaaHShSym
namespace Go.Proofs.Yteffjbjhkaobfaa.IW
open Go.RowKit Go.Proofs.YteffjbjhkaobfaaW.PrintWords Go.Proofs.YteffjbjhkaobfaaW.PrintLast Go.Proofs.YteffjbjhkaobfaaW.PrintMore Go.Proofs.Yteffjbjhkaobfaa.HW Go.Proofs.Yteffjbjhkaobfaa.MB Go.Proofs.Yteffjbjhkaobfaa.Fn Go.Proofs.Yteffjbjhkaobfaa.HF Go.Proofs.Yteffjbjhkaobfaa.RT Go.Proofs.Yteffjbjhkaobfaa.RT.Rd Go.Proofs.Yteffjbjhkaobfaa.HP Go.Proofs.Yteffjbjhkaobfaa.HI
attribute [local go_sem] max2_int min2_int max_two min_two max_three min_three max_four min_four   -- for this text's walks alone
theorem fix_parts : ∀ i : Nat, i < 288 → fixL.getD i 0 = (if i < 144 then 8 else if i < 256 then 9 else if i < 280 then 7 else 8) := by decide +kernel
theorem fix_take (i : Nat) (h : i < 288) : fixL.take (i + 1) = fixL.take i ++ [fixL.getD i 0] := by
  rw [List.take_add_one, List.getD_eq_getElem?_getD, List.getElem?_eq_getElem (by rw [fixL_len]; exact h)]
  rfl
theorem and_anyI (n : Int) (m : Nat) (hm : m < 2 ^ 63) : ∃ k : Nat, Go.bits .and .i64 n m = k ∧ k ≤ m := by
  refine ⟨(BitVec.ofInt 64 n).toNat &&& m, ?_, Nat.and_le_right⟩
  have hle : (BitVec.ofInt 64 n).toNat &&& m ≤ m := Nat.and_le_right
  have e1 : (BitVec.ofInt 64 n &&& BitVec.ofInt 64 (m : Int)).toNat = (BitVec.ofInt 64 n).toNat &&& m := by
    rw [BitVec.toNat_and, BitVec.ofInt_natCast, BitVec.toNat_ofNat, Nat.mod_eq_of_lt (by omega)]
  show IntKind.i64.wrap ((BitVec.ofInt 64 n &&& BitVec.ofInt 64 (m : Int)).toNat : Int) = _
  rw [e1]
  exact IntWalk.i64_in _ (by omega)
/-- The lengths so far. -/
structure LenS (W wr : World) (v : Value) (i : Nat) : Prop where
  ro : Kd.R (Kd.int .i64) 3 wr W.heap.size (fun _ => True) v (fixL.take i)
  be : Below W.heap.size W wr
/-- What was written, what is wanted. -/
structure SyS (W w0 wr : World) (vo vw : Value) (B : List Bool) (w : List Int) : Prop where
  ro : Kd.R (Kd.int .i64) 3 wr w0.heap.size (fun _ => True) vo (ib B)
  rw : Kd.R (Kd.int .u8) 5 wr w0.heap.size (fun _ => True) vw w
  be : Below w0.heap.size w0 wr
section
variable {W w0 wr w' : World} {vo vw v' : Value} {B B' : List Bool} {w u : List Int}
theorem SyS.below (h : SyS W w0 wr vo vw B w) (hb : Below wr.heap.size wr w') : SyS W w0 w' vo vw B w := ⟨Kd.R_below h.ro hb, Kd.R_below h.rw hb, h.be.trans (hb.mono h.be.size)⟩
theorem SyS.put (h : SyS W w0 wr vo vw B w) (ho : Kd.R (Kd.int .i64) 3 w' w0.heap.size (fun _ => True) v' (ib B')) (hf : Fr (fun k => vo.ownBlock = some k) wr w') : SyS W w0 w' v' vw B' w :=
  ⟨ho, rowB_keep h.rw (fun k e hk => hf.block k hk (fun e2 => by
    obtain ⟨inner, hi⟩ := Kd.R_own h.ro
    obtain ⟨cells, hc⟩ := own_typed hi k e2
    exact Kd.R_ne h.rw hc (by decide) e.symm)), h.be.trans (hf.below h.be.size (fun k hk => Kd.R_base h.ro k hk))⟩
theorem SyS.want (h : SyS W w0 wr vo vw B w) (ho : Kd.R (Kd.int .u8) 5 w' w0.heap.size (fun _ => True) v' u) (hf : Fr (fun k => vw.ownBlock = some k) wr w') : SyS W w0 w' vo v' B u :=
  ⟨row_keep h.ro (fun k e hk => hf.block k hk (fun e2 => by
    obtain ⟨inner, hi⟩ := Kd.R_own h.rw
    obtain ⟨cells, hc⟩ := own_typed hi k e2
    exact Kd.R_ne h.ro hc (by decide) e.symm)), ho, h.be.trans (hf.below h.be.size (fun k hk => Kd.R_base h.rw k hk))⟩
end
theorem Fr_grown {wr w' : World} {v : Value} (hg : wr.grownBy w' v.ownBlock) : Fr (fun k => v.ownBlock = some k) wr w' := (Fr.refl _ wr).grown hg (fun _ hk => Or.inl hk)
def SayQ (B : List Bool) (w : List Int) (st : Nat) : Prop := SayI B w st ∧ (∃ B', B = headB ++ B') ∧ st ≤ w.length ∧ B.length ≤ 3 + 60 * st ∧ w.length ≤ 4400
theorem SayQ.lit {B : List Bool} {w : List Int} {st k : Nat} (h : SayQ B w st) (hk : k ≤ 255) (hw : w.length < 4096) : SayQ (B ++ symB k) (w ++ [(k : Int)]) (st + 1) := by
  obtain ⟨h1, ⟨B', h2⟩, h3, h4, h5⟩ := h
  have ht := (fix_tab k (by omega)).1
  refine ⟨h1.lit (by omega) (by omega), ⟨B' ++ symB k, by rw [h2, List.append_assoc]⟩, ?_, ?_, ?_⟩
  · rw [List.length_append, List.length_singleton]; omega
  · rw [List.length_append, symB_len]; omega
  · rw [List.length_append, List.length_singleton]; omega
theorem SayQ.len {B : List Bool} {w : List Int} {st : Nat} (h : SayQ B w st) : B.length ≤ 270000 := by
  obtain ⟨_, _, h3, h4, h5⟩ := h
  omega
theorem SayQ.copy {B : List Bool} {w : List Int} {st k x b j y c n far : Nat} (h : SayQ B w st) (hw : w.length < 4096) (hk : 257 ≤ k ∧ k ≤ 285) (hx : x < 2 ^ b) (hb : (lenB k).2 = b) (hn : (lenB k).1 + x = n) (hj : j < 30) (hy : y < 2 ^ c) (hc : (distB j).2 = c) (hf : (distB j).1 + y = far) (hfw : far ≤ w.length) (hn2 : 1 ≤ n ∧ n ≤ 258) (hb13 : b ≤ 13) (hc13 : c ≤ 13) :
    SayQ (B ++ symB k ++ bitsOf x b ++ wordB j 5 ++ bitsOf y c) (copyN far n w) (st + 1) := by
  obtain ⟨h1, ⟨B', h2⟩, h3, h4, h5⟩ := h
  have ht := (fix_tab k (by omega)).1
  have hl := copyN_len far n w
  refine ⟨h1.copy hk hx hb hn hj hy hc hf hfw (by omega), ⟨B' ++ (symB k ++ (bitsOf x b ++ (wordB j 5 ++ bitsOf y c))), by rw [h2]; simp only [List.append_assoc]⟩, by omega, ?_, by omega⟩
  simp only [List.length_append, symB_len, bitsOf_length, wordB_len]
  omega
set_option maxRecDepth 100000 in
set_option maxHeartbeats 40000000 in
theorem isays_walk (A : Option Addr) (c : Nat) (l : List (Int × Int)) (W : World) (hr : Go.Proofs.Yteffjbjhkaobfaa.HR.shSym.d.C W A l.length l) (_hc : l.length ≤ c) (_ok : Go.Proofs.Yteffjbjhkaobfaa.HR.shSyms.ok l) : Calls Try.prog 6 #[.slice A l.length c] W fun e w' => e = .returned (.bool true) ∧ Below W.heap.size W w' := by
  have HAW := Aside0.mk awake_ok
  have HRD := Aside0.mk hr
  have hmax := hr.2.1
  have HS0 : Aside0 (LenS W W (.slice none 0 0) 0) := ⟨⟨Kd.R_nil _ _ _ _ _, Below.refl _ _⟩⟩
  clear hr
  go_enter Try.func6, Try.ntmps6
  go_wp2_with fail
  go_loopw [3, 4] (fun v3 v4 wr => ∃ (i : Nat), v4 = .int .i64 i ∧ i ≤ 288 ∧ Aside0 (LenS W wr v3 i)) (fun _ v4 _ => 288 - (intOf v4).toNat)
  case atStart => exact ⟨0, rfl, Nat.zero_le _, HS0⟩
  case round =>
    clear HS0
    obtain ⟨i, rfl, hi, HS⟩ := hrel
    by_cases hlt : i < 288
    · have b1 : decide (i < 288) = true := decide_eq_true hlt
      have b2 : decide ((i : Int) < 288) = true := decide_eq_true (by omega)
      have hwi : IntKind.i64.wrap ((i : Int) + 1) = (i : Int) + 1 := IntWalk.i64_in _ (by omega)
      have hfp := fix_parts i hlt
      have hft := fix_take i hlt
      have HI2 := Aside0.mk hlt
      have HLN : Aside0 ((fixL.take i).length ≤ 288) := ⟨by rw [List.length_take, fixL_len]; omega⟩
      obtain ⟨A3, c3, e3⟩ := Kd.R_slice HS.out.ro
      subst e3
      by_cases h1 : i < 144
      · have p144 : decide (i < 144) = true := decide_eq_true (by omega)
        have q144 : decide ((i : Int) < 144) = true := decide_eq_true (by omega)
        rw [hfp, if_pos h1] at hft
        have HFT := Aside0.mk hft
        clear hft hfp hlt hi
        clear h1
        go_wp2_with ((with_reducible refine gate_builtin (b := .append) (xs := #[.tmp 34, .tmp 35]) rfl ?_); at_builtin; go_must (refine Kd.R_append (Kd.int .i64) (w0 := W) W.heap.size rfl (.tmp 34) (.tmp 35) 29 3 (.int .i64 0) 8 rfl Try.underlying29 Fn.info3 rfl (by decide) (by decide) (.slice A3 (fixL.take i).length c3) (fixL.take i) 8 [.int .i64 8] (fun _ => True) (fun _ => False) rfl rfl ?aP (fun _ hk => hk.elim) ?aF ?aO ?aB ?aS ?aL ?_); (case aP => exact rfl); (case aF => exact (fun _ _ => trivial)); (case aO => exact HS.out.ro); (case aB => exact HS.out.be); (case aS => exact HS.out.be.size); (case aL => have := HLN.out; omega); intro v1 w8 ho hb hg _; have HS8 : Aside0 (LenS W w8 v1 (i + 1)) := ⟨⟨by rw [HFT.out]; exact ho, hb⟩⟩; clear ho hb hg)
        go_roundw
        case rel => exact ⟨i + 1, by simp, HI2.out, HS8⟩
        case measure => simp [intOf]; have := HI2.out; omega
      · have p144 : decide (i < 144) = false := decide_eq_false (by omega)
        have q144 : decide ((i : Int) < 144) = false := decide_eq_false (by omega)
        by_cases h2 : i < 256
        · have p256 : decide (i < 256) = true := decide_eq_true (by omega)
          have q256 : decide ((i : Int) < 256) = true := decide_eq_true (by omega)
          rw [hfp, if_neg h1, if_pos h2] at hft
          have HFT := Aside0.mk hft
          clear hft hfp hlt hi
          clear h1 h2
          go_wp2_with ((with_reducible refine gate_builtin (b := .append) (xs := #[.tmp 40, .tmp 41]) rfl ?_); at_builtin; go_must (refine Kd.R_append (Kd.int .i64) (w0 := W) W.heap.size rfl (.tmp 40) (.tmp 41) 29 3 (.int .i64 0) 8 rfl Try.underlying29 Fn.info3 rfl (by decide) (by decide) (.slice A3 (fixL.take i).length c3) (fixL.take i) 9 [.int .i64 9] (fun _ => True) (fun _ => False) rfl rfl ?aP (fun _ hk => hk.elim) ?aF ?aO ?aB ?aS ?aL ?_); (case aP => exact rfl); (case aF => exact (fun _ _ => trivial)); (case aO => exact HS.out.ro); (case aB => exact HS.out.be); (case aS => exact HS.out.be.size); (case aL => have := HLN.out; omega); intro v1 w8 ho hb hg _; have HS8 : Aside0 (LenS W w8 v1 (i + 1)) := ⟨⟨by rw [HFT.out]; exact ho, hb⟩⟩; clear ho hb hg)
          go_roundw
          case rel => exact ⟨i + 1, by simp, HI2.out, HS8⟩
          case measure => simp [intOf]; have := HI2.out; omega
        · have p256 : decide (i < 256) = false := decide_eq_false (by omega)
          have q256 : decide ((i : Int) < 256) = false := decide_eq_false (by omega)
          by_cases h3 : i < 280
          · have p280 : decide (i < 280) = true := decide_eq_true (by omega)
            have q280 : decide ((i : Int) < 280) = true := decide_eq_true (by omega)
            rw [hfp, if_neg h1, if_neg h2, if_pos h3] at hft
            have HFT := Aside0.mk hft
            clear hft hfp hlt hi
            clear h1 h2 h3
            go_wp2_with ((with_reducible refine gate_builtin (b := .append) (xs := #[.tmp 46, .tmp 47]) rfl ?_); at_builtin; go_must (refine Kd.R_append (Kd.int .i64) (w0 := W) W.heap.size rfl (.tmp 46) (.tmp 47) 29 3 (.int .i64 0) 8 rfl Try.underlying29 Fn.info3 rfl (by decide) (by decide) (.slice A3 (fixL.take i).length c3) (fixL.take i) 7 [.int .i64 7] (fun _ => True) (fun _ => False) rfl rfl ?aP (fun _ hk => hk.elim) ?aF ?aO ?aB ?aS ?aL ?_); (case aP => exact rfl); (case aF => exact (fun _ _ => trivial)); (case aO => exact HS.out.ro); (case aB => exact HS.out.be); (case aS => exact HS.out.be.size); (case aL => have := HLN.out; omega); intro v1 w8 ho hb hg _; have HS8 : Aside0 (LenS W w8 v1 (i + 1)) := ⟨⟨by rw [HFT.out]; exact ho, hb⟩⟩; clear ho hb hg)
            go_roundw
            case rel => exact ⟨i + 1, by simp, HI2.out, HS8⟩
            case measure => simp [intOf]; have := HI2.out; omega
          · have p280 : decide (i < 280) = false := decide_eq_false (by omega)
            have q280 : decide ((i : Int) < 280) = false := decide_eq_false (by omega)
            rw [hfp, if_neg h1, if_neg h2, if_neg h3] at hft
            have HFT := Aside0.mk hft
            clear hft hfp hlt hi
            clear h1 h2 h3
            go_wp2_with ((with_reducible refine gate_builtin (b := .append) (xs := #[.tmp 28, .tmp 29]) rfl ?_); at_builtin; go_must (refine Kd.R_append (Kd.int .i64) (w0 := W) W.heap.size rfl (.tmp 28) (.tmp 29) 29 3 (.int .i64 0) 8 rfl Try.underlying29 Fn.info3 rfl (by decide) (by decide) (.slice A3 (fixL.take i).length c3) (fixL.take i) 8 [.int .i64 8] (fun _ => True) (fun _ => False) rfl rfl ?aP (fun _ hk => hk.elim) ?aF ?aO ?aB ?aS ?aL ?_); (case aP => exact rfl); (case aF => exact (fun _ _ => trivial)); (case aO => exact HS.out.ro); (case aB => exact HS.out.be); (case aS => exact HS.out.be.size); (case aL => have := HLN.out; omega); intro v1 w8 ho hb hg _; have HS8 : Aside0 (LenS W w8 v1 (i + 1)) := ⟨⟨by rw [HFT.out]; exact ho, hb⟩⟩; clear ho hb hg)
            go_roundw
            case rel => exact ⟨i + 1, by simp, HI2.out, HS8⟩
            case measure => simp [intOf]; have := HI2.out; omega
    · have hie : i = 288 := by omega
      subst hie
      have b1 : decide (288 < 288) = false := by decide
      clear hlt hi
      have hro := HS.out.ro
      rw [show fixL.take 288 = fixL from by decide +kernel] at hro
      obtain ⟨A3, c3, e3⟩ := Kd.R_slice hro
      subst e3
      have HRO := Aside0.mk hro
      have HCD := Aside0.mk (refCodes_any A3 c3 fixL wr (Kd.R_reads' hro).2.2 (Kd.R_reads' hro).2.1)
      clear hro
      go_wp2_with fail
      refine HCD.out.mono ?_
      rintro e w2 ⟨v5, z5, rfl, hr5, hb5⟩
      rw [if_pos fixL_ok] at hr5
      obtain ⟨A5, c5, e5⟩ := Kd.R_slice hr5
      subst e5
      have HW0 := Aside0.mk (HS.out.be.trans (hb5.mono HS.out.be.size))
      have HRL := Aside0.mk (Kd.R_reads' (Kd.R_below HRO.out hb5)).2
      have HRW := Aside0.mk (Kd.R_reads' hr5).2
      have HPT := Aside0.mk (put_ok (.slice none 0 0) [] 3 3 w2.heap.size w2 (Kd.R_nil _ _ _ _ _) (Nat.le_refl _) (by decide) (by decide) (by decide))
      clear hr5 hb5 HCD HRO HS
      go_wp2_with fail
      refine HPT.out.mono ?_
      rintro e w3 ⟨v7, rfl, hr7, hf7, _⟩
      have HS3 : Aside0 (SyS W w2 w3 v7 (.slice none 0 0) headB []) := ⟨⟨hr7, Kd.R_nil _ _ _ _ _, hf7.below (Nat.le_refl _) (fun k hk => by cases hk)⟩⟩
      clear hr7 hf7 HPT
      go_wp2_with fail
      go_loopw [7, 8, 9] (fun v7 v8 v9 wr => ∃ (i st : Nat) (B : List Bool) (w : List Int), v9 = .int .i64 i ∧ i ≤ l.length ∧ Aside0 (SyS W w2 wr v7 v8 B w) ∧ Aside0 (SayQ B w st)) (fun _ _ v9 _ => l.length - (intOf v9).toNat)
      case atStart => exact ⟨0, 0, headB, [], rfl, Nat.zero_le _, HS3, ⟨⟨SayI.start, ⟨[], rfl⟩, Nat.le_refl _, by decide, by decide⟩⟩⟩
      case round =>
        clear HS3
        obtain ⟨i, st, B, w, rfl, hil, HS, HY⟩ := hrel
        obtain ⟨A7, c7, e7⟩ := Kd.R_slice HS.out.ro
        subst e7
        obtain ⟨A8, c8, e8⟩ := Kd.R_slice HS.out.rw
        subst e8
        by_cases hlt : i < l.length ∧ w.length < 4096
        · have b1 : decide (i < l.length) = true := decide_eq_true hlt.1
          have b2 : decide ((i : Int) < (l.length : Int)) = true := decide_eq_true (by omega)
          have b3 : decide (w.length < 4096) = true := decide_eq_true hlt.2
          have b4 : decide ((w.length : Int) < 4096) = true := decide_eq_true (by omega)
          have HII := Aside0.mk hlt
          have hwi : IntKind.i64.wrap ((i : Int) + 1) = (i : Int) + 1 := IntWalk.i64_in _ (by omega)
          obtain ⟨ad, cs, hA, hcs, hK, hcell⟩ := Kd.C_get (Kd.C_below HRD.out (HW0.out.trans (HS.out.be.mono HW0.out.size))) (0, 0) (i : Int) (by omega) (by omega)
          subst hA
          obtain ⟨ca, cb, rfl, hka, hkb⟩ := hK
          obtain ⟨fr, hfr⟩ : ∃ z, (l.getD i (0, 0)).1 = z := ⟨_, rfl⟩
          obtain ⟨nr, hnr⟩ : ∃ z, (l.getD i (0, 0)).2 = z := ⟨_, rfl⟩
          obtain rfl : ca = [.int .i64 fr] := by rw [← hfr]; exact hka
          obtain rfl : cb = [.int .i64 nr] := by rw [← hnr]; exact hkb
          have x0 : wr.cell? (ad.add (i * 2)) = some (.int .i64 fr) := hcell 0 _ rfl
          have x1 : wr.cell? (ad.add (i * 2 + 1)) = some (.int .i64 nr) := hcell 1 _ rfl
          have x2 : wr.cell? ((ad.add (i * 2)).add 1) = some (.int .i64 nr) := by rw [Go.Deep.add_add]; exact x1
          have x3 : wr.cell? { block := (ad.add (i * 2)).block, off := (ad.add (i * 2)).off + 1 } = some (.int .i64 nr) := x2
          have i0 : (0 : Int) ≤ (i : Int) := by omega
          have i1 : (i : Int) < (l.length : Int) := by omega
          obtain ⟨far, hfar, hfb⟩ := and_anyI fr 32767 (by decide)
          obtain ⟨nn, hnn, hnb⟩ := and_anyI nr 255 (by decide)
          have hfar' : bits BinOp.and IntKind.i64 fr 32767 = (far : Int) := hfar
          have hnn' : bits BinOp.and IntKind.i64 nr 255 = (nn : Int) := hnn
          clear hka hkb hcell hcs hfr hnr hlt hil hfar hnn
          go_upto_region 18 with (fail)
          go_quiet (fail)
          have HS4 := Aside0.mk (HS.out.below (pw_below_drewN (Below.refl _ _) nq))
          clear x0 x1 x2 x3 HS
          generalize wr.drewN nq = w4 at HS4 ⊢
          by_cases hlit : far = 0 ∨ w.length < far
          · have g1 : (decide (far = 0) || decide (w.length < far)) = true := by
              rw [Bool.or_eq_true]
              rcases hlit with h | h
              · exact Or.inl (decide_eq_true h)
              · exact Or.inr (decide_eq_true h)
            have hkk : nn < 288 := by omega
            have HTB := Aside0.mk (fix_tab nn hkk)
            have HNB := Aside0.mk hnb
            have HLIT := Aside0.mk hlit
            have HSd := Aside0.mk (HS4.out.below (below_drew (Below.refl _ _)))
            have hbe := HSd.out.be
            obtain ⟨adL, hAL, xL⟩ := Kd.at_int (Kd.C_below HRL.out.2 hbe) (nn : Int) (by omega) (by rw [fixL_len]; omega)
            obtain ⟨adW, hAW, xW⟩ := Kd.at_int (Kd.C_below HRW.out.2 hbe) (nn : Int) (by omega) (by rw [codesL_len, fixL_len]; omega)
            have eL : rd fixL (nn : Int) = (fixN nn : Int) := by unfold rd; rw [Int.toNat_natCast]; exact HTB.out.2.1
            have eW : rd (codesL fixL) (nn : Int) = (fixC nn : Int) := by
              rw [rd_get (codesL fixL) nn (by rw [codesL_len, fixL_len]; exact hkk)]
              unfold codesL
              rw [List.getElem_map, List.getElem_range]
              exact HTB.out.2.2
            rw [eL, Int.toNat_natCast] at xL
            rw [eW, Int.toNat_natCast] at xW
            subst hAL
            subst hAW
            obtain ⟨L, hL⟩ : ∃ z, fixN nn = z := ⟨_, rfl⟩
            obtain ⟨C, hC⟩ : ∃ z, fixC nn = z := ⟨_, rfl⟩
            rw [hL] at xL
            rw [hC] at xW
            obtain ⟨kw, hkw⟩ := word_ok C L (by rw [← hC]; exact Nat.lt_trans HTB.out.1.2.2 (by decide)) (by rw [← hL]; have := HTB.out.1.2.1; omega)
            have hsy : wordB C L = symB nn := by unfold symB; rw [hL, hC]
            rw [hsy] at hkw
            have HWD := Aside0.mk (fun w : World => postroadref03_Word.calls kw (L : Int) (C : Int) (ib (symB nn)) w hkw)
            have HSL : Aside0 ((ib (symB nn)).length ≤ 15) := ⟨by rw [ib_length, symB_len]; have := HTB.out.1.2.1; omega⟩
            have HBL : Aside0 ((ib B).length ≤ 300000) := ⟨by rw [ib_length]; have := SayQ.len HY.out; omega⟩
            have k0 : (0 : Int) ≤ (nn : Int) := by omega
            have k1 : (nn : Int) < (fixL.length : Int) := by rw [fixL_len]; omega
            have k2 : (nn : Int) < ((codesL fixL).length : Int) := by rw [codesL_len, fixL_len]; omega
            have hwu : IntKind.u8.wrap (nn : Int) = (nn : Int) := IntWalk.u8_in _ (by omega)
            have HXC := Aside0.mk (fun (w' : World) (hb : Below w2.heap.size w2 w') => (show w'.cell? (adL.add nn) = some (.int .i64 (L : Int)) ∧ w'.cell? (adW.add nn) = some (.int .i64 (C : Int)) from by
              have h1 := Kd.at_int (Kd.C_below HRL.out.2 hb) (nn : Int) (by omega) (by rw [fixL_len]; omega)
              have h2 := Kd.at_int (Kd.C_below HRW.out.2 hb) (nn : Int) (by omega) (by rw [codesL_len, fixL_len]; omega)
              obtain ⟨ad1, e1, y1⟩ := h1
              obtain ⟨ad2, e2, y2⟩ := h2
              injection e1 with e1
              injection e2 with e2
              subst e1
              subst e2
              rw [eL, hL, Int.toNat_natCast] at y1
              rw [eW, hC, Int.toNat_natCast] at y2
              exact ⟨y1, y2⟩))
            clear hkk eL eW hL hC hkw hsy hnb hfb
            rcases hlit with h0 | h0
            · subst h0
              go_upto_region 21 with (fail)
              have b0 := Below.refl w4.drew.heap.size w4.drew
              go_region_held3 (fun w' => w'.cell? (adL.add nn) = some (.int .i64 (L : Int)) ∧ w'.cell? (adW.add nn) = some (.int .i64 (C : Int))) ((refine ⟨?_, ?_⟩ <;> first | assumption | (exact (HXC.out _ (by assumption)).1) | (exact (HXC.out _ (by assumption)).2) | go_keep)) ((first | (go_at_call 14; refine (HWD.out _).mono ?_; rintro e w8 ⟨v8, rfl, hr8, hb8⟩; obtain ⟨A9, c9, e9⟩ := Kd.R_slice hr8; subst e9; have HR8 := Aside0.mk hr8; have HS8 := Aside0.mk (HSd.out.below hb8); have be8 := HS8.out.be; clear hr8) | (refine Kd.R_append_rows_step (Kd.int .i64) (Rr := (Kd.int .i64).K w8) (w0 := w2) (W := w8) w2.heap.size (by rfl) (.tmp 87) (.tmp 96) 29 3 (.int .i64 0) 8 (by rfl) Try.underlying29 Fn.info3 rfl (by decide) (by decide) (.slice A7 (ib B).length c7) (ib B) (ib (symB nn)) A9 (ib (symB nn)).length c9 (fun _ => True) (fun _ => False) (by rfl) (by rfl) HS8.out.ro (Kd.R_reads' HR8.out).2.2 (fun _ _ h => h) (fun _ hk => hk.elim) (fun _ _ => trivial) HS8.out.be HS8.out.be.size (by have := HSL.out; have := HBL.out; omega) ?_; intro v9 w9 ho hb hg hat; have HS9 := Aside0.mk (HS8.out.put (B' := B ++ symB nn) (by rw [ib_append]; exact ho) (Fr_grown hg)); have be9 := HS9.out.be; clear ho hb hg hat)))
              go_wp2_with ((with_reducible refine gate_builtin (b := .append) (xs := #[.tmp 98, .tmp 101]) rfl ?_); at_builtin; go_must (refine Kd.R_append (Kd.int .u8) (w0 := w2) w2.heap.size rfl (.tmp 98) (.tmp 101) 33 5 (.int .u8 0) 1 rfl Try.underlying33 Go.Proofs.Yteffjbjhkaobfaa.HI.info5 (by decide) (by decide) (by decide) (.slice A8 w.length c8) w (nn : Int) [.int .u8 (nn : Int)] (fun _ => True) (fun _ => False) rfl rfl ?aP (fun _ hk => hk.elim) ?aF ?aO ?aB ?aS ?aL ?_); (case aP => exact rfl); (case aF => exact (fun _ _ => trivial)); (case aO => exact HS9.out.rw); (case aB => exact HS9.out.be); (case aS => exact HS9.out.be.size); (case aL => have := HII.out.2; omega); intro v10 w10 ho hb hg _; have HS10 := Aside0.mk (HS9.out.want ho (Fr_grown hg)); clear ho hb hg)
              have HY2 := Aside0.mk (SayQ.lit HY.out HNB.out HII.out.2)
              go_roundw
              case rel => exact ⟨i + 1, st + 1, _, _, by simp, HII.out.1, HS10, HY2⟩
              case measure => simp [intOf]; have := HII.out.1; omega
            · have p1 : decide ((w.length : Int) < (far : Int)) = true := decide_eq_true (by omega)
              have p2 : decide (w.length < far) = true := decide_eq_true h0
              have p3 : decide (far = 0) = false := decide_eq_false (by omega)
              have p4 : decide ((far : Int) = 0) = false := decide_eq_false (by omega)
              have p5 : ((far : Int) == 0) = false := by rw [beq_eq_false_iff_ne]; omega
              have p6 : (far == 0) = false := by rw [beq_eq_false_iff_ne]; omega
              clear h0
              go_upto_region 21 with (fail)
              have b0 := Below.refl w4.drew.heap.size w4.drew
              go_region_held3 (fun w' => w'.cell? (adL.add nn) = some (.int .i64 (L : Int)) ∧ w'.cell? (adW.add nn) = some (.int .i64 (C : Int))) ((refine ⟨?_, ?_⟩ <;> first | assumption | (exact (HXC.out _ (by assumption)).1) | (exact (HXC.out _ (by assumption)).2) | go_keep)) ((first | (go_at_call 14; refine (HWD.out _).mono ?_; rintro e w8 ⟨v8, rfl, hr8, hb8⟩; obtain ⟨A9, c9, e9⟩ := Kd.R_slice hr8; subst e9; have HR8 := Aside0.mk hr8; have HS8 := Aside0.mk (HSd.out.below hb8); have be8 := HS8.out.be; clear hr8) | (refine Kd.R_append_rows_step (Kd.int .i64) (Rr := (Kd.int .i64).K w8) (w0 := w2) (W := w8) w2.heap.size (by rfl) (.tmp 87) (.tmp 96) 29 3 (.int .i64 0) 8 (by rfl) Try.underlying29 Fn.info3 rfl (by decide) (by decide) (.slice A7 (ib B).length c7) (ib B) (ib (symB nn)) A9 (ib (symB nn)).length c9 (fun _ => True) (fun _ => False) (by rfl) (by rfl) HS8.out.ro (Kd.R_reads' HR8.out).2.2 (fun _ _ h => h) (fun _ hk => hk.elim) (fun _ _ => trivial) HS8.out.be HS8.out.be.size (by have := HSL.out; have := HBL.out; omega) ?_; intro v9 w9 ho hb hg hat; have HS9 := Aside0.mk (HS8.out.put (B' := B ++ symB nn) (by rw [ib_append]; exact ho) (Fr_grown hg)); have be9 := HS9.out.be; clear ho hb hg hat)))
              go_wp2_with ((with_reducible refine gate_builtin (b := .append) (xs := #[.tmp 98, .tmp 101]) rfl ?_); at_builtin; go_must (refine Kd.R_append (Kd.int .u8) (w0 := w2) w2.heap.size rfl (.tmp 98) (.tmp 101) 33 5 (.int .u8 0) 1 rfl Try.underlying33 Go.Proofs.Yteffjbjhkaobfaa.HI.info5 (by decide) (by decide) (by decide) (.slice A8 w.length c8) w (nn : Int) [.int .u8 (nn : Int)] (fun _ => True) (fun _ => False) rfl rfl ?aP (fun _ hk => hk.elim) ?aF ?aO ?aB ?aS ?aL ?_); (case aP => exact rfl); (case aF => exact (fun _ _ => trivial)); (case aO => exact HS9.out.rw); (case aB => exact HS9.out.be); (case aS => exact HS9.out.be.size); (case aL => have := HII.out.2; omega); intro v10 w10 ho hb hg _; have HS10 := Aside0.mk (HS9.out.want ho (Fr_grown hg)); clear ho hb hg)
              have HY2 := Aside0.mk (SayQ.lit HY.out HNB.out HII.out.2)
              go_roundw
              case rel => exact ⟨i + 1, st + 1, _, _, by simp, HII.out.1, HS10, HY2⟩
              case measure => simp [intOf]; have := HII.out.1; omega
          · have hf1 : 1 ≤ far := by
              by_cases h : far = 0
              · exact absurd (Or.inl h) hlit
              · omega
            have hf2 : far ≤ w.length := by
              by_cases h : w.length < far
              · exact absurd (Or.inr h) hlit
              · omega
            have hwl := HII.out.2
            have p1 : decide ((w.length : Int) < (far : Int)) = false := decide_eq_false (by omega)
            have p2 : decide (w.length < far) = false := decide_eq_false (by omega)
            have p3 : decide (far = 0) = false := decide_eq_false (by omega)
            have p4 : decide ((far : Int) = 0) = false := decide_eq_false (by omega)
            have p5 : ((far : Int) == 0) = false := by rw [beq_eq_false_iff_ne]; omega
            have p6 : (far == 0) = false := by rw [beq_eq_false_iff_ne]; omega
            have hw3 : IntKind.i64.wrap (3 + (nn : Int)) = 3 + (nn : Int) := IntWalk.i64_in _ (by omega)
            have HLT := Aside0.mk (length_tab nn (by omega))
            have HDT := Aside0.mk (distance_tab (far - 1) (by omega))
            rw [show far - 1 + 1 = far by omega] at HDT
            rw [show ((nn + 3 : Nat) : Int) = 3 + (nn : Int) by omega] at HLT
            obtain ⟨k, hk⟩ : ∃ z, (lenT (nn + 3)).1 = z := ⟨_, rfl⟩
            obtain ⟨x, hx⟩ : ∃ z, (lenT (nn + 3)).2.1 = z := ⟨_, rfl⟩
            obtain ⟨b, hb⟩ : ∃ z, (lenT (nn + 3)).2.2 = z := ⟨_, rfl⟩
            obtain ⟨j, hj⟩ : ∃ z, (disT far).1 = z := ⟨_, rfl⟩
            obtain ⟨y, hy⟩ : ∃ z, (disT far).2.1 = z := ⟨_, rfl⟩
            obtain ⟨dc, hdc⟩ : ∃ z, (disT far).2.2 = z := ⟨_, rfl⟩
            rw [hk, hx, hb] at HLT
            rw [hj, hy, hdc] at HDT
            have HF2 := Aside0.mk (And.intro hf1 hf2)
            have HNN := Aside0.mk hnb
            have hkr := HLT.out.2.1
            have HLC := Aside0.mk (fun w : World => postroadlaw04_length.calls 12 (3 + (nn : Int)) k x b w HLT.out.1)
            have HDC := Aside0.mk (fun w : World => postroadlaw04_distance.calls 20 (far : Int) j y dc w HDT.out.1)
            clear hlit hk hx hb hj hy hdc hf1 hf2
            go_upto_region 24 with (fail)
            go_wp2_with fail
            refine (HLC.out _).mono ?_
            rintro e w5 ⟨rfl, hdr⟩
            have HS5 := Aside0.mk (HS4.out.below hdr.below)
            clear hdr HLC HS4
            have hkk : k < 288 := by omega
            have HTB := Aside0.mk (fix_tab k hkk)
            have HSd := Aside0.mk (HS5.out.below (below_drew (Below.refl _ _)))
            have hbe := HSd.out.be
            obtain ⟨adL, hAL, xL⟩ := Kd.at_int (Kd.C_below HRL.out.2 hbe) (k : Int) (by omega) (by rw [fixL_len]; omega)
            obtain ⟨adW, hAW, xW⟩ := Kd.at_int (Kd.C_below HRW.out.2 hbe) (k : Int) (by omega) (by rw [codesL_len, fixL_len]; omega)
            have eL : rd fixL (k : Int) = (fixN k : Int) := by unfold rd; rw [Int.toNat_natCast]; exact HTB.out.2.1
            have eW : rd (codesL fixL) (k : Int) = (fixC k : Int) := by
              rw [rd_get (codesL fixL) k (by rw [codesL_len, fixL_len]; exact hkk)]
              unfold codesL
              rw [List.getElem_map, List.getElem_range]
              exact HTB.out.2.2
            rw [eL, Int.toNat_natCast] at xL
            rw [eW, Int.toNat_natCast] at xW
            subst hAL
            subst hAW
            obtain ⟨L, hL⟩ : ∃ z, fixN k = z := ⟨_, rfl⟩
            obtain ⟨C, hC⟩ : ∃ z, fixC k = z := ⟨_, rfl⟩
            rw [hL] at xL
            rw [hC] at xW
            obtain ⟨kw, hkw⟩ := word_ok C L (by rw [← hC]; exact Nat.lt_trans HTB.out.1.2.2 (by decide)) (by rw [← hL]; have := HTB.out.1.2.1; omega)
            have hsy : wordB C L = symB k := by unfold symB; rw [hL, hC]
            rw [hsy] at hkw
            have HWD := Aside0.mk (fun w : World => postroadref03_Word.calls kw (L : Int) (C : Int) (ib (symB k)) w hkw)
            have HSL : Aside0 ((ib (symB k)).length ≤ 15) := ⟨by rw [ib_length, symB_len]; have := HTB.out.1.2.1; omega⟩
            have HBL : Aside0 ((ib B).length ≤ 300000) := ⟨by rw [ib_length]; have := SayQ.len HY.out; omega⟩
            have k0 : (0 : Int) ≤ (k : Int) := by omega
            have k1 : (k : Int) < (fixL.length : Int) := by rw [fixL_len]; omega
            have k2 : (k : Int) < ((codesL fixL).length : Int) := by rw [codesL_len, fixL_len]; omega
            have HXC := Aside0.mk (fun (w' : World) (hb : Below w2.heap.size w2 w') => (show w'.cell? (adL.add k) = some (.int .i64 (L : Int)) ∧ w'.cell? (adW.add k) = some (.int .i64 (C : Int)) from by
              have h1 := Kd.at_int (Kd.C_below HRL.out.2 hb) (k : Int) (by omega) (by rw [fixL_len]; omega)
              have h2 := Kd.at_int (Kd.C_below HRW.out.2 hb) (k : Int) (by omega) (by rw [codesL_len, fixL_len]; omega)
              obtain ⟨ad1, e1, y1⟩ := h1
              obtain ⟨ad2, e2, y2⟩ := h2
              injection e1 with e1
              injection e2 with e2
              subst e1
              subst e2
              rw [eL, hL, Int.toNat_natCast] at y1
              rw [eW, hC, Int.toNat_natCast] at y2
              exact ⟨y1, y2⟩))
            clear hkk eL eW hL hC hkw hsy hkr hwl hnb hfb
            go_upto_region 25 with (fail)
            have b0 := Below.refl w5.drew.heap.size w5.drew
            go_region_held3 (fun w' => w'.cell? (adL.add k) = some (.int .i64 (L : Int)) ∧ w'.cell? (adW.add k) = some (.int .i64 (C : Int))) ((refine ⟨?_, ?_⟩ <;> first | assumption | (exact (HXC.out _ (by assumption)).1) | (exact (HXC.out _ (by assumption)).2) | go_keep)) ((first | (go_at_call 14; refine (HWD.out _).mono ?_; rintro e w8 ⟨v8, rfl, hr8, hb8⟩; obtain ⟨A9, c9, e9⟩ := Kd.R_slice hr8; subst e9; have HR8 := Aside0.mk hr8; have HS8 := Aside0.mk (HSd.out.below hb8); have be8 := HS8.out.be; clear hr8) | (refine Kd.R_append_rows_step (Kd.int .i64) (Rr := (Kd.int .i64).K w8) (w0 := w2) (W := w8) w2.heap.size (by rfl) (.tmp 112) (.tmp 121) 29 3 (.int .i64 0) 8 (by rfl) Try.underlying29 Fn.info3 rfl (by decide) (by decide) (.slice A7 (ib B).length c7) (ib B) (ib (symB k)) A9 (ib (symB k)).length c9 (fun _ => True) (fun _ => False) (by rfl) (by rfl) HS8.out.ro (Kd.R_reads' HR8.out).2.2 (fun _ _ h => h) (fun _ hk => hk.elim) (fun _ _ => trivial) HS8.out.be HS8.out.be.size (by have := HSL.out; have := HBL.out; omega) ?_; intro v9 w9 ho hb hg hat; have HS9 := Aside0.mk (HS8.out.put (B' := B ++ symB k) (by rw [ib_append]; exact ho) (Fr_grown hg)); have be9 := HS9.out.be; clear ho hb hg hat)))
            obtain ⟨A10, c10, e10⟩ := Kd.R_slice HS9.out.ro
            subst e10
            have hbl9 : (B ++ symB k).length ≤ 280000 := by rw [List.length_append, symB_len]; have := SayQ.len HY.out; have := HTB.out.1.2.1; omega
            have HBL9 := Aside0.mk hbl9
            have hx13 : x < 2 ^ 13 := Nat.lt_of_lt_of_le HLT.out.2.2.1 (Nat.pow_le_pow_right (by decide) HLT.out.2.2.2.1)
            have hb13 := HLT.out.2.2.2.1
            have HPT := Aside0.mk (put_ok _ (B ++ symB k) x b w2.heap.size w9 HS9.out.ro HS9.out.be.size (by omega) (Nat.lt_trans hx13 (by decide)) (by omega))
            clear hbl9 hx13 hb13
            go_wp2_with fail
            refine HPT.out.mono ?_
            rintro e w10 ⟨v10, rfl, hro, hfr, _⟩
            have HS10 := Aside0.mk (HS9.out.put hro hfr)
            have hl12 : (B ++ symB k ++ bitsOf x b).length ≤ 290000 := by rw [List.length_append, bitsOf_length]; have := HBL9.out; have := HLT.out.2.2.2.1; omega
            obtain ⟨B2, hB2⟩ : ∃ z, B ++ symB k ++ bitsOf x b = z := ⟨_, rfl⟩
            rw [hB2] at HS10 hl12
            have HL12 := Aside0.mk hl12
            have HB2 := Aside0.mk hB2
            clear hro hfr HPT hl12 hB2
            go_wp2_with fail
            refine (HDC.out _).mono ?_
            rintro e w11 ⟨rfl, hdr⟩
            have HS11 := Aside0.mk (HS10.out.below hdr.below)
            obtain ⟨kw5, hkw5⟩ := word_ok j 5 (Nat.lt_trans HDT.out.2.1 (by decide)) (by decide)
            have HWD5 := Aside0.mk (fun w : World => postroadref03_Word.calls kw5 5 (j : Int) (ib (wordB j 5)) w hkw5)
            clear hdr HDC hkw5
            obtain ⟨A11, c11, e11⟩ := Kd.R_slice HS11.out.ro
            subst e11
            go_wp2_with fail
            refine (HWD5.out _).mono ?_
            rintro e w12 ⟨v12, rfl, hr12, hb12⟩
            obtain ⟨A12, c12, e12⟩ := Kd.R_slice hr12
            subst e12
            have HR12 := Aside0.mk hr12
            have HS12 := Aside0.mk (HS11.out.below hb12)
            clear hr12 hb12 HWD5
            go_wp2_with ((with_reducible refine gate_builtin (b := .append) (xs := #[.tmp 133, .tmp 135]) rfl ?_); at_builtin; go_must (refine Kd.R_append_rows (Kd.int .i64) (Rr := (Kd.int .i64).K w12) (w0 := w2) w2.heap.size rfl (.tmp 133) (.tmp 135) 29 3 (.int .i64 0) 8 rfl Try.underlying29 Fn.info3 rfl (by decide) (by decide) (.slice A11 (ib B2).length c11) (ib B2) (ib (wordB j 5)) A12 (ib (wordB j 5)).length c12 (fun _ => True) (fun _ => False) rfl rfl HS12.out.ro (Kd.R_reads' HR12.out).2.2 (fun _ _ h => h) (fun _ hk => hk.elim) (fun _ _ => trivial) HS12.out.be HS12.out.be.size ?aL ?_); (case aL => rw [ib_length, ib_length, wordB_len]; have := HL12.out; omega); intro v13 w13 ho hb hg _; have HS13 := Aside0.mk (HS12.out.put (B' := B2 ++ wordB j 5) (by rw [ib_append]; exact ho) (Fr_grown hg)); clear ho hb hg)
            obtain ⟨A13, c13, e13⟩ := Kd.R_slice HS13.out.ro
            subst e13
            have hl13 : (B2 ++ wordB j 5).length ≤ 300000 := by rw [List.length_append, wordB_len]; have := HL12.out; omega
            obtain ⟨B3, hB3⟩ : ∃ z, B2 ++ wordB j 5 = z := ⟨_, rfl⟩
            rw [hB3] at HS13 hl13
            rw [hB3]
            have hy13 : y < 2 ^ 13 := Nat.lt_of_lt_of_le HDT.out.2.2.1 (Nat.pow_le_pow_right (by decide) HDT.out.2.2.2.1)
            have hdc13 := HDT.out.2.2.2.1
            have HPT := Aside0.mk (put_ok _ B3 y dc w2.heap.size w13 HS13.out.ro HS13.out.be.size (by omega) (Nat.lt_trans hy13 (by decide)) (by omega))
            have HB3 := Aside0.mk hB3
            clear hl13 hB3 hy13 hdc13
            go_wp2_with fail
            refine HPT.out.mono ?_
            rintro e w14 ⟨v14, rfl, hro, hfr, _⟩
            have HS14 := Aside0.mk (HS13.out.put hro hfr)
            obtain ⟨B4, hB4⟩ : ∃ z, B3 ++ bitsOf y dc = z := ⟨_, rfl⟩
            rw [hB4] at HS14
            have HB4 := Aside0.mk hB4
            have HY2 := Aside0.mk (SayQ.copy HY.out HII.out.2 HLT.out.2.1 HLT.out.2.2.1 HLT.out.2.2.2.2.1 HLT.out.2.2.2.2.2 HDT.out.2.1 HDT.out.2.2.1 HDT.out.2.2.2.2.1 HDT.out.2.2.2.2.2 HF2.out.2 (by have := HNN.out; omega) HLT.out.2.2.2.1 HDT.out.2.2.2.1)
            rw [HB2.out, HB3.out, HB4.out] at HY2
            clear hro hfr HPT hB4
            obtain ⟨n, hn⟩ : ∃ z, nn + 3 = z := ⟨_, rfl⟩
            have hn3 : (3 : Int) + (nn : Int) = (n : Int) := by omega
            rw [hn] at HY2
            have HN3 : Aside0 (n ≤ 258) := ⟨by have := HNN.out; omega⟩
            rw [hn3]
            clear hn hw3 hn3
            go_wp2_with fail
            go_loopw [8, 19] (fun v8 v19 wr => ∃ (q : Nat), v19 = .int .i64 q ∧ q ≤ n ∧ Aside0 (SyS W w2 wr v14 v8 B4 (copyN far q w))) (fun _ v19 _ => n - (intOf v19).toNat)
            case atStart => exact ⟨0, rfl, Nat.zero_le _, HS14⟩
            case round =>
              clear HS14
              obtain ⟨q, rfl, hq, HSQ⟩ := hrel
              by_cases hqn : q < n
              · have b5 : decide (q < n) = true := decide_eq_true hqn
                have b6 : decide ((q : Int) < (n : Int)) = true := decide_eq_true (by omega)
                have hwq : IntKind.i64.wrap ((q : Int) + 1) = (q : Int) + 1 := IntWalk.i64_in _ (by have := HN3.out; omega)
                have hzl := copyN_len far q w
                have hsu := copyN_succ far q w
                obtain ⟨zs, hzs⟩ : ∃ z, copyN far q w = z := ⟨_, rfl⟩
                rw [hzs] at HSQ hzl hsu
                have hf12 := HF2.out
                have hw4 := HII.out.2
                have hn258 := HN3.out
                have q1 : (0 : Int) ≤ (zs.length : Int) - (far : Int) := by omega
                have q2 : (zs.length : Int) - (far : Int) < (zs.length : Int) := by omega
                have q3 : ((zs.length : Int) - (far : Int)).toNat = zs.length - far := by omega
                have q4 : IntKind.i64.wrap ((zs.length : Int) - (far : Int)) = (zs.length : Int) - (far : Int) := IntWalk.i64_in _ (by omega)
                have q6 : far ≤ zs.length := by omega
                obtain ⟨gA, cg, eA⟩ := HF.R_first HSQ.out.rw (by omega)
                subst eA
                obtain ⟨y0, z0⟩ := Kd.R_celln 0 HSQ.out.rw ((zs.length : Int) - (far : Int)) q1 q2
                rw [q3] at y0 z0
                have hrd : rdOf 0 zs ((zs.length : Int) - (far : Int)) = zs.getD (zs.length - far) 0 := by unfold rdOf; rw [q3]
                rw [hrd] at y0
                obtain ⟨u, hu⟩ : ∃ z, zs.getD (zs.length - far) 0 = z := ⟨_, rfl⟩
                rw [hu] at y0 hsu
                change wr.cell? ⟨gA, zs.length - far, none⟩ = some (.int .u8 u) at y0
                have HSU := Aside0.mk hsu
                have HZL : Aside0 (zs.length + 1 ≤ 10000 ∧ q < n) := ⟨by omega⟩
                clear hzl hzs hrd hu hsu hqn hq z0 hf12 hw4 hn258
                go_wp2_with ((with_reducible refine gate_builtin (b := .append) (xs := #[.tmp 146, .tmp 154]) rfl ?_); at_builtin; go_must (refine Kd.R_append (Kd.int .u8) (w0 := w2) w2.heap.size rfl (.tmp 146) (.tmp 154) 33 5 (.int .u8 0) 1 rfl Try.underlying33 Go.Proofs.Yteffjbjhkaobfaa.HI.info5 (by decide) (by decide) (by decide) (.slice (some ⟨gA, 0, none⟩) zs.length cg) zs u [.int .u8 u] (fun _ => True) (fun _ => False) rfl rfl ?aP (fun _ hk => hk.elim) ?aF ?aO ?aB ?aS ?aL ?_); (case aP => exact rfl); (case aF => exact (fun _ _ => trivial)); (case aO => exact HSQ.out.rw); (case aB => exact HSQ.out.be); (case aS => exact HSQ.out.be.size); (case aL => have := HZL.out; omega); intro v15 w15 ho hb hg _; have HS15 := Aside0.mk (HSQ.out.want ho (Fr_grown hg)); clear ho hb hg)
                go_roundw
                case rel => exact ⟨q + 1, by simp, HZL.out.2, by rw [HSU.out]; exact HS15⟩
                case measure => simp [intOf]; have := HZL.out.2; omega
              · have hqe : q = n := by omega
                subst hqe
                have b5 : decide (q < q) = false := decide_eq_false (by omega)
                have b6 : decide ((q : Int) < (q : Int)) = false := decide_eq_false (by omega)
                clear hqn hq
                go_wp2_with fail
                go_roundw
                case rel => exact ⟨i + 1, st + 1, B4, _, by simp, HII.out.1, HSQ, HY2⟩
                case measure => simp [intOf]; have := HII.out.1; omega
        · have HLT2 := Aside0.mk hlt
          have hkk : (256 : Nat) < 288 := by decide
          have HTB := Aside0.mk (fix_tab 256 hkk)
          have HSd := Aside0.mk (HS.out.below (below_drew (Below.refl _ _)))
          have hbe := HSd.out.be
          obtain ⟨adL, hAL, xL⟩ := Kd.at_int (Kd.C_below HRL.out.2 hbe) (256 : Int) (by omega) (by rw [fixL_len]; omega)
          obtain ⟨adW, hAW, xW⟩ := Kd.at_int (Kd.C_below HRW.out.2 hbe) (256 : Int) (by omega) (by rw [codesL_len, fixL_len]; omega)
          have eL : rd fixL (256 : Int) = (fixN 256 : Int) := by exact HTB.out.2.1
          have eW : rd (codesL fixL) (256 : Int) = (fixC 256 : Int) := by
            rw [show (256 : Int) = ((256 : Nat) : Int) from rfl, rd_get (codesL fixL) 256 (by rw [codesL_len, fixL_len]; exact hkk)]
            unfold codesL
            rw [List.getElem_map, List.getElem_range]
            exact HTB.out.2.2
          rw [eL] at xL
          change wr.drew.cell? { block := adL.block, off := adL.off + 256 } = _ at xL
          rw [eW] at xW
          change wr.drew.cell? { block := adW.block, off := adW.off + 256 } = _ at xW
          subst hAL
          subst hAW
          obtain ⟨L, hL⟩ : ∃ z, fixN 256 = z := ⟨_, rfl⟩
          obtain ⟨C, hC⟩ : ∃ z, fixC 256 = z := ⟨_, rfl⟩
          rw [hL] at xL
          rw [hC] at xW
          obtain ⟨kw, hkw⟩ := word_ok C L (by rw [← hC]; exact Nat.lt_trans HTB.out.1.2.2 (by decide)) (by rw [← hL]; have := HTB.out.1.2.1; omega)
          have hsy : wordB C L = symB 256 := by unfold symB; rw [hL, hC]
          rw [hsy] at hkw
          have HWD := Aside0.mk (fun w : World => postroadref03_Word.calls kw (L : Int) (C : Int) (ib (symB 256)) w hkw)
          have HSL : Aside0 ((ib (symB 256)).length ≤ 15) := ⟨by rw [ib_length, symB_len]; have := HTB.out.1.2.1; omega⟩
          have HBL : Aside0 ((ib B).length ≤ 300000) := ⟨by rw [ib_length]; have := SayQ.len HY.out; omega⟩
          have k0 : (0 : Int) ≤ (256 : Int) := by omega
          have k1 : (256 : Int) < (fixL.length : Int) := by rw [fixL_len]; omega
          have k2 : (256 : Int) < ((codesL fixL).length : Int) := by rw [codesL_len, fixL_len]; omega
          have HXC := Aside0.mk (fun (w' : World) (hb : Below w2.heap.size w2 w') => (show w'.cell? { block := adL.block, off := adL.off + 256 } = some (.int .i64 (L : Int)) ∧ w'.cell? { block := adW.block, off := adW.off + 256 } = some (.int .i64 (C : Int)) from by
            have h1 := Kd.at_int (Kd.C_below HRL.out.2 hb) (256 : Int) (by omega) (by rw [fixL_len]; omega)
            have h2 := Kd.at_int (Kd.C_below HRW.out.2 hb) (256 : Int) (by omega) (by rw [codesL_len, fixL_len]; omega)
            obtain ⟨ad1, e1, y1⟩ := h1
            obtain ⟨ad2, e2, y2⟩ := h2
            injection e1 with e1
            injection e2 with e2
            subst e1
            subst e2
            rw [eL, hL] at y1
            rw [eW, hC] at y2
            exact ⟨y1, y2⟩))
          clear hkk eL eW hL hC hkw hsy
          by_cases h1 : i < l.length
          · have h40 : ¬ w.length < 4096 := fun h => hlt ⟨h1, h⟩
            have b1 : decide (i < l.length) = true := decide_eq_true h1
            have b2 : decide ((i : Int) < (l.length : Int)) = true := decide_eq_true (by omega)
            have b3 : decide (w.length < 4096) = false := decide_eq_false h40
            have b4 : decide ((w.length : Int) < 4096) = false := decide_eq_false (by omega)
            clear hlt hil h1 h40
            go_upto_region 34 with (fail)
            have b0 := Below.refl wr.drew.heap.size wr.drew
            go_region_held3 (fun w' => w'.cell? { block := adL.block, off := adL.off + 256 } = some (.int .i64 (L : Int)) ∧ w'.cell? { block := adW.block, off := adW.off + 256 } = some (.int .i64 (C : Int))) ((refine ⟨?_, ?_⟩ <;> first | assumption | (exact (HXC.out _ (by assumption)).1) | (exact (HXC.out _ (by assumption)).2) | go_keep)) ((first | (go_at_call 14; refine (HWD.out _).mono ?_; rintro e w8 ⟨v8, rfl, hr8, hb8⟩; obtain ⟨A9, c9, e9⟩ := Kd.R_slice hr8; subst e9; have HR8 := Aside0.mk hr8; have HS8 := Aside0.mk (HSd.out.below hb8); have be8 := HS8.out.be; clear hr8) | (refine Kd.R_append_rows_step (Kd.int .i64) (Rr := (Kd.int .i64).K w8) (w0 := w2) (W := w8) w2.heap.size (by rfl) (.tmp 156) (.tmp 163) 29 3 (.int .i64 0) 8 (by rfl) Try.underlying29 Fn.info3 rfl (by decide) (by decide) (.slice A7 (ib B).length c7) (ib B) (ib (symB 256)) A9 (ib (symB 256)).length c9 (fun _ => True) (fun _ => False) (by rfl) (by rfl) HS8.out.ro (Kd.R_reads' HR8.out).2.2 (fun _ _ h => h) (fun _ hk => hk.elim) (fun _ _ => trivial) HS8.out.be HS8.out.be.size (by have := HSL.out; have := HBL.out; omega) ?_; intro v9 w9 ho hb hg hat; have HS9 := Aside0.mk (HS8.out.put (B' := B ++ symB 256) (by rw [ib_append]; exact ho) (Fr_grown hg)); have be9 := HS9.out.be; clear ho hb hg hat)))
            obtain ⟨A14, c14, e14⟩ := Kd.R_slice HS9.out.ro
            subst e14
            obtain ⟨S, hS, hST⟩ := PT.text_f (B ++ symB 256) (by rw [List.length_append, symB_len]; have := SayQ.len HY.out; have := HTB.out.1.2.1; omega)
            have HTX := Aside0.mk (postroadref01_Text.calls _ A14 c14 (ib (B ++ symB 256)) S w9 (Kd.R_reads' HS9.out.ro).2.2 (Kd.R_reads' HS9.out.ro).2.1 hS)
            have HLAW : Aside0 (inflR S 1048576 = (strOfNums w, (S.size : Int), 0)) := ⟨by
              obtain ⟨h1, ⟨B', h2⟩, h3, h4, h5⟩ := HY.out
              exact say_law h1 (by omega) h2 hST⟩
            have hSZ : S.size ≤ 1000000 := by
              have h1 := hST.1
              rw [List.length_append, symB_len] at h1
              have := SayQ.len HY.out
              have := HTB.out.1.2.1
              omega
            have HSZ := Aside0.mk hSZ
            have HIN := Aside0.mk (fun W : World => inflateX S (by omega) 1048576 W)
            rw [HLAW.out] at HIN
            clear hS hST hSZ
            go_wp2_with fail
            refine HTX.out.mono ?_
            rintro e w15 ⟨rfl, hb⟩
            have HS15 := Aside0.mk (HS9.out.below hb)
            clear hb HTX
            go_wp2_with fail
            refine (HIN.out _).mono ?_
            rintro e w16 ⟨rfl, hb⟩
            have HS16 := Aside0.mk (HS15.out.below hb)
            have hcv := Kd.C_string (P := Try.prog) Try.underlying33 Try.underlying5 Try.underlying9 (A := A8) (c := c8) (Kd.R_reads' HS16.out.rw).2.2
            obtain ⟨T, hT⟩ : ∃ z, strOfNums w = z := ⟨_, rfl⟩
            rw [hT] at hcv ⊢
            have e1 : decide (T = T) = true := decide_eq_true rfl
            clear hb HIN hT
            go_wp2_with fail
            refine (HAW.out _).mono ?_
            rintro e w17 ⟨rfl, hb⟩
            have HBF := Aside0.mk (HW0.out.trans ((HS16.out.be.trans (hb.mono HS16.out.be.size)).mono HW0.out.size))
            clear hb hcv
            go_wp2_with fail
            go_ret
            exact ⟨rfl, HBF.out⟩
          · have b1 : decide (i < l.length) = false := decide_eq_false h1
            have b2 : decide ((i : Int) < (l.length : Int)) = false := decide_eq_false (by omega)
            clear hlt hil h1
            go_upto_region 34 with (fail)
            have b0 := Below.refl wr.drew.heap.size wr.drew
            go_region_held3 (fun w' => w'.cell? { block := adL.block, off := adL.off + 256 } = some (.int .i64 (L : Int)) ∧ w'.cell? { block := adW.block, off := adW.off + 256 } = some (.int .i64 (C : Int))) ((refine ⟨?_, ?_⟩ <;> first | assumption | (exact (HXC.out _ (by assumption)).1) | (exact (HXC.out _ (by assumption)).2) | go_keep)) ((first | (go_at_call 14; refine (HWD.out _).mono ?_; rintro e w8 ⟨v8, rfl, hr8, hb8⟩; obtain ⟨A9, c9, e9⟩ := Kd.R_slice hr8; subst e9; have HR8 := Aside0.mk hr8; have HS8 := Aside0.mk (HSd.out.below hb8); have be8 := HS8.out.be; clear hr8) | (refine Kd.R_append_rows_step (Kd.int .i64) (Rr := (Kd.int .i64).K w8) (w0 := w2) (W := w8) w2.heap.size (by rfl) (.tmp 156) (.tmp 163) 29 3 (.int .i64 0) 8 (by rfl) Try.underlying29 Fn.info3 rfl (by decide) (by decide) (.slice A7 (ib B).length c7) (ib B) (ib (symB 256)) A9 (ib (symB 256)).length c9 (fun _ => True) (fun _ => False) (by rfl) (by rfl) HS8.out.ro (Kd.R_reads' HR8.out).2.2 (fun _ _ h => h) (fun _ hk => hk.elim) (fun _ _ => trivial) HS8.out.be HS8.out.be.size (by have := HSL.out; have := HBL.out; omega) ?_; intro v9 w9 ho hb hg hat; have HS9 := Aside0.mk (HS8.out.put (B' := B ++ symB 256) (by rw [ib_append]; exact ho) (Fr_grown hg)); have be9 := HS9.out.be; clear ho hb hg hat)))
            obtain ⟨A14, c14, e14⟩ := Kd.R_slice HS9.out.ro
            subst e14
            obtain ⟨S, hS, hST⟩ := PT.text_f (B ++ symB 256) (by rw [List.length_append, symB_len]; have := SayQ.len HY.out; have := HTB.out.1.2.1; omega)
            have HTX := Aside0.mk (postroadref01_Text.calls _ A14 c14 (ib (B ++ symB 256)) S w9 (Kd.R_reads' HS9.out.ro).2.2 (Kd.R_reads' HS9.out.ro).2.1 hS)
            have HLAW : Aside0 (inflR S 1048576 = (strOfNums w, (S.size : Int), 0)) := ⟨by
              obtain ⟨h1, ⟨B', h2⟩, h3, h4, h5⟩ := HY.out
              exact say_law h1 (by omega) h2 hST⟩
            have hSZ : S.size ≤ 1000000 := by
              have h1 := hST.1
              rw [List.length_append, symB_len] at h1
              have := SayQ.len HY.out
              have := HTB.out.1.2.1
              omega
            have HSZ := Aside0.mk hSZ
            have HIN := Aside0.mk (fun W : World => inflateX S (by omega) 1048576 W)
            rw [HLAW.out] at HIN
            clear hS hST hSZ
            go_wp2_with fail
            refine HTX.out.mono ?_
            rintro e w15 ⟨rfl, hb⟩
            have HS15 := Aside0.mk (HS9.out.below hb)
            clear hb HTX
            go_wp2_with fail
            refine (HIN.out _).mono ?_
            rintro e w16 ⟨rfl, hb⟩
            have HS16 := Aside0.mk (HS15.out.below hb)
            have hcv := Kd.C_string (P := Try.prog) Try.underlying33 Try.underlying5 Try.underlying9 (A := A8) (c := c8) (Kd.R_reads' HS16.out.rw).2.2
            obtain ⟨T, hT⟩ : ∃ z, strOfNums w = z := ⟨_, rfl⟩
            rw [hT] at hcv ⊢
            have e1 : decide (T = T) = true := decide_eq_true rfl
            clear hb HIN hT
            go_wp2_with fail
            refine (HAW.out _).mono ?_
            rintro e w17 ⟨rfl, hb⟩
            have HBF := Aside0.mk (HW0.out.trans ((HS16.out.be.trans (hb.mono HS16.out.be.size)).mono HW0.out.size))
            clear hb hcv
            go_wp2_with fail
            go_ret
            exact ⟨rfl, HBF.out⟩
end Go.Proofs.Yteffjbjhkaobfaa.IW
