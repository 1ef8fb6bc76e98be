/- InflateStored: walked. -/
import Derived.Test.YteffjbjhkaobfaaPStoI
import Derived.Test.YteffjbjhkaobfaaHShStr
namespace Go.Proofs.Yteffjbjhkaobfaa.IW
open Go.RowKit Go.Proofs.YteffjbjhkaobfaaW.PrintWords Go.Proofs.YteffjbjhkaobfaaW.PrintLast Go.Proofs.YteffjbjhkaobfaaW.PrintMore Go.Proofs.Yteffjbjhkaobfaa.HW Go.Proofs.Yteffjbjhkaobfaa.MB Go.Proofs.Yteffjbjhkaobfaa.Fn Go.Proofs.Yteffjbjhkaobfaa.HF Go.Proofs.Yteffjbjhkaobfaa.RT Go.Proofs.Yteffjbjhkaobfaa.RT.Rd Go.Proofs.Yteffjbjhkaobfaa.HP Go.Proofs.Yteffjbjhkaobfaa.HI
attribute [local go_sem] max2_int min2_int max_two min_two max_three min_three max_four min_four   -- for this text's walks alone
/-- What was put so far. -/
structure StoS (W wr : World) (v : Value) (ps : List ByteArray) : Prop where
  ro : Kd.R (Kd.int .u8) 5 wr W.heap.size (fun _ => True) v (zOf ps)
  be : Below W.heap.size W wr
  ok : ∀ p ∈ ps, p.size ≤ 2000
theorem cells_reads {w : World} (xs : List Int) (n : Nat) (hn : xs.length = n) (h : n ≤ 1000) : ReadsInt (w.alloc (.cells (nums .u8 xs).toArray 5)) .u8 (some ⟨w.heap.size, 0, none⟩) n xs := by
  refine ⟨hn, by omega, fun _ => ⟨_, rfl, fun j hj => ?_⟩⟩
  rw [HI.add_at, Nat.zero_add]
  refine (blk_cell (heap_alloc_new w _) j).trans ?_
  show ((nums .u8 xs).toArray)[j]? = _
  unfold nums
  rw [List.getElem?_toArray, List.getElem?_map, List.getElem?_eq_getElem (by omega), List.getD_eq_getElem?_getD, List.getElem?_eq_getElem (by omega)]
  rfl
theorem and255 (n : Nat) (h : n ≤ 2000) : bits .and .i64 (n : Int) 255 = ((n % 256 : Nat) : Int) := by
  have := bits_mask .i64 63 (by decide) (fun n h0 h1 => by rw [IntKind.wrap_i64]; omega) 8 (by decide) (n : Int) (by omega) (by omega)
  rw [show (255 : Int) = 2 ^ 8 - 1 by decide, this]
  omega
/-- The five bytes ahead of a part. -/
def fiveL (lo hh : Nat) : List Int := [0, (lo : Int), (hh : Int), 255 - (lo : Int), 255 - (hh : Int)]
theorem five_blk (p : ByteArray) (lo hh : Nat) (h : lo = p.size % 256) (h2 : hh = p.size / 256) (hp : p.size ≤ 2000) : fiveL lo hh ++ bytesOf p = blkL 0 p := by
  unfold fiveL blkL
  subst h
  subst h2
  have e2 : (255 : Int) - ((p.size % 256 : Nat) : Int) = ((255 - p.size % 256 : Nat) : Int) := by omega
  have e3 : (255 : Int) - ((p.size / 256 : Nat) : Int) = ((255 - p.size / 256 : Nat) : Int) := by omega
  rw [e2, e3]
theorem R_five {B : Nat} {v : Value} {xs ys : List Int} {w' : World} (h : w'.ownsRow B 5 1 v (xs ++ ys).length (nums .u8 (xs ++ ys))) : Kd.R (Kd.int .u8) 5 w' B (fun _ => True) v (xs ++ ys) := nums_row h
set_option maxRecDepth 100000 in
set_option maxHeartbeats 16000000 in
theorem istored_walk (A : Option Addr) (c : Nat) (l : List ByteArray) (W : World) (hr : Kd.C Kd.string W A l.length l) (_hc : l.length ≤ c) (_ok : Go.Proofs.Yteffjbjhkaobfaa.HR.shStrs.ok l) : Calls Try.prog 7 #[.slice A l.length c] W fun e w' => e = .returned (.bool true) ∧ Below W.heap.size W w' := by
  have HAW := Aside0.mk awake_ok
  have HRD := Aside0.mk hr
  have hmax := hr.2.1
  have HS0 : Aside0 (StoS W W (.slice none 0 0) []) := ⟨⟨Kd.R_nil _ _ _ _ _, Below.refl _ _, fun _ h => by cases h⟩⟩
  clear hr
  go_enter Try.func7, Try.ntmps7
  go_wp2_with fail
  go_loopw [3, 4, 5] (fun v3 v4 v5 wr => ∃ (i : Nat), v5 = .int .i64 i ∧ i ≤ l.length ∧ i ≤ 40 ∧ v4 = .string (allOf (l.take i)) ∧ Aside0 (StoS W wr v3 (l.take i))) (fun _ _ v5 _ => 40 - (intOf v5).toNat)
  case atStart => exact ⟨0, rfl, Nat.zero_le _, Nat.zero_le _, rfl, HS0⟩
  case round =>
    clear HS0
    obtain ⟨i, rfl, hil, hi40, rfl, HS⟩ := hrel
    by_cases hlt : i < l.length ∧ i < 40
    · have b1 : decide (i < l.length) = true := decide_eq_true hlt.1
      have b2 : decide ((i : Int) < (l.length : Int)) = true := decide_eq_true (by omega)
      have b3 : decide (i < 40) = true := decide_eq_true hlt.2
      have b4 : decide ((i : Int) < 40) = true := decide_eq_true (by omega)
      obtain ⟨ad, hA, x0⟩ := Kd.at_string (Kd.C_below HRD.out HS.out.be) (i : Int) (by omega) (by omega)
      subst hA
      simp only [Int.toNat_natCast] at x0
      have hrd : rdOf ByteArray.empty l (i : Int) = l[i]'hlt.1 := by
        unfold rdOf
        rw [Int.toNat_natCast, List.getD_eq_getElem?_getD, List.getElem?_eq_getElem hlt.1]
        rfl
      obtain ⟨p, hp⟩ : ∃ z, l[i]'hlt.1 = z := ⟨_, rfl⟩
      rw [hrd, hp] at x0
      have htk : l.take (i + 1) = l.take i ++ [p] := by
        rw [List.take_add_one, List.getElem?_eq_getElem hlt.1, hp]
        rfl
      have HTK := Aside0.mk htk
      have HII := Aside0.mk hlt
      have i0 : (0 : Int) ≤ (i : Int) := by omega
      have i1 : (i : Int) < (l.length : Int) := by omega
      have hwi : IntKind.i64.wrap ((i : Int) + 1) = (i : Int) + 1 := IntWalk.i64_in _ (by omega)
      clear hlt hil hi40 hrd hp htk
      by_cases hsz : 2000 < p.size
      · have b5 : decide ((2000 : Int) < (p.size : Int)) = true := decide_eq_true (by omega)
        have b6 : decide (2000 < p.size) = true := decide_eq_true hsz
        clear hsz
        go_wp2_with fail
        refine (HAW.out _).mono ?_
        rintro e w1 ⟨rfl, hb⟩
        have HB1 := Aside0.mk (HS.out.be.trans (hb.mono HS.out.be.size))
        clear hb
        go_wp2_with fail
        go_ret
        exact ⟨rfl, HB1.out⟩
      · have b5 : decide ((2000 : Int) < (p.size : Int)) = false := decide_eq_false (by omega)
        have b6 : decide (2000 < p.size) = false := decide_eq_false hsz
        have HSZ := Aside0.mk hsz
        obtain ⟨lo, hlo⟩ : ∃ z, p.size % 256 = z := ⟨_, rfl⟩
        have hand := and255 p.size (by omega)
        rw [hlo] at hand
        have hlo2 : lo < 256 := by omega
        have wm1 : (lo : Int) % 256 = (lo : Int) := by omega
        have wm2 : wrap64 (255 - (lo : Int)) = 255 - (lo : Int) := wrap64_id _ (by omega) (by omega)
        have wm3 : (255 - (lo : Int)) % 256 = 255 - (lo : Int) := by omega
        obtain ⟨hh, hhh⟩ : ∃ z, p.size / 256 = z := ⟨_, rfl⟩
        have hdiv : (p.size : Int) / 256 = (hh : Int) := by omega
        have hh2 : hh < 256 := by omega
        have vm1 : (hh : Int) % 256 = (hh : Int) := by omega
        have vm2 : wrap64 (255 - (hh : Int)) = 255 - (hh : Int) := wrap64_id _ (by omega) (by omega)
        have vm3 : (255 - (hh : Int)) % 256 = 255 - (hh : Int) := by omega
        have HLO := Aside0.mk (And.intro hlo hhh)
        obtain ⟨A3, c3, e3⟩ := Kd.R_slice HS.out.ro
        subst e3
        have hzl := (all_size _ HS.out.ok).2
        have hil2 : (l.take i).length ≤ 40 := by rw [List.length_take]; have := HII.out; omega
        have HZL : Aside0 ((zOf (l.take i)).length ≤ 100000) := ⟨by omega⟩
        have HBA := Aside0.mk (below_alloc (Below.refl wr.heap.size wr) (.cells (nums .u8 (fiveL lo hh)).toArray 5))
        clear hsz hlo hhh hzl hil2 hlo2 hh2
        go_upto_region 10 with ((with_reducible refine gate_builtin (b := .append) (xs := #[.tmp 28, .tmp 47]) rfl ?_); at_builtin; go_must (refine print_append_row (w0 := W) W.heap.size rfl (.tmp 28) (.tmp 47) 33 5 .u8 1 rfl Try.underlying33 HI.info5 (by decide) (.slice A3 (zOf (l.take i)).length c3) (zOf (l.take i)) (fiveL lo hh) (some ⟨wr.heap.size, 0, none⟩) 5 5 rfl rfl ?aO ?aR ?aB ?aS ?aL ?_); (case aO => exact row_nums (Kd.R_below HS.out.ro HBA.out)); (case aR => exact cells_reads (fiveL lo hh) 5 rfl (by decide)); (case aB => exact HS.out.be.trans (HBA.out.mono HS.out.be.size)); (case aS => exact Nat.le_trans HS.out.be.size HBA.out.size); (case aL => have := HZL.out; omega); intro v1 w1 ho hb hg _; have HO1 := Aside0.mk ho; have HB1 := Aside0.mk hb; clear ho hb hg)
        have HR1 := Aside0.mk (nums_row HO1.out)
        have HL1 : Aside0 ((zOf (l.take i) ++ fiveL lo hh).length ≤ 100005) := ⟨by rw [List.length_append]; have := HZL.out; have : (fiveL lo hh).length = 5 := rfl; omega⟩
        have HAS : Aside0 ((allOf (l.take i)).size + p.size ≤ 200000) := ⟨by
          have h1 := (all_size _ HS.out.ok).1
          have h2 : (l.take i).length ≤ 40 := by rw [List.length_take]; have := HII.out; omega
          have := HSZ.out
          omega⟩
        have hsum1 : (allOf (l.take i)).size ≤ 200000 := by have := HAS.out; omega
        have hsum2 : p.size ≤ 200000 := by have := HAS.out; omega
        have hsum3 : (allOf (l.take i)).size + p.size ≤ 9223372036854775807 := by omega
        have hsum4 : ((allOf (l.take i)).size : Int) + (p.size : Int) ≤ 9223372036854775807 := by omega
        go_wp2_with ((with_reducible refine gate_builtin (b := .append) (xs := #[.tmp 49, .tmp 50]) rfl ?_); at_builtin; go_must (refine app_str W.heap.size rfl (.tmp 49) (.tmp 50) 33 9 5 rfl Try.underlying33 Try.underlying9 HI.info5 v1 (zOf (l.take i) ++ fiveL lo hh) p rfl rfl HO1.out HB1.out.size ?hl ?_); (case hl => have := HL1.out; have := HSZ.out; omega); intro v2 w2 ho hg _; have HO2 := Aside0.mk ho; have HB2 := Aside0.mk (HB1.out.grown hg HB1.out.size (fun k hk => Kd.R_base HR1.out k hk)); clear ho hg)
        have hz : zOf (l.take i) ++ fiveL lo hh ++ bytesOf p = zOf (l.take (i + 1)) := by
          rw [HTK.out, zOf_app, List.append_assoc, five_blk p lo hh HLO.out.1.symm HLO.out.2.symm (by have := HSZ.out; omega)]
          show _ = zOf (l.take i) ++ (blkL 0 p ++ [])
          rw [List.append_nil]
        have hall : allOf (l.take i) ++ p = allOf (l.take (i + 1)) := by
          rw [HTK.out, allOf_app]
          show _ = allOf (l.take i) ++ (p ++ ⟨#[]⟩)
          rw [ba_empty_r]
        have HALL := Aside0.mk hall
        have HS2 : Aside0 (StoS W w2 v2 (l.take (i + 1))) := ⟨⟨by rw [← hz]; exact nums_row HO2.out, HB2.out, fun x hx => by
          rw [HTK.out] at hx
          rcases List.mem_append.1 hx with hx | hx
          · exact HS.out.ok x hx
          · rw [List.mem_singleton] at hx
            rw [hx]
            have := HSZ.out
            omega⟩⟩
        clear hz hall
        go_roundw
        case rel => exact ⟨i + 1, by simp, HII.out.1, HII.out.2, by rw [HALL.out], HS2⟩
        case measure => simp [intOf]; have := HII.out.2; omega
    · have b5 : (decide (i < l.length) && decide (i < 40)) = false := by
        rw [Bool.and_eq_false_iff]
        by_cases h1 : i < l.length
        · exact Or.inr (decide_eq_false (fun h => hlt ⟨h1, h⟩))
        · exact Or.inl (decide_eq_false h1)
      obtain ⟨ps, hps⟩ : ∃ z, l.take i = z := ⟨_, rfl⟩
      have hpl : ps.length ≤ 40 := by rw [← hps, List.length_take]; omega
      rw [hps] at HS ⊢
      have HLAW := Aside0.mk (stored_law ps HS.out.ok hpl)
      have HSZ := Aside0.mk (all_size ps HS.out.ok)
      obtain ⟨A3, c3, e3⟩ := Kd.R_slice HS.out.ro
      subst e3
      have HBA := Aside0.mk (below_alloc (Below.refl wr.heap.size wr) (.cells (nums .u8 endL).toArray 5))
      have HPL := Aside0.mk hpl
      by_cases h1 : i < l.length
      · have h40 : ¬ i < 40 := fun h => hlt ⟨h1, h⟩
        have b1 : decide (i < l.length) = true := decide_eq_true h1
        have b2 : decide ((i : Int) < (l.length : Int)) = true := decide_eq_true (by omega)
        have b3 : decide (i < 40) = false := decide_eq_false h40
        have b4 : decide ((i : Int) < 40) = false := decide_eq_false (by omega)
        clear hlt hil hi40 h1 h40 hpl hps b5
        go_upto_region 13 with ((with_reducible refine gate_builtin (b := .append) (xs := #[.tmp 55, .tmp 56]) rfl ?_); at_builtin; go_must (refine print_append_row (w0 := W) W.heap.size rfl (.tmp 55) (.tmp 56) 33 5 .u8 1 rfl Try.underlying33 HI.info5 (by decide) (.slice A3 (zOf ps).length c3) (zOf ps) endL (some ⟨wr.heap.size, 0, none⟩) 5 5 rfl rfl ?aO ?aR ?aB ?aS ?aL ?_); (case aO => exact row_nums (Kd.R_below HS.out.ro HBA.out)); (case aR => exact cells_reads endL 5 rfl (by decide)); (case aB => exact HS.out.be.trans (HBA.out.mono HS.out.be.size)); (case aS => exact Nat.le_trans HS.out.be.size HBA.out.size); (case aL => have := HSZ.out.2; have := HPL.out; omega); intro v1 w1 ho hb hg _; have HO1 := Aside0.mk ho; have HB1 := Aside0.mk hb; clear ho hb hg)
        have HR1 := Aside0.mk (nums_row HO1.out)
        obtain ⟨A4, c4, e4⟩ := Kd.R_slice HR1.out
        subst e4
        have hcv := Kd.C_string (P := Try.prog) Try.underlying33 Try.underlying5 Try.underlying9 (A := A4) (c := c4) (Kd.R_reads' HR1.out).2.2
        have HIN := Aside0.mk (fun W : World => inflateX (strOfNums (zOf ps ++ endL)) (by rw [strOfNums_size, List.length_append]; have := HSZ.out.2; have := HPL.out; have : endL.length = 5 := rfl; omega) ((allOf ps).size : Int) W)
        rw [HLAW.out] at HIN
        obtain ⟨L, hL⟩ : ∃ z, (zOf ps ++ endL).length = z := ⟨_, rfl⟩
        obtain ⟨Z, hZ⟩ : ∃ z, strOfNums (zOf ps ++ endL) = z := ⟨_, rfl⟩
        obtain ⟨T, hT⟩ : ∃ z, allOf ps = z := ⟨_, rfl⟩
        rw [hL, hZ, hT] at HIN
        rw [hL, hZ] at hcv
        rw [hL, hT]
        have e1 : decide (T = T) = true := decide_eq_true rfl
        have e2 : decide (L = L) = true := decide_eq_true rfl
        have e3 : (L == L) = true := by rw [beq_iff_eq]
        clear hL hZ hT
        go_wp2_with fail
        refine (HIN.out _).mono ?_
        rintro e w2 ⟨rfl, hb⟩
        have HB2 := Aside0.mk (HB1.out.trans (hb.mono HB1.out.size))
        clear hb
        go_wp2_with fail
        refine (HAW.out _).mono ?_
        rintro e w3 ⟨rfl, hb⟩
        have HB3 := Aside0.mk (HB2.out.trans (hb.mono HB2.out.size))
        clear hb
        go_wp2_with fail
        go_ret
        exact ⟨rfl, HB3.out⟩
      · have b1 : decide (i < l.length) = false := decide_eq_false h1
        have b2 : decide ((i : Int) < (l.length : Int)) = false := decide_eq_false (by omega)
        clear hlt hil hi40 h1 hpl hps b5
        go_upto_region 13 with ((with_reducible refine gate_builtin (b := .append) (xs := #[.tmp 55, .tmp 56]) rfl ?_); at_builtin; go_must (refine print_append_row (w0 := W) W.heap.size rfl (.tmp 55) (.tmp 56) 33 5 .u8 1 rfl Try.underlying33 HI.info5 (by decide) (.slice A3 (zOf ps).length c3) (zOf ps) endL (some ⟨wr.heap.size, 0, none⟩) 5 5 rfl rfl ?aO ?aR ?aB ?aS ?aL ?_); (case aO => exact row_nums (Kd.R_below HS.out.ro HBA.out)); (case aR => exact cells_reads endL 5 rfl (by decide)); (case aB => exact HS.out.be.trans (HBA.out.mono HS.out.be.size)); (case aS => exact Nat.le_trans HS.out.be.size HBA.out.size); (case aL => have := HSZ.out.2; have := HPL.out; omega); intro v1 w1 ho hb hg _; have HO1 := Aside0.mk ho; have HB1 := Aside0.mk hb; clear ho hb hg)
        have HR1 := Aside0.mk (nums_row HO1.out)
        obtain ⟨A4, c4, e4⟩ := Kd.R_slice HR1.out
        subst e4
        have hcv := Kd.C_string (P := Try.prog) Try.underlying33 Try.underlying5 Try.underlying9 (A := A4) (c := c4) (Kd.R_reads' HR1.out).2.2
        have HIN := Aside0.mk (fun W : World => inflateX (strOfNums (zOf ps ++ endL)) (by rw [strOfNums_size, List.length_append]; have := HSZ.out.2; have := HPL.out; have : endL.length = 5 := rfl; omega) ((allOf ps).size : Int) W)
        rw [HLAW.out] at HIN
        obtain ⟨L, hL⟩ : ∃ z, (zOf ps ++ endL).length = z := ⟨_, rfl⟩
        obtain ⟨Z, hZ⟩ : ∃ z, strOfNums (zOf ps ++ endL) = z := ⟨_, rfl⟩
        obtain ⟨T, hT⟩ : ∃ z, allOf ps = z := ⟨_, rfl⟩
        rw [hL, hZ, hT] at HIN
        rw [hL, hZ] at hcv
        rw [hL, hT]
        have e1 : decide (T = T) = true := decide_eq_true rfl
        have e2 : decide (L = L) = true := decide_eq_true rfl
        have e3 : (L == L) = true := by rw [beq_iff_eq]
        clear hL hZ hT
        go_wp2_with fail
        refine (HIN.out _).mono ?_
        rintro e w2 ⟨rfl, hb⟩
        have HB2 := Aside0.mk (HB1.out.trans (hb.mono HB1.out.size))
        clear hb
        go_wp2_with fail
        refine (HAW.out _).mono ?_
        rintro e w3 ⟨rfl, hb⟩
        have HB3 := Aside0.mk (HB2.out.trans (hb.mono HB2.out.size))
        clear hb
        go_wp2_with fail
        go_ret
        exact ⟨rfl, HB3.out⟩
end Go.Proofs.Yteffjbjhkaobfaa.IW
