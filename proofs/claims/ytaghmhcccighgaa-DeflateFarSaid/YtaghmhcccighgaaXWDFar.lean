/- DeflateFar: walked. -/
import Derived.Test.YtaghmhcccighgaaXHFar
namespace Go.Proofs.Ytaghmhcccighgaa.DF
open Go.RowKit Go.Proofs.YtaghmhcccighgaaW.PrintWords Go.Proofs.YtaghmhcccighgaaW.PrintLast Go.Proofs.YtaghmhcccighgaaW.PrintMore Go.Proofs.Ytaghmhcccighgaa.HW Go.Proofs.Ytaghmhcccighgaa.MB Go.Proofs.Ytaghmhcccighgaa.Fn Go.Proofs.Ytaghmhcccighgaa.HF Go.Proofs.Ytaghmhcccighgaa.RT Go.Proofs.Ytaghmhcccighgaa.RT.Rd Go.Proofs.Ytaghmhcccighgaa.HP Go.Proofs.Ytaghmhcccighgaa.HI Go.Proofs.Ytaghmhcccighgaa.IW
attribute [local go_sem] max2_int min2_int max_two min_two max_three min_three max_four min_four   -- for this text's walks alone
theorem andm (n : Int) (m : Nat) (mi : Int) (hi : mi = (m : Int)) (hm : m < 2 ^ 62) : ∃ k : Nat, Go.bits .and .i64 n mi = (k : Int) ∧ k ≤ m := by
  subst hi
  have hle : (BitVec.ofInt 64 n).toNat &&& m ≤ m := Nat.and_le_right
  refine ⟨(BitVec.ofInt 64 n).toNat &&& m, ?_, hle⟩
  have e1 : (BitVec.ofInt 64 n &&& BitVec.ofInt 64 (m : Int)).toNat = (BitVec.ofInt 64 n).toNat &&& m := by
    rw [BitVec.toNat_and, BitVec.ofInt_natCast, BitVec.toNat_ofNat, Nat.mod_eq_of_lt (by omega)]
  show IntKind.i64.wrap ((BitVec.ofInt 64 n &&& BitVec.ofInt 64 (m : Int)).toNat : Int) = _
  rw [e1]
  exact wraps_i64 _ (Int.natCast_nonneg _) (cast_lt_two_pow (by omega))
theorem far_size {s z zs zf zd : ByteArray} {b : List Bool} (hs : s.size ≤ 33200) (h : DeZ s z zs zf zd b) : z.size ≤ s.size + 5 := by
  have h1 := congrArg List.length (sto_bytes h.ts)
  have h2 := (stoL_len 17 s (by decide) (by omega)).2 (by omega)
  have h3 := h.ls
  rw [bytesOf_length] at h1
  omega
/-- The text at a round. -/
structure FarI (W wr : World) (v : Value) (m : Nat) : Prop where
  t : ∃ xs : List Int, FarR W wr v xs ∧ xs.length = m
set_option maxRecDepth 100000 in
set_option maxHeartbeats 4000000 in
theorem dfar_walk (s : ByteArray) (hs : s.size ≤ 140737488351232) (between : Int) (_hw : (Lit.int .i64 between).wf = true) (W : World) : Calls Try.prog 9 #[.string s, .int .i64 between] W fun e w' => e = .returned (.bool true) ∧ Below W.heap.size W w' := by
  have HAW := Aside0.mk awake_ok
  by_cases h : s.size = 0 ∨ 200 < s.size
  · have HO := Aside0.mk h
    clear h
    go_enter Try.func9, Try.ntmps9
    rcases HO.out with h | h
    · have b0 : ((s.size : Int) == 0) = true := by rw [beq_iff_eq]; omega
      have b1 : decide ((s.size : Int) = 0) = true := decide_eq_true (by omega)
      have b2 : (s.size == 0) = true := by rw [beq_iff_eq]; exact h
      have b3 : decide (s.size = 0) = true := decide_eq_true h
      clear h HO
      go_wp2_with fail
      refine (HAW.out _).mono ?_
      rintro e w1 ⟨rfl, hb1⟩
      have HB1 := Aside0.mk hb1
      clear hb1
      go_wp2_with fail
      go_ret
      exact ⟨rfl, HB1.out⟩
    · have b0 : ((s.size : Int) == 0) = false := by rw [beq_eq_false_iff_ne]; omega
      have b1 : decide ((s.size : Int) = 0) = false := decide_eq_false (by omega)
      have b2 : (s.size == 0) = false := by rw [beq_eq_false_iff_ne]; omega
      have b3 : decide (s.size = 0) = false := decide_eq_false (by omega)
      have b4 : decide ((200 : Int) < (s.size : Int)) = true := decide_eq_true (by omega)
      have b5 : decide (200 < s.size) = true := decide_eq_true h
      clear h HO
      go_wp2_with fail
      refine (HAW.out _).mono ?_
      rintro e w1 ⟨rfl, hb1⟩
      have HB1 := Aside0.mk hb1
      clear hb1
      go_wp2_with fail
      go_ret
      exact ⟨rfl, HB1.out⟩
  · have b0 : ((s.size : Int) == 0) = false := by rw [beq_eq_false_iff_ne]; omega
    have b1 : decide ((s.size : Int) = 0) = false := decide_eq_false (by omega)
    have b2 : (s.size == 0) = false := by rw [beq_eq_false_iff_ne]; omega
    have b3 : decide (s.size = 0) = false := decide_eq_false (by omega)
    have b4 : decide ((200 : Int) < (s.size : Int)) = false := decide_eq_false (by omega)
    have b5 : decide (200 < s.size) = false := decide_eq_false (by omega)
    have hsz : 0 < s.size ∧ s.size ≤ 200 := by omega
    have HSZ := Aside0.mk hsz
    obtain ⟨k, hk, hk2⟩ := andm between 32767 32767 rfl (by decide)
    have HK := Aside0.mk hk2
    have hcv := fun w => Lib.run_convert_string_bytes (P := Try.prog) w 9 28 5 s Try.underlying9 Try.underlying28 Try.underlying5
    have HF0 : Aside0 (FarI W (Lib.bytesWorld W 5 s) (.slice (some ⟨W.heap.size, 0, none⟩) s.size (grownCap W s.size 0 5)) (s.size + 0)) := ⟨⟨_, far_begin s 5 (Below.refl _ W), bytesOf_length s⟩⟩
    clear h hs hsz hk2
    go_enter Try.func9, Try.ntmps9
    go_wp2_with fail
    clear hcv
    go_loopw [6, 7, 8] (fun v6 v7 v8 wr => ∃ (i x : Nat), v8 = .int .i64 i ∧ i ≤ k ∧ v7 = .int .i64 x ∧ x ≤ 2147483647 ∧ Aside0 (FarI W wr v6 (s.size + i))) (fun _ _ v8 _ => k - (intOf v8).toNat)
    case atStart => exact ⟨0, 12345, rfl, Nat.zero_le _, rfl, by decide, HF0⟩
    case round =>
      obtain ⟨i, x, rfl, hi, rfl, hx, HF⟩ := hrel
      by_cases hlt : i < k
      · have c1 : decide ((i : Int) < (k : Int)) = true := decide_eq_true (by omega)
        have c2 : decide (i < k) = true := decide_eq_true hlt
        have hk' := HK.out
        obtain ⟨y, hy, hy2⟩ := andm ((x : Int) * 1103515245 + 12345) 2147483647 2147483647 rfl (by decide)
        obtain ⟨b, hb, hb2⟩ := andm ((y : Int) / 65536) 1 1 rfl (by decide)
        have hyw : 0 ≤ (y : Int) := by omega
        have hy3 : (y : Int) ≤ 2147483647 := by omega
        have hbw : ((b : Int) + 48) % 256 = (b : Int) + 48 := by omega
        obtain ⟨bb, hbb⟩ : ∃ z : Nat, z = b + 48 := ⟨_, rfl⟩
        have hbb2 : (b : Int) + 48 = (bb : Int) := by omega
        have hbw2 : (bb : Int) % 256 = (bb : Int) := by omega
        have HY := Aside0.mk hy2
        have HBA := Aside0.mk (below_alloc (Below.refl wr.heap.size wr) (.cells #[.int .u8 (bb : Int)] 5))
        obtain ⟨xs, hfr, hxl⟩ := HF.out.t
        have hk' := HK.out
        have hs' := HSZ.out.2
        obtain ⟨A6, c6, e6, _⟩ := far_reads hfr (by omega)
        subst e6
        have HFR := Aside0.mk (hfr.below HBA.out)
        have HXL := Aside0.mk hxl
        have HLT := Aside0.mk hlt
        have hwi : IntKind.i64.wrap ((i : Int) + 1) = (i : Int) + 1 := IntWalk.i64_in _ (by omega)
        have hi2 : (i : Int) < 32767 := by omega
        clear hy2 hbb hfr hxl hlt hk' hs' hk
        go_wp2_with ((with_reducible refine gate_builtin (b := .append) (xs := #[.tmp 33, .tmp 39]) rfl ?_); at_builtin; go_must (refine far_app (W := W) rfl (.tmp 33) (.tmp 39) 28 5 rfl Try.underlying28 HI.info5 (.slice A6 xs.length c6) xs [(bb : Int)] ⟨wr.heap.size, 0, none⟩ 1 1 rfl rfl rfl ?aY HFR.out (by decide) ?aL ?_); (case aY => exact cell_one_new wr (.int .u8 (bb : Int)) 5); (case aL => have := HXL.out; have := HSZ.out.2; have := HLT.out; have := HK.out; omega); intro v1 w1 hf1; have HF1 := Aside0.mk hf1; clear hf1)
        have HF2 : Aside0 (FarI W w1 v1 (s.size + (i + 1))) := ⟨⟨_, HF1.out, by rw [List.length_append, HXL.out]; rfl⟩⟩
        go_roundw
        case rel => exact ⟨i + 1, y, by simp, HLT.out, rfl, HY.out, HF2⟩
        case measure => simp [intOf]; have := HLT.out; omega
      · have c1 : decide ((i : Int) < (k : Int)) = false := decide_eq_false (by omega)
        have c2 : decide (i < k) = false := decide_eq_false hlt
        obtain ⟨xs, hfr, hxl⟩ := HF.out.t
        have hk' := HK.out
        have hs' := HSZ.out
        have hxl2 : xs.length ≤ 33000 := by omega
        obtain ⟨A6, c6, e6, _⟩ := far_reads hfr (by omega)
        subst e6
        have HFR := Aside0.mk hfr
        have HXL := Aside0.mk hxl2
        clear hfr hxl hxl2 hlt hk' hs' hk hx hi
        go_upto_region 12 with ((with_reducible refine gate_builtin (b := .append) (xs := #[.tmp 41, .tmp 42]) rfl ?_); at_builtin; go_must (refine far_str (W := W) rfl (.tmp 41) (.tmp 42) 28 9 5 rfl Try.underlying28 Try.underlying9 HI.info5 (.slice A6 xs.length c6) xs s rfl rfl HFR.out ?aS ?aL ?_); (case aS => exact HSZ.out.1); (case aL => have := HXL.out; have := HSZ.out.2; omega); intro v1 w1 hf1; have HF1 := Aside0.mk hf1; clear hf1)
        obtain ⟨ys, hys⟩ : ∃ z, xs ++ bytesOf s = z := ⟨_, rfl⟩
        have hyl : ys.length ≤ 33200 := by rw [← hys, List.length_append, bytesOf_length]; have := HXL.out; have := HSZ.out; omega
        rw [hys] at HF1
        have HYL := Aside0.mk hyl
        obtain ⟨A7, c7, e7, hrd⟩ := far_reads HF1.out (by omega)
        subst e7
        have hcv := Kd.C_string (P := Try.prog) (A := A7) (c := c7) Try.underlying28 Try.underlying5 Try.underlying9 (Kd.C_of_reads hrd)
        obtain ⟨S, hS⟩ : ∃ S, strOfNums ys = S := ⟨_, rfl⟩
        rw [hS] at hcv
        have hSN : S.size = ys.length := by rw [← hS, strOfNums_size]
        have HB1 := Aside0.mk HF1.out.be
        have HRD := Aside0.mk hrd
        have HSN := Aside0.mk hSN
        have HS2 := Aside0.mk hS
        have H1 := Aside0.mk (fun W : World => deflate_ok S (by omega) W)
        clear hS hSN hys hyl hrd
        go_wp2_with fail
        refine (H1.out _).mono ?_
        rintro e w2 ⟨z, zs, zf, zd, b, rfl, hd, hb2⟩
        have HB2 := Aside0.mk (HB1.out.trans (hb2.mono HB1.out.size))
        have hS1 : S.size ≤ 33200 := by rw [HSN.out]; exact HYL.out
        have hz1 := far_size hS1 hd
        have HK1 := Aside0.mk (fun W : World => back_ok S z (by omega) (back_law (by omega) (Nat.le_refl _) hd) W)
        have hz2 : z.size ≤ ys.length + 5 := by rw [← HSN.out]; exact hz1
        have d1 : decide ((z.size : Int) ≤ (ys.length : Int) + 5) = true := decide_eq_true (by omega)
        have d2 : decide (z.size ≤ ys.length + 5) = true := decide_eq_true hz2
        have d3 : (z.size : Int) ≤ (ys.length : Int) + 5 := by omega
        have hyl : (ys.length : Int) ≤ 33200 := by have := HYL.out; omega
        have hcv2 := Kd.C_string (P := Try.prog) (A := A7) (c := c7) Try.underlying28 Try.underlying5 Try.underlying9 (Kd.C_of_reads (HRD.out.below hb2))
        rw [HS2.out] at hcv2
        clear hb2 hd hS1 hz1 hcv
        go_wp2_with fail
        refine (HK1.out _).mono ?_
        rintro e w3 ⟨rfl, hb3⟩
        have HB3 := Aside0.mk (HB2.out.trans (hb3.mono HB2.out.size))
        clear hb3
        go_wp2_with fail
        refine (HAW.out _).mono ?_
        rintro e w4 ⟨rfl, hb4⟩
        have HB4 := Aside0.mk (HB3.out.trans (hb4.mono HB3.out.size))
        clear hb4
        go_wp2_with fail
        go_ret
        exact ⟨rfl, HB4.out⟩
end Go.Proofs.Ytaghmhcccighgaa.DF
