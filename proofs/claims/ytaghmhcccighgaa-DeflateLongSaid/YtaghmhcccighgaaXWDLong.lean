/- DeflateLong: walked. -/
import Derived.Test.YtaghmhcccighgaaK21
namespace Go.Proofs.Ytaghmhcccighgaa.DF
open Go.RowKit Go.Proofs.YtaghmhcccighgaaW.PrintWords Go.Proofs.YtaghmhcccighgaaW.PrintLast Go.Proofs.YtaghmhcccighgaaW.PrintMore Go.Proofs.Ytaghmhcccighgaa.HW Go.Proofs.Ytaghmhcccighgaa.MB Go.Proofs.Ytaghmhcccighgaa.Fn Go.Proofs.Ytaghmhcccighgaa.HF Go.Proofs.Ytaghmhcccighgaa.RT Go.Proofs.Ytaghmhcccighgaa.RT.Rd Go.Proofs.Ytaghmhcccighgaa.HP Go.Proofs.Ytaghmhcccighgaa.HI Go.Proofs.Ytaghmhcccighgaa.IW
attribute [local go_sem] max2_int min2_int max_two min_two max_three min_three max_four min_four   -- for this text's walks alone
theorem stoL_full : ∀ (j k : Nat) (s : ByteArray), j < k → 65535 * j < s.size → s.size ≤ 65535 * (j + 1) → (stoL k s).length = s.size + 5 * (j + 1)
  | 0, 0, _, h, _, _ => absurd h (by omega)
  | j + 1, 0, _, h, _, _ => absurd h (by omega)
  | 0, k + 1, s, _, _, h2 => by
    unfold stoL
    rw [if_pos (by omega), blkL_len]
    omega
  | j + 1, k + 1, s, h, h1, h2 => by
    unfold stoL
    have e1 : (s.extract 0 65535).size = 65535 := by rw [ByteArray.size_extract]; omega
    have e2 : (s.extract 65535 s.size).size = s.size - 65535 := by rw [ByteArray.size_extract]; omega
    rw [if_neg (by omega), List.length_append, blkL_len, stoL_full j k _ (by omega) (by rw [e2]; omega) (by rw [e2]; omega), e1, e2]
    omega
theorem sto_long {s z : ByteArray} (hs : s.size = 1048576) (hz : STold z (stoF 17 s)) : z.size = 1048661 := by
  have h1 := congrArg List.length (sto_bytes hz)
  rw [bytesOf_length, stoL_full 16 17 s (by decide) (by omega) (by omega), hs] at h1
  exact h1
theorem and15 (n : Int) : ∃ k : Nat, Go.bits .and .i64 n 15 = (k : Int) ∧ k ≤ 15 := by
  refine ⟨(BitVec.ofInt 64 n).toNat &&& 15, ?_, Nat.and_le_right⟩
  have hle : (BitVec.ofInt 64 n).toNat &&& 15 ≤ 15 := Nat.and_le_right
  have e1 : (BitVec.ofInt 64 n &&& BitVec.ofInt 64 ((15 : Nat) : Int)).toNat = (BitVec.ofInt 64 n).toNat &&& 15 := by
    rw [BitVec.toNat_and, BitVec.ofInt_natCast, BitVec.toNat_ofNat, Nat.mod_eq_of_lt (by omega)]
  show IntKind.i64.wrap ((BitVec.ofInt 64 n &&& BitVec.ofInt 64 ((15 : Nat) : Int)).toNat : Int) = _
  rw [e1]
  exact wraps_i64 _ (Int.natCast_nonneg _) (cast_lt_two_pow (by omega))
set_option maxRecDepth 100000 in
set_option maxHeartbeats 4000000 in
theorem dlong_walk (more : Int) (_hw : (Lit.int .i64 more).wf = true) (W : World) : Calls Try.prog 6 #[.int .i64 more] W fun e w' => e = .returned (.bool true) ∧ Below W.heap.size W w' := by
  have HAW := Aside0.mk awake_ok
  obtain ⟨k, hk, hk2⟩ := and15 more
  obtain ⟨n, hn⟩ : ∃ n : Nat, n = 1048576 + k := ⟨_, rfl⟩
  have hw : wrap64 (1048576 + (k : Int)) = (n : Int) := by unfold wrap64; omega
  have hn2 : n ≤ 1048591 := by omega
  have hnn : 0 ≤ (n : Int) := by omega
  have B0 := Below.refl W.heap.size W
  have HB0 := Aside0.mk B0
  have HNK := Aside0.mk hn
  clear B0 hn hk2
  go_enter Try.func6, Try.ntmps6
  go_wp2_with ((with_reducible refine gate_dst (N := 15) rfl ?_); go_must (refine Kd.R_make (Kd.int .u8) (w0 := W) W.heap.size 5 rfl (N := 15) rfl 28 _ _ rfl (n : Int) (congrArg (Value.int .i64) hw) (congrArg (Value.int .i64) hw) Try.underlying28 (.int .u8 0) 1 HW.info5 rfl (by decide) (by decide) 0 (ok := fun _ => True) (okp := fun _ => True) rfl (fun _ hk => hk) trivial hnn (by omega) HB0.out (Nat.le_refl _) ?_); intro v5 w5 ho hb hg hnew; have HB5 := Aside0.mk hb; rw [Int.toNat_natCast] at ho; obtain ⟨zs, hzs⟩ : ∃ zs, List.replicate n (0 : Int) = zs := ⟨_, rfl⟩; rw [hzs] at ho; obtain ⟨A5, c5, e5⟩ := Kd.R_slice ho; subst e5; have hcv := Kd.C_string (P := Try.prog) (A := A5) (c := c5) Try.underlying28 Try.underlying5 Try.underlying9 (Kd.R_reads' ho).2.2; obtain ⟨S, hS⟩ : ∃ S, strOfNums zs = S := ⟨_, rfl⟩; rw [hS] at hcv; have HSN : Aside0 (S.size = n) := ⟨by rw [← hS, ← hzs, strOfNums_size, List.length_replicate]⟩; clear ho hb hg hnew hzs hS)
  by_cases h0 : n = 1048576
  · have b1 : decide ((1048576 : Int) < (n : Int)) = false := decide_eq_false (by omega)
    have b2 : decide (1048576 < n) = false := decide_eq_false (by omega)
    have HN0 := Aside0.mk h0
    clear h0
    have H1 := Aside0.mk (fun W : World => stored_ok S (by have := HN0.out; have := HSN.out; omega) W)
    refine (H1.out _).mono ?_
    rintro e w6 ⟨z, rfl, hz, hb6⟩
    have HB6 := Aside0.mk (HB5.out.trans (hb6.mono HB5.out.size))
    have hzz : z.size = 1048661 := sto_long (by rw [HSN.out, HN0.out]) hz
    have HZ := Aside0.mk hzz
    have hw2 : (n : Int) + 85 = (z.size : Int) := by have := HN0.out; omega
    clear hb6 hz hzz
    go_wp2_with fail
    refine (HAW.out _).mono ?_
    rintro e w7 ⟨rfl, hb7⟩
    have HB7 := Aside0.mk (HB6.out.trans (hb7.mono HB6.out.size))
    clear hb7
    go_wp2_with fail
    go_ret
    exact ⟨rfl, HB7.out⟩
  · have hlt : 1048576 < n := by have := HNK.out; omega
    have b1 : decide ((1048576 : Int) < (n : Int)) = true := decide_eq_true (by omega)
    have b2 : decide (1048576 < n) = true := decide_eq_true hlt
    have hS1 : 1048576 < S.size := by rw [HSN.out]; exact hlt
    have H1 := Aside0.mk (fun W : World => stored_long S hS1 W)
    have H2 := Aside0.mk (fun W : World => deflate_long S hS1 W)
    have H3 := Aside0.mk (fun W : World => fixed_long S hS1 W)
    clear hS1 hlt h0
    refine (H1.out _).mono ?_
    rintro e w6 ⟨rfl, rfl⟩
    go_wp2_with fail
    refine (H2.out _).mono ?_
    rintro e w6 ⟨rfl, rfl⟩
    go_wp2_with fail
    refine (H3.out _).mono ?_
    rintro e w6 ⟨rfl, rfl⟩
    go_wp2_with fail
    refine (HAW.out _).mono ?_
    rintro e w7 ⟨rfl, hb7⟩
    have HB7 := Aside0.mk (HB5.out.trans (hb7.mono HB5.out.size))
    clear hb7
    go_wp2_with fail
    go_ret
    exact ⟨rfl, HB7.out⟩
end Go.Proofs.Ytaghmhcccighgaa.DF
