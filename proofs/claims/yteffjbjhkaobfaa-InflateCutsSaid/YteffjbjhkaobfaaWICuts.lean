/- InflateCuts: walked. -/
import Derived.Test.YteffjbjhkaobfaaPLawI
namespace Go.Proofs.Yteffjbjhkaobfaa.IW
open Go.RowKit Go.Proofs.YteffjbjhkaobfaaW.PrintWords Go.Proofs.YteffjbjhkaobfaaW.PrintLast Go.Proofs.YteffjbjhkaobfaaW.PrintMore Go.Proofs.Yteffjbjhkaobfaa.HW Go.Proofs.Yteffjbjhkaobfaa.MB Go.Proofs.Yteffjbjhkaobfaa.Fn Go.Proofs.Yteffjbjhkaobfaa.HF Go.Proofs.Yteffjbjhkaobfaa.RT Go.Proofs.Yteffjbjhkaobfaa.RT.Rd Go.Proofs.Yteffjbjhkaobfaa.HP Go.Proofs.Yteffjbjhkaobfaa.HI
attribute [local go_sem] max2_int min2_int max_two min_two max_three min_three max_four min_four   -- for this text's walks alone
set_option maxRecDepth 100000 in
set_option maxHeartbeats 4000000 in
theorem icuts_walk (s : ByteArray) (hs : s.size ≤ 140737488351232) (x : Int) (_hx : (Lit.int .i64 x).wf = true) (W : World) : Calls Try.prog 8 #[.string s, .int .i64 x] W fun e w' => e = .returned (.bool true) ∧ Below W.heap.size W w' := by
  have HAW := Aside0.mk awake_ok
  by_cases h : 8192 < s.size
  · have a1 : decide ((8192 : Int) < (s.size : Int)) = true := decide_eq_true (by omega)
    have a2 : decide (8192 < s.size) = true := decide_eq_true (by omega)
    clear h
    go_enter Try.func8, Try.ntmps8
    go_wp2_with fail
    refine (HAW.out _).mono ?_
    rintro e w1 ⟨rfl, hb⟩
    have Hw1 := Aside0.mk hb
    clear hb
    go_wp2_with fail
    go_ret
    exact ⟨rfl, Hw1.out⟩
  · have a1 : decide ((8192 : Int) < (s.size : Int)) = false := decide_eq_false (by omega)
    have a2 : decide (8192 < s.size) = false := decide_eq_false (by omega)
    have H1 := Aside0.mk (fun W : World => inflateX s (by omega) 1048576 W)
    have H2 := Aside0.mk (fun W : World => rinflateQ s (by omega) 1048576 W)
    have hall : inflR s 1048576 = ((inflR s 1048576).1, (inflR s 1048576).2.1, (inflR s 1048576).2.2) := rfl
    obtain ⟨A, hA⟩ : ∃ z, (inflR s 1048576).1 = z := ⟨_, rfl⟩
    obtain ⟨n, hn⟩ : ∃ z, (inflR s 1048576).2.1 = z := ⟨_, rfl⟩
    obtain ⟨er, her⟩ : ∃ z, (inflR s 1048576).2.2 = z := ⟨_, rfl⟩
    rw [hA, hn, her] at H1 H2 hall
    by_cases he : er = 0
    · subst he
      obtain ⟨N, rfl, hN1, hN, hcu⟩ := cut_law hall
      have d1 : decide ((N : Int) < 1) = false := decide_eq_false (by omega)
      have d1a : ¬ (N : Int) < 1 := by omega
      have d2 : decide ((s.size : Int) < (N : Int)) = false := decide_eq_false (by omega)
      have d2a : ¬ (s.size : Int) < (N : Int) := by omega
      have d2b : decide (s.size < N) = false := decide_eq_false (by omega)
      have d2c : ¬ s.size < N := by omega
      obtain ⟨k0, hk0⟩ : ∃ z, Int.tmod x (N : Int) = z := ⟨_, rfl⟩
      have hkb : -(N : Int) < k0 ∧ k0 < (N : Int) := by
        rw [← hk0]
        have h1 := Int.tmod_lt_of_pos x (b := (N : Int)) (by omega)
        have h2 := Int.lt_tmod_of_pos x (b := (N : Int)) (by omega)
        omega
      have hwk : IntKind.i64.wrap k0 = k0 := IntWalk.i64_in _ (by omega)
      have z1 : decide ((N : Int) = 0) = false := decide_eq_false (by omega)
      have z2 : ((N : Int) == 0) = false := by rw [beq_eq_false_iff_ne]; omega
      have z3 : ¬ (N : Int) = 0 := by omega
      have z5 : decide (N = 0) = false := decide_eq_false (by omega)
      have z6 : (N == 0) = false := by rw [beq_eq_false_iff_ne]; omega
      by_cases hneg : k0 < 0
      · have g1 : decide (k0 < 0) = true := decide_eq_true hneg
        obtain ⟨k, hk⟩ : ∃ k : Nat, -k0 = (k : Int) := ⟨(-k0).toNat, by omega⟩
        have g2 : IntKind.i64.wrap (0 - k0) = (k : Int) := by rw [IntWalk.i64_in _ (by omega)]; omega
        have g3 : IntKind.i64.wrap (-k0) = (k : Int) := by rw [IntWalk.i64_in _ (by omega)]; omega
        have hks : k ≤ s.size := by omega
        have H3 := Aside0.mk (fun W : World => inflateX (s.extract 0 k) (by rw [ByteArray.size_extract]; omega) 1048576 W)
        rw [hcu k (by omega)] at H3
        have q1 : (0 : Int) ≤ (k : Int) := by omega
        have q2 : (k : Int) ≤ (s.size : Int) := by omega
        clear hall hA hn her h hcu hkb
        try clear hneg
        try clear hk
        go_enter Try.func8, Try.ntmps8
        go_wp2_with fail
        refine (H1.out _).mono ?_
        rintro e w1 ⟨rfl, hb⟩
        have Hw1 := Aside0.mk hb
        clear hb
        go_wp2_with fail
        refine (H3.out _).mono ?_
        rintro e w2 ⟨rfl, hb⟩
        have Hw2 := Aside0.mk (Hw1.out.trans (hb.mono Hw1.out.size))
        clear hb
        go_wp2_with fail
        refine (HAW.out _).mono ?_
        rintro e w3 ⟨rfl, hb⟩
        have Hw3 := Aside0.mk (Hw2.out.trans (hb.mono Hw2.out.size))
        clear hb
        go_wp2_with fail
        go_ret
        exact ⟨rfl, Hw3.out⟩
      · have g1 : decide (k0 < 0) = false := decide_eq_false hneg
        obtain ⟨k, rfl⟩ : ∃ k : Nat, k0 = (k : Int) := ⟨k0.toNat, by omega⟩
        have hks : k ≤ s.size := by omega
        have H3 := Aside0.mk (fun W : World => inflateX (s.extract 0 k) (by rw [ByteArray.size_extract]; omega) 1048576 W)
        rw [hcu k (by omega)] at H3
        have q1 : (0 : Int) ≤ (k : Int) := by omega
        have q2 : (k : Int) ≤ (s.size : Int) := by omega
        clear hall hA hn her h hcu hkb
        try clear hneg
        try clear hk
        go_enter Try.func8, Try.ntmps8
        go_wp2_with fail
        refine (H1.out _).mono ?_
        rintro e w1 ⟨rfl, hb⟩
        have Hw1 := Aside0.mk hb
        clear hb
        go_wp2_with fail
        refine (H3.out _).mono ?_
        rintro e w2 ⟨rfl, hb⟩
        have Hw2 := Aside0.mk (Hw1.out.trans (hb.mono Hw1.out.size))
        clear hb
        go_wp2_with fail
        refine (HAW.out _).mono ?_
        rintro e w3 ⟨rfl, hb⟩
        have Hw3 := Aside0.mk (Hw2.out.trans (hb.mono Hw2.out.size))
        clear hb
        go_wp2_with fail
        go_ret
        exact ⟨rfl, Hw3.out⟩
    · have b3 : (er == 0) = false := by rw [beq_eq_false_iff_ne]; exact he
      have b4 : decide (er = 0) = false := decide_eq_false he
      have b5 : decide (er = er) = true := decide_eq_true rfl
      have b6 : (er == er) = true := by rw [beq_iff_eq]
      clear hall hA hn her
      go_enter Try.func8, Try.ntmps8
      go_wp2_with fail
      refine (H1.out _).mono ?_
      rintro e w1 ⟨rfl, hb⟩
      have Hw1 := Aside0.mk hb
      clear hb
      go_wp2_with fail
      refine (H2.out _).mono ?_
      rintro e w2 ⟨rfl, hb⟩
      have Hw2 := Aside0.mk (Hw1.out.trans (hb.mono Hw1.out.size))
      clear hb
      go_wp2_with fail
      refine (HAW.out _).mono ?_
      rintro e w3 ⟨rfl, hb⟩
      have Hw3 := Aside0.mk (Hw2.out.trans (hb.mono Hw2.out.size))
      clear hb
      go_wp2_with fail
      go_ret
      have hne : (er != 0) = true := by rw [bne_iff_ne]; exact he
      refine ⟨?_, Hw3.out⟩
      show Ending.returned (.bool (er != 0)) = _
      rw [hne]
end Go.Proofs.Yteffjbjhkaobfaa.IW
