/- InflateMost: walked. -/
import Derived.Test.YteffjbjhkaobfaaPLawI
namespace Go.Proofs.Yteffjbjhkaobfaa.IW
open Go.RowKit Go.Proofs.YteffjbjhkaobfaaW.PrintWords Go.Proofs.YteffjbjhkaobfaaW.PrintLast Go.Proofs.YteffjbjhkaobfaaW.PrintMore Go.Proofs.Yteffjbjhkaobfaa.HW Go.Proofs.Yteffjbjhkaobfaa.MB Go.Proofs.Yteffjbjhkaobfaa.Fn Go.Proofs.Yteffjbjhkaobfaa.HF Go.Proofs.Yteffjbjhkaobfaa.RT Go.Proofs.Yteffjbjhkaobfaa.RT.Rd Go.Proofs.Yteffjbjhkaobfaa.HP Go.Proofs.Yteffjbjhkaobfaa.HI
attribute [local go_sem] max2_int min2_int max_two min_two max_three min_three max_four min_four   -- for this text's walks alone
set_option maxRecDepth 100000 in
set_option maxHeartbeats 4000000 in
theorem imost_walk (s : ByteArray) (hs : s.size ≤ 140737488351232) (x : Int) (_hx : (Lit.int .i64 x).wf = true) (W : World) : Calls Try.prog 5 #[.string s, .int .i64 x] W fun e w' => e = .returned (.bool true) ∧ Below W.heap.size W w' := by
  have HAW := Aside0.mk awake_ok
  by_cases h : 8192 < s.size
  · have a1 : decide ((8192 : Int) < (s.size : Int)) = true := decide_eq_true (by omega)
    have a2 : decide (8192 < s.size) = true := decide_eq_true (by omega)
    clear h
    go_enter Try.func5, Try.ntmps5
    go_wp2_with fail
    refine (HAW.out _).mono ?_
    rintro e w1 ⟨rfl, hb⟩
    have Hw1 := Aside0.mk hb
    clear hb
    go_wp2_with fail
    go_ret
    exact ⟨rfl, Hw1.out⟩
  · have a1 : decide ((8192 : Int) < (s.size : Int)) = false := decide_eq_false (by omega)
    have a2 : decide (8192 < s.size) = false := decide_eq_false (by omega)
    have H1 := Aside0.mk (fun W : World => inflateX s (by omega) 1048576 W)
    have H2 := Aside0.mk (fun W : World => rinflateQ s (by omega) 1048576 W)
    have hall : inflR s 1048576 = ((inflR s 1048576).1, (inflR s 1048576).2.1, (inflR s 1048576).2.2) := rfl
    obtain ⟨A, hA⟩ : ∃ z, (inflR s 1048576).1 = z := ⟨_, rfl⟩
    obtain ⟨n, hn⟩ : ∃ z, (inflR s 1048576).2.1 = z := ⟨_, rfl⟩
    obtain ⟨er, her⟩ : ∃ z, (inflR s 1048576).2.2 = z := ⟨_, rfl⟩
    rw [hA, hn, her] at H1 H2 hall
    by_cases he : er = 0
    · subst he
      obtain ⟨⟨hL, hml⟩, hmk⟩ := most_law hall
      have H3 := Aside0.mk (fun W : World => inflateX s (by omega) (A.size : Int) W)
      rw [hml] at H3
      have e1 : decide (A = A) = true := decide_eq_true rfl
      have e2 : decide (n = n) = true := decide_eq_true rfl
      have e3 : (n == n) = true := by rw [beq_iff_eq]
      by_cases h0 : A.size = 0
      · have z1 : decide ((A.size : Int) = 0) = true := decide_eq_true (by omega)
        have z2 : ((A.size : Int) == 0) = true := by rw [beq_iff_eq]; omega
        have z3 : decide (A.size = 0) = true := decide_eq_true h0
        have z4 : (A.size == 0) = true := by rw [beq_iff_eq]; exact h0
        clear hall hA hn her h hL hml hmk h0
        go_enter Try.func5, Try.ntmps5
        go_wp2_with fail
        refine (H1.out _).mono ?_
        rintro e w1 ⟨rfl, hb⟩
        have Hw1 := Aside0.mk hb
        clear hb
        go_wp2_with fail
        refine (H3.out _).mono ?_
        rintro e w2 ⟨rfl, hb⟩
        have Hw2 := Aside0.mk (Hw1.out.trans (hb.mono Hw1.out.size))
        clear hb
        go_wp2_with fail
        refine (HAW.out _).mono ?_
        rintro e w3 ⟨rfl, hb⟩
        have Hw3 := Aside0.mk (Hw2.out.trans (hb.mono Hw2.out.size))
        clear hb
        go_wp2_with fail
        go_ret
        exact ⟨rfl, Hw3.out⟩
      · obtain ⟨k0, hk0⟩ : ∃ z, Int.tmod x (A.size : Int) = z := ⟨_, rfl⟩
        have hkb : -(A.size : Int) < k0 ∧ k0 < (A.size : Int) := by
          rw [← hk0]
          have h1 := Int.tmod_lt_of_pos x (b := (A.size : Int)) (by omega)
          have h2 := Int.lt_tmod_of_pos x (b := (A.size : Int)) (by omega)
          omega
        have hwk : IntKind.i64.wrap k0 = k0 := IntWalk.i64_in _ (by omega)
        have z1 : decide ((A.size : Int) = 0) = false := decide_eq_false (by omega)
        have z2 : ((A.size : Int) == 0) = false := by rw [beq_eq_false_iff_ne]; omega
        have z3 : ¬ (A.size : Int) = 0 := by omega
        have z5 : decide (A.size = 0) = false := decide_eq_false h0
        have z6 : (A.size == 0) = false := by rw [beq_eq_false_iff_ne]; exact h0
        have z7 : ¬ A = ByteArray.empty := fun h => h0 (by rw [h]; rfl)
        have z8 : decide (A = ByteArray.empty) = false := decide_eq_false z7
        have z9 : ¬ A.size = 0 := h0
        by_cases hneg : k0 < 0
        · have g1 : decide (k0 < 0) = true := decide_eq_true hneg
          obtain ⟨k, hk⟩ : ∃ k : Nat, -k0 = (k : Int) := ⟨(-k0).toNat, by omega⟩
          have g2 : IntKind.i64.wrap (0 - k0) = (k : Int) := by rw [IntWalk.i64_in _ (by omega)]; omega
          have g3 : IntKind.i64.wrap (-k0) = (k : Int) := by rw [IntWalk.i64_in _ (by omega)]; omega
          have H4 := Aside0.mk (fun W : World => inflateX s (by omega) (k : Int) W)
          rw [hmk k (by omega)] at H4
          clear hall hA hn her h hL hml hmk h0 hkb
          try clear hneg
          try clear hk
          go_enter Try.func5, Try.ntmps5
          go_wp2_with fail
          refine (H1.out _).mono ?_
          rintro e w1 ⟨rfl, hb⟩
          have Hw1 := Aside0.mk hb
          clear hb
          go_wp2_with fail
          refine (H3.out _).mono ?_
          rintro e w2 ⟨rfl, hb⟩
          have Hw2 := Aside0.mk (Hw1.out.trans (hb.mono Hw1.out.size))
          clear hb
          go_wp2_with fail
          refine (H4.out _).mono ?_
          rintro e w3 ⟨rfl, hb⟩
          have Hw3 := Aside0.mk (Hw2.out.trans (hb.mono Hw2.out.size))
          clear hb
          go_wp2_with fail
          refine (HAW.out _).mono ?_
          rintro e w4 ⟨rfl, hb⟩
          have Hw4 := Aside0.mk (Hw3.out.trans (hb.mono Hw3.out.size))
          clear hb
          go_wp2_with fail
          go_ret
          exact ⟨rfl, Hw4.out⟩
        · have g1 : decide (k0 < 0) = false := decide_eq_false hneg
          obtain ⟨k, rfl⟩ : ∃ k : Nat, k0 = (k : Int) := ⟨k0.toNat, by omega⟩
          have H4 := Aside0.mk (fun W : World => inflateX s (by omega) (k : Int) W)
          rw [hmk k (by omega)] at H4
          clear hall hA hn her h hL hml hmk h0 hkb
          try clear hneg
          try clear hk
          go_enter Try.func5, Try.ntmps5
          go_wp2_with fail
          refine (H1.out _).mono ?_
          rintro e w1 ⟨rfl, hb⟩
          have Hw1 := Aside0.mk hb
          clear hb
          go_wp2_with fail
          refine (H3.out _).mono ?_
          rintro e w2 ⟨rfl, hb⟩
          have Hw2 := Aside0.mk (Hw1.out.trans (hb.mono Hw1.out.size))
          clear hb
          go_wp2_with fail
          refine (H4.out _).mono ?_
          rintro e w3 ⟨rfl, hb⟩
          have Hw3 := Aside0.mk (Hw2.out.trans (hb.mono Hw2.out.size))
          clear hb
          go_wp2_with fail
          refine (HAW.out _).mono ?_
          rintro e w4 ⟨rfl, hb⟩
          have Hw4 := Aside0.mk (Hw3.out.trans (hb.mono Hw3.out.size))
          clear hb
          go_wp2_with fail
          go_ret
          exact ⟨rfl, Hw4.out⟩
    · have b3 : (er == 0) = false := by rw [beq_eq_false_iff_ne]; exact he
      have b4 : decide (er = 0) = false := decide_eq_false he
      have b5 : decide (er = er) = true := decide_eq_true rfl
      have b6 : (er == er) = true := by rw [beq_iff_eq]
      clear hall hA hn her he
      go_enter Try.func5, Try.ntmps5
      go_wp2_with fail
      refine (H1.out _).mono ?_
      rintro e w1 ⟨rfl, hb⟩
      have Hw1 := Aside0.mk hb
      clear hb
      go_wp2_with fail
      refine (H2.out _).mono ?_
      rintro e w2 ⟨rfl, hb⟩
      have Hw2 := Aside0.mk (Hw1.out.trans (hb.mono Hw1.out.size))
      clear hb
      go_wp2_with fail
      refine (HAW.out _).mono ?_
      rintro e w3 ⟨rfl, hb⟩
      have Hw3 := Aside0.mk (Hw2.out.trans (hb.mono Hw2.out.size))
      clear hb
      go_wp2_with fail
      go_ret
      exact ⟨rfl, Hw3.out⟩
end Go.Proofs.Yteffjbjhkaobfaa.IW
