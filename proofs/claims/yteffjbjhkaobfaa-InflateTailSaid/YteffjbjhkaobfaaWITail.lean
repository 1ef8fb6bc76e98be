/- InflateTail: walked. -/
import Derived.Test.YteffjbjhkaobfaaPLawI
namespace Go.Proofs.Yteffjbjhkaobfaa.IW
open Go.RowKit Go.Proofs.YteffjbjhkaobfaaW.PrintWords Go.Proofs.YteffjbjhkaobfaaW.PrintLast Go.Proofs.YteffjbjhkaobfaaW.PrintMore Go.Proofs.Yteffjbjhkaobfaa.HW Go.Proofs.Yteffjbjhkaobfaa.MB Go.Proofs.Yteffjbjhkaobfaa.Fn Go.Proofs.Yteffjbjhkaobfaa.HF Go.Proofs.Yteffjbjhkaobfaa.RT Go.Proofs.Yteffjbjhkaobfaa.RT.Rd Go.Proofs.Yteffjbjhkaobfaa.HP Go.Proofs.Yteffjbjhkaobfaa.HI
attribute [local go_sem] max2_int min2_int max_two min_two max_three min_three max_four min_four   -- for this text's walks alone
set_option maxRecDepth 100000 in
set_option maxHeartbeats 4000000 in
theorem itail_walk (s : ByteArray) (hs : s.size ≤ 140737488351232) (t : ByteArray) (ht : t.size ≤ 140737488351232) (W : World) : Calls Try.prog 4 #[.string s, .string t] W fun e w' => e = .returned (.bool true) ∧ Below W.heap.size W w' := by
  have HAW := Aside0.mk awake_ok
  by_cases h : 8192 < s.size
  · have a1 : decide ((8192 : Int) < (s.size : Int)) = true := decide_eq_true (by omega)
    have a2 : decide (8192 < s.size) = true := decide_eq_true (by omega)
    clear h
    go_enter Try.func4, Try.ntmps4
    go_wp2_with fail
    refine (HAW.out _).mono ?_
    rintro e w1 ⟨rfl, hb⟩
    have Hw1 := Aside0.mk hb
    clear hb
    go_wp2_with fail
    go_ret
    exact ⟨rfl, Hw1.out⟩
  · have a1 : decide ((8192 : Int) < (s.size : Int)) = false := decide_eq_false (by omega)
    have a2 : decide (8192 < s.size) = false := decide_eq_false (by omega)
    by_cases h2 : 8192 < t.size
    · have c1 : decide ((8192 : Int) < (t.size : Int)) = true := decide_eq_true (by omega)
      have c2 : decide (8192 < t.size) = true := decide_eq_true (by omega)
      clear h h2
      go_enter Try.func4, Try.ntmps4
      go_wp2_with fail
      refine (HAW.out _).mono ?_
      rintro e w1 ⟨rfl, hb⟩
      have Hw1 := Aside0.mk hb
      clear hb
      go_wp2_with fail
      go_ret
      exact ⟨rfl, Hw1.out⟩
    · have c1 : decide ((8192 : Int) < (t.size : Int)) = false := decide_eq_false (by omega)
      have c2 : decide (8192 < t.size) = false := decide_eq_false (by omega)
      have H1 := Aside0.mk (fun W : World => inflateX s (by omega) 1048576 W)
      have H2 := Aside0.mk (fun W : World => rinflateQ s (by omega) 1048576 W)
      have hall : inflR s 1048576 = ((inflR s 1048576).1, (inflR s 1048576).2.1, (inflR s 1048576).2.2) := rfl
      obtain ⟨A, hA⟩ : ∃ z, (inflR s 1048576).1 = z := ⟨_, rfl⟩
      obtain ⟨n, hn⟩ : ∃ z, (inflR s 1048576).2.1 = z := ⟨_, rfl⟩
      obtain ⟨er, her⟩ : ∃ z, (inflR s 1048576).2.2 = z := ⟨_, rfl⟩
      rw [hA, hn, her] at H1 H2 hall
      by_cases he : er = 0
      · subst he
        obtain ⟨N, rfl, hN, htl⟩ := tail_law hall
        have H3 := Aside0.mk (fun W : World => inflateX (s.extract 0 N ++ t) (by rw [ByteArray.size_append, ByteArray.size_extract]; omega) 1048576 W)
        rw [htl t] at H3
        have d1 : decide ((N : Int) < 0) = false := decide_eq_false (by omega)
        have d1a : ¬ (N : Int) < 0 := by omega
        have d2 : decide ((s.size : Int) < (N : Int)) = false := decide_eq_false (by omega)
        have d2a : ¬ (s.size : Int) < (N : Int) := by omega
        have d2b : decide (s.size < N) = false := decide_eq_false (by omega)
        have d2c : ¬ s.size < N := by omega
        have q1 : (0 : Int) ≤ (N : Int) := by omega
        have q2 : (N : Int) ≤ (s.size : Int) := by omega
        have e1 : decide (A = A) = true := decide_eq_true rfl
        clear hall hA hn her h h2 htl
        go_enter Try.func4, Try.ntmps4
        go_wp2_with fail
        refine (H1.out _).mono ?_
        rintro e w1 ⟨rfl, hb⟩
        have Hw1 := Aside0.mk hb
        clear hb
        go_wp2_with fail
        refine (H3.out _).mono ?_
        rintro e w2 ⟨rfl, hb⟩
        have Hw2 := Aside0.mk (Hw1.out.trans (hb.mono Hw1.out.size))
        clear hb
        go_wp2_with fail
        refine (HAW.out _).mono ?_
        rintro e w3 ⟨rfl, hb⟩
        have Hw3 := Aside0.mk (Hw2.out.trans (hb.mono Hw2.out.size))
        clear hb
        go_wp2_with fail
        go_ret
        exact ⟨rfl, Hw3.out⟩
      · have b3 : (er == 0) = false := by rw [beq_eq_false_iff_ne]; exact he
        have b4 : decide (er = 0) = false := decide_eq_false he
        have b5 : decide (er = er) = true := decide_eq_true rfl
        have b6 : (er == er) = true := by rw [beq_iff_eq]
        clear hall hA hn her he
        go_enter Try.func4, Try.ntmps4
        go_wp2_with fail
        refine (H1.out _).mono ?_
        rintro e w1 ⟨rfl, hb⟩
        have Hw1 := Aside0.mk hb
        clear hb
        go_wp2_with fail
        refine (H2.out _).mono ?_
        rintro e w2 ⟨rfl, hb⟩
        have Hw2 := Aside0.mk (Hw1.out.trans (hb.mono Hw1.out.size))
        clear hb
        go_wp2_with fail
        refine (HAW.out _).mono ?_
        rintro e w3 ⟨rfl, hb⟩
        have Hw3 := Aside0.mk (Hw2.out.trans (hb.mono Hw2.out.size))
        clear hb
        go_wp2_with fail
        go_ret
        exact ⟨rfl, Hw3.out⟩
end Go.Proofs.Yteffjbjhkaobfaa.IW
