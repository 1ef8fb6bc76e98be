/- InflateReads: walked. -/
import Derived.Test.YteffjbjhkaobfaaGK
namespace Go.Proofs.Yteffjbjhkaobfaa.IW
open Go.RowKit Go.Proofs.YteffjbjhkaobfaaW.PrintWords Go.Proofs.YteffjbjhkaobfaaW.PrintLast Go.Proofs.YteffjbjhkaobfaaW.PrintMore Go.Proofs.Yteffjbjhkaobfaa.HW Go.Proofs.Yteffjbjhkaobfaa.MB Go.Proofs.Yteffjbjhkaobfaa.Fn Go.Proofs.Yteffjbjhkaobfaa.HF Go.Proofs.Yteffjbjhkaobfaa.RT Go.Proofs.Yteffjbjhkaobfaa.RT.Rd Go.Proofs.Yteffjbjhkaobfaa.HP Go.Proofs.Yteffjbjhkaobfaa.HI
attribute [local go_sem] max2_int min2_int max_two min_two max_three min_three max_four min_four   -- for this text's walks alone
set_option maxRecDepth 100000 in
set_option maxHeartbeats 4000000 in
theorem ireads_walk (s : ByteArray) (hs : s.size ≤ 140737488351232) (most : Int) (_hmo : (Lit.int .i64 most).wf = true) (W : World) : Calls Try.prog 3 #[.string s, .int .i64 most] W fun e w' => e = .returned (.bool true) ∧ Below W.heap.size W w' := by
  have HAW := Aside0.mk awake_ok
  by_cases h : 8192 < s.size
  · have b1 : decide ((8192 : Int) < (s.size : Int)) = true := decide_eq_true (by omega)
    have b2 : decide (8192 < s.size) = true := decide_eq_true h
    clear h
    go_enter Try.func3, Try.ntmps3
    go_wp2_with fail
    refine (HAW.out _).mono ?_
    rintro e w1 ⟨rfl, hb1⟩
    have HB1 := Aside0.mk hb1
    clear hb1
    go_wp2_with fail
    go_ret
    exact ⟨rfl, HB1.out⟩
  · have b1 : decide ((8192 : Int) < (s.size : Int)) = false := decide_eq_false (by omega)
    have b2 : decide (8192 < s.size) = false := decide_eq_false h
    have H1 := Aside0.mk (fun W : World => inflateX s (by omega) most W)
    have H2 := Aside0.mk (fun W : World => rinflateQ s (by omega) most W)
    obtain ⟨A, hA⟩ : ∃ z, (inflR s most).1 = z := ⟨_, rfl⟩
    obtain ⟨n, hn⟩ : ∃ z, (inflR s most).2.1 = z := ⟨_, rfl⟩
    obtain ⟨er, her⟩ : ∃ z, (inflR s most).2.2 = z := ⟨_, rfl⟩
    rw [hA, hn, her] at H1 H2
    have e1 : decide (A = A) = true := decide_eq_true rfl
    have e2 : (n == n) = true := by simp
    have e3 : (er == er) = true := by simp
    clear h hA hn her
    go_enter Try.func3, Try.ntmps3
    go_wp2_with fail
    refine (H1.out _).mono ?_
    rintro e w1 ⟨rfl, hb1⟩
    have HB1 := Aside0.mk hb1
    clear hb1
    go_wp2_with fail
    refine (H2.out _).mono ?_
    rintro e w2 ⟨rfl, hb2⟩
    have HB2 := Aside0.mk (HB1.out.trans (hb2.mono HB1.out.size))
    clear hb2
    go_wp2_with fail
    refine (HAW.out _).mono ?_
    rintro e w3 ⟨rfl, hb3⟩
    have HB3 := Aside0.mk (HB2.out.trans (hb3.mono HB2.out.size))
    clear hb3
    go_wp2_with fail
    go_ret
    exact ⟨rfl, HB3.out⟩
end Go.Proofs.Yteffjbjhkaobfaa.IW
