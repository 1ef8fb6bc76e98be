/- DeflateBack: walked. -/
import Derived.Test.YtaghmhcccighgaaXPBkD
import Derived.Test.YtaghmhcccighgaaXHBkD
namespace Go.Proofs.Ytaghmhcccighgaa.DF
open Go.RowKit Go.Proofs.YtaghmhcccighgaaW.PrintWords Go.Proofs.YtaghmhcccighgaaW.PrintLast Go.Proofs.YtaghmhcccighgaaW.PrintMore Go.Proofs.Ytaghmhcccighgaa.HW Go.Proofs.Ytaghmhcccighgaa.MB Go.Proofs.Ytaghmhcccighgaa.Fn Go.Proofs.Ytaghmhcccighgaa.HF Go.Proofs.Ytaghmhcccighgaa.RT Go.Proofs.Ytaghmhcccighgaa.RT.Rd Go.Proofs.Ytaghmhcccighgaa.HP Go.Proofs.Ytaghmhcccighgaa.HI Go.Proofs.Ytaghmhcccighgaa.IW
attribute [local go_sem] max2_int min2_int max_two min_two max_three min_three max_four min_four   -- for this text's walks alone
set_option maxRecDepth 100000 in
set_option maxHeartbeats 4000000 in
theorem dback_walk (s : ByteArray) (hs : s.size ≤ 140737488351232) (W : World) : Calls Try.prog 3 #[.string s] W fun e w' => e = .returned (.bool true) ∧ Below W.heap.size W w' := by
  have HAW := Aside0.mk awake_ok
  by_cases h : 4096 < s.size
  · have b1 : decide ((4096 : Int) < (s.size : Int)) = true := decide_eq_true (by omega)
    have b2 : decide (4096 < s.size) = true := decide_eq_true h
    clear h
    go_enter Try.func3, Try.ntmps3
    go_wp2_with fail
    refine (HAW.out _).mono ?_
    rintro e w1 ⟨rfl, hb1⟩
    have HB1 := Aside0.mk hb1
    clear hb1
    go_wp2_with fail
    go_ret
    exact ⟨rfl, HB1.out⟩
  · have b1 : decide ((4096 : Int) < (s.size : Int)) = false := decide_eq_false (by omega)
    have b2 : decide (4096 < s.size) = false := decide_eq_false h
    have hl : s.size ≤ 4096 := by omega
    have H1 := Aside0.mk (fun W : World => deflate_ok s (by omega) W)
    have H2 := Aside0.mk (fun W : World => stored_ok s (by omega) W)
    have H3 := Aside0.mk (fun W : World => fixedS_ok s (by omega) W)
    clear h hs
    go_enter Try.func3, Try.ntmps3
    go_wp2_with fail
    refine (H1.out _).mono ?_
    rintro e w1 ⟨a, zs, zf, zd, bb, rfl, hd, hb1⟩
    have HB1 := Aside0.mk hb1
    have HD := Aside0.mk hd
    clear hb1 hd
    go_wp2_with fail
    refine (H2.out _).mono ?_
    rintro e w2 ⟨b, rfl, hb, hb2⟩
    have HB2 := Aside0.mk (HB1.out.trans (hb2.mono HB1.out.size))
    have HB := Aside0.mk hb
    clear hb2 hb
    go_wp2_with fail
    refine (H3.out _).mono ?_
    rintro e w3 ⟨c, rfl, hc, hb3⟩
    have HB3 := Aside0.mk (HB2.out.trans (hb3.mono HB2.out.size))
    have k1 : a.size ≤ b.size := by
      have := told_unique HB.out HD.out.ts
      rw [this]
      exact HD.out.ls
    have k2 : a.size ≤ c.size := by
      have := told_unique hc HD.out.tf
      rw [this]
      exact HD.out.lf
    have k3 : 8 * c.size ≤ 9 * s.size + 17 := fix_size hc
    have k4 : c.size ≤ 5000 := by omega
    have k5 : b.size ≤ 5000 := by have := (sto_size (by omega) HB.out).1; omega
    have HK1 := Aside0.mk (fun W : World => back_ok s a (by omega) (back_law (by omega) (Nat.le_refl _) HD.out) W)
    have HK2 := Aside0.mk (fun W : World => back_ok s b (by omega) (stored_law (by omega) (Nat.le_refl _) HB.out) W)
    have HK3 := Aside0.mk (fun W : World => back_ok s c (by omega) (fixed_law (by omega) (Nat.le_refl _) hc) W)
    have d1 : decide ((a.size : Int) ≤ (b.size : Int)) = true := decide_eq_true (by omega)
    have d2 : decide (a.size ≤ b.size) = true := decide_eq_true k1
    have d3 : decide ((a.size : Int) ≤ (c.size : Int)) = true := decide_eq_true (by omega)
    have d4 : decide (a.size ≤ c.size) = true := decide_eq_true k2
    have d5 : decide (8 * (c.size : Int) ≤ 9 * (s.size : Int) + 17) = true := decide_eq_true (by omega)
    have d6 : 8 * (c.size : Int) ≤ 9 * (s.size : Int) + 17 := by omega
    clear hb3 hc k1 k2 k3 k5 HD HB
    go_wp2_with fail
    refine (HK1.out _).mono ?_
    rintro e w4 ⟨rfl, hb4⟩
    have HB4 := Aside0.mk (HB3.out.trans (hb4.mono HB3.out.size))
    clear hb4
    go_wp2_with fail
    refine (HK2.out _).mono ?_
    rintro e w5 ⟨rfl, hb5⟩
    have HB5 := Aside0.mk (HB4.out.trans (hb5.mono HB4.out.size))
    clear hb5
    go_wp2_with fail
    refine (HK3.out _).mono ?_
    rintro e w6 ⟨rfl, hb6⟩
    have HB6 := Aside0.mk (HB5.out.trans (hb6.mono HB5.out.size))
    clear hb6
    go_wp2_with fail
    refine (HAW.out _).mono ?_
    rintro e w7 ⟨rfl, hb7⟩
    have HB7 := Aside0.mk (HB6.out.trans (hb7.mono HB6.out.size))
    clear hb7
    go_wp2_with fail
    go_ret
    exact ⟨rfl, HB7.out⟩
end Go.Proofs.Ytaghmhcccighgaa.DF
