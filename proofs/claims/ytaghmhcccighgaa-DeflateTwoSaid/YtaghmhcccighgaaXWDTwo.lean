/- DeflateTwo: walked. -/
import Derived.Test.YtaghmhcccighgaaXHBkD
namespace Go.Proofs.Ytaghmhcccighgaa.DF
open Go.RowKit Go.Proofs.YtaghmhcccighgaaW.PrintWords Go.Proofs.YtaghmhcccighgaaW.PrintLast Go.Proofs.YtaghmhcccighgaaW.PrintMore Go.Proofs.Ytaghmhcccighgaa.HW Go.Proofs.Ytaghmhcccighgaa.MB Go.Proofs.Ytaghmhcccighgaa.Fn Go.Proofs.Ytaghmhcccighgaa.HF Go.Proofs.Ytaghmhcccighgaa.RT Go.Proofs.Ytaghmhcccighgaa.RT.Rd Go.Proofs.Ytaghmhcccighgaa.HP Go.Proofs.Ytaghmhcccighgaa.HI Go.Proofs.Ytaghmhcccighgaa.IW
attribute [local go_sem] max2_int min2_int max_two min_two max_three min_three max_four min_four   -- for this text's walks alone
theorem dez_size {s z zs zf zd : ByteArray} {b : List Bool} (hs : s.size ≤ 1048576) (h : DeZ s z zs zf zd b) : z.size ≤ 1000000000000000 := by
  have h1 := (sto_size hs h.ts).1
  have h2 := h.ls
  omega
set_option maxRecDepth 100000 in
set_option maxHeartbeats 4000000 in
theorem dtwo_walk (s : ByteArray) (hs : s.size ≤ 140737488351232) (W : World) : Calls Try.prog 8 #[.string s] W fun e w' => e = .returned (.bool true) ∧ Below W.heap.size W w' := by
  have HAW := Aside0.mk awake_ok
  by_cases h : s.size < 1000 ∨ 4096 < s.size
  · have HO := Aside0.mk h
    clear h
    go_enter Try.func8, Try.ntmps8
    rcases HO.out with h | h
    · have b1 : decide ((s.size : Int) < 1000) = true := decide_eq_true (by omega)
      have b2 : decide (s.size < 1000) = true := decide_eq_true h
      clear h HO
      go_wp2_with fail
      refine (HAW.out _).mono ?_
      rintro e w1 ⟨rfl, hb1⟩
      have HB1 := Aside0.mk hb1
      clear hb1
      go_wp2_with fail
      go_ret
      exact ⟨rfl, HB1.out⟩
    · have b1 : decide ((s.size : Int) < 1000) = false := decide_eq_false (by omega)
      have b2 : decide (s.size < 1000) = false := decide_eq_false (by omega)
      have b3 : decide ((4096 : Int) < (s.size : Int)) = true := decide_eq_true (by omega)
      have b4 : decide (4096 < s.size) = true := decide_eq_true h
      clear h HO
      go_wp2_with fail
      refine (HAW.out _).mono ?_
      rintro e w1 ⟨rfl, hb1⟩
      have HB1 := Aside0.mk hb1
      clear hb1
      go_wp2_with fail
      go_ret
      exact ⟨rfl, HB1.out⟩
  · have b1 : decide ((s.size : Int) < 1000) = false := decide_eq_false (by omega)
    have b2 : decide (s.size < 1000) = false := decide_eq_false (by omega)
    have b3 : decide ((4096 : Int) < (s.size : Int)) = false := decide_eq_false (by omega)
    have b4 : decide (4096 < s.size) = false := decide_eq_false (by omega)
    have hl : s.size ≤ 4096 := by omega
    have hl2 : (s ++ s).size ≤ 8192 := by rw [ByteArray.size_append]; omega
    have HL := Aside0.mk (And.intro hl hl2)
    have H1 := Aside0.mk (fun W : World => deflate_ok s (by omega) W)
    have H2 := Aside0.mk (fun W : World => deflate_ok (s ++ s) (by omega) W)
    have hss : ¬ 9223372036854775807 < s.size + s.size := by omega
    clear h hl hl2 hs
    go_enter Try.func8, Try.ntmps8
    go_wp2_with fail
    refine (H1.out _).mono ?_
    rintro e w1 ⟨z, zs, zf, zd, b, rfl, hd, hb1⟩
    have HB1 := Aside0.mk hb1
    have HK1 := Aside0.mk (fun W : World => back_ok s z (dez_size (by have := HL.out.1; omega) hd) (back_law (by have := HL.out.1; omega) (Nat.le_refl _) hd) W)
    clear hb1 hd
    go_wp2_with fail
    refine (H2.out _).mono ?_
    rintro e w2 ⟨z2, zs2, zf2, zd2, b', rfl, hd, hb2⟩
    have HB2 := Aside0.mk (HB1.out.trans (hb2.mono HB1.out.size))
    have HK2 := Aside0.mk (fun W : World => back_ok (s ++ s) z2 (dez_size (by have := HL.out.2; omega) hd) (back_law (by have := HL.out.2; omega) (Nat.le_refl _) hd) W)
    clear hb2 hd
    go_wp2_with fail
    refine (HK1.out _).mono ?_
    rintro e w3 ⟨rfl, hb3⟩
    have HB3 := Aside0.mk (HB2.out.trans (hb3.mono HB2.out.size))
    clear hb3
    go_wp2_with fail
    refine (HK2.out _).mono ?_
    rintro e w4 ⟨rfl, hb4⟩
    have HB4 := Aside0.mk (HB3.out.trans (hb4.mono HB3.out.size))
    clear hb4
    go_wp2_with fail
    refine (HAW.out _).mono ?_
    rintro e w5 ⟨rfl, hb5⟩
    have HB5 := Aside0.mk (HB4.out.trans (hb5.mono HB4.out.size))
    clear hb5
    go_wp2_with fail
    go_ret
    exact ⟨rfl, HB5.out⟩
end Go.Proofs.Ytaghmhcccighgaa.DF
