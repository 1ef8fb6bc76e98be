/- DeflateKinds: walked. -/
import Derived.Test.YtaghmhcccighgaaK21
namespace Go.Proofs.Ytaghmhcccighgaa.DF
open Go.RowKit Go.Proofs.YtaghmhcccighgaaW.PrintWords Go.Proofs.YtaghmhcccighgaaW.PrintLast Go.Proofs.YtaghmhcccighgaaW.PrintMore Go.Proofs.Ytaghmhcccighgaa.HW Go.Proofs.Ytaghmhcccighgaa.MB Go.Proofs.Ytaghmhcccighgaa.Fn Go.Proofs.Ytaghmhcccighgaa.HF Go.Proofs.Ytaghmhcccighgaa.RT Go.Proofs.Ytaghmhcccighgaa.RT.Rd Go.Proofs.Ytaghmhcccighgaa.HP Go.Proofs.Ytaghmhcccighgaa.HI Go.Proofs.Ytaghmhcccighgaa.IW
attribute [local go_sem] max2_int min2_int max_two min_two max_three min_three max_four min_four   -- for this text's walks alone
theorem sto_first {s z : ByteArray} (hs : s.size ≤ 65535) (hz : STold z (stoF 17 s)) : bt z 0 = 1 := by
  have h := sto_bytes hz
  rw [← rd_bytesOf, h]
  unfold stoL
  rw [if_pos hs]
  rfl
theorem fix_first {s z : ByteArray} (hz : STold z (FixB (symsOf s))) : bt z 0 % 8 = 3 := by
  have h0 := hz.2 0
  have h1 := hz.2 1
  have h2 := hz.2 2
  unfold FixB at h0 h1 h2
  obtain ⟨b, hb, hl⟩ := bt_nat z 0
  unfold sbit at h0 h1 h2
  rw [show (((0 / 8 : Nat) : Int)) = 0 from rfl, hb] at h0
  rw [show (((1 / 8 : Nat) : Int)) = 0 from rfl, hb] at h1
  rw [show (((2 / 8 : Nat) : Int)) = 0 from rfl, hb] at h2
  rw [hb]
  have e : ∀ b : Nat, b < 256 → b.testBit 0 = true → b.testBit 1 = true → b.testBit 2 = false → b % 8 = 3 := by decide +kernel
  have := e b hl h0 h1 h2
  omega
theorem bt_get {z : ByteArray} (h : 0 < z.size) : bt z 0 = ((z[0]'h).toNat : Int) := by
  unfold bt
  rw [dif_pos (by simp; omega)]
  rfl
theorem and7 {x : Int} (hx : 0 ≤ x ∧ x < 256) (h : x % 8 = 3) : bits BinOp.and IntKind.u8 x 7 = 3 := by
  obtain ⟨b, rfl⟩ : ∃ b : Nat, x = (b : Int) := ⟨x.toNat, by omega⟩
  have e : ∀ b : Nat, b < 256 → b % 8 = 3 → bits BinOp.and IntKind.u8 (b : Int) 7 = 3 := by decide +kernel
  exact e b (by omega) (by omega)
set_option maxRecDepth 100000 in
set_option maxHeartbeats 4000000 in
theorem dkinds_walk (s : ByteArray) (hs : s.size ≤ 140737488351232) (W : World) : Calls Try.prog 7 #[.string s] W fun e w' => e = .returned (.bool true) ∧ Below W.heap.size W w' := by
  have HAW := Aside0.mk awake_ok
  by_cases h : 4096 < s.size
  · have b1 : decide ((4096 : Int) < (s.size : Int)) = true := decide_eq_true (by omega)
    have b2 : decide (4096 < s.size) = true := decide_eq_true h
    clear h
    go_enter Try.func7, Try.ntmps7
    go_wp2_with fail
    refine (HAW.out _).mono ?_
    rintro e w1 ⟨rfl, hb1⟩
    have HB1 := Aside0.mk hb1
    clear hb1
    go_wp2_with fail
    go_ret
    exact ⟨rfl, HB1.out⟩
  · have b1 : decide ((4096 : Int) < (s.size : Int)) = false := decide_eq_false (by omega)
    have b2 : decide (4096 < s.size) = false := decide_eq_false h
    have hl : s.size ≤ 4096 := by omega
    have H1 := Aside0.mk (fun W : World => stored_ok s (by omega) W)
    have H2 := Aside0.mk (fun W : World => fixedS_ok s (by omega) W)
    have HL := Aside0.mk hl
    clear h hl hs
    go_enter Try.func7, Try.ntmps7
    go_wp2_with fail
    refine (H1.out _).mono ?_
    rintro e w1 ⟨a, rfl, ha, hb1⟩
    have HB1 := Aside0.mk hb1
    have a1 := sto_first (by have := HL.out; omega) ha
    have a2 : a.size = s.size + 5 := (sto_size (by have := HL.out; omega) ha).2 (by have := HL.out; omega)
    clear hb1 ha
    go_wp2_with fail
    refine (H2.out _).mono ?_
    rintro e w2 ⟨b, rfl, hb, hb2⟩
    have HB2 := Aside0.mk (HB1.out.trans (hb2.mono HB1.out.size))
    have c1 := fix_first hb
    have c2 : 0 < b.size := by
      have := hb.1
      unfold FixB at this
      rw [List.length_append, bitsOf_length] at this
      omega
    clear hb2 hb
    have g1 : ∀ h : 0 < a.size, ((a[0]'h).toNat : Int) = 1 := fun h => by rw [← bt_get h]; exact a1
    have g2 : ∀ h : 0 < b.size, bits BinOp.and IntKind.u8 ((b[0]'h).toNat : Int) 7 = 3 := fun h => by rw [← bt_get h]; exact and7 (by have := bt_range b 0; omega) c1
    have hw : wrap64 ((s.size : Int) + 5) = (a.size : Int) := by have := HL.out; unfold wrap64; omega
    have c3 : 0 < a.size := by omega
    clear a1 a2 c1
    go_wp2_with fail
    refine (HAW.out _).mono ?_
    rintro e w3 ⟨rfl, hb3⟩
    have HB3 := Aside0.mk (HB2.out.trans (hb3.mono HB2.out.size))
    clear hb3
    go_wp2_with fail
    go_ret
    exact ⟨rfl, HB3.out⟩
end Go.Proofs.Ytaghmhcccighgaa.DF
