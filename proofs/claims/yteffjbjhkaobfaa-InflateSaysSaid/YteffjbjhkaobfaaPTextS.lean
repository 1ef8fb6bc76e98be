/- The document's text of bits. -/
import Derived.Test.YteffjbjhkaobfaaFWrd
import Derived.Test.YteffjbjhkaobfaaPWd
import Derived.Test.YteffjbjhkaobfaaGA
namespace Go.Proofs.Yteffjbjhkaobfaa.PT
open Go.Proofs.Yteffjbjhkaobfaa.HF Go.RowKit Go.Proofs.YteffjbjhkaobfaaW.PrintWords Go.Proofs.YteffjbjhkaobfaaW.PrintLast Go.Proofs.YteffjbjhkaobfaaW.PrintMore Go.Proofs.Yteffjbjhkaobfaa.MB Go.Proofs.Yteffjbjhkaobfaa.Fn
structure TInv (bs : List Int) (l : List Bool) (i : Nat) : Prop where
  len : bs.length = (l.length + 7) / 8
  rng : ∀ b ∈ bs, 0 ≤ b ∧ b < 256
  bit : ∀ j, lbit bs j = (decide (j < i) && l.getD j false)
theorem TInv.start (l : List Bool) : TInv (List.replicate ((l.length + 7) / 8) 0) l 0 where
  len := List.length_replicate
  rng := fun b hb => by rw [List.eq_of_mem_replicate hb]; omega
  bit := fun j => by
    unfold lbit rd
    have : (List.replicate ((l.length + 7) / 8) (0 : Int)).getD ((j / 8 : Nat) : Int).toNat 0 = 0 := by
      rw [List.getD_eq_getElem?_getD, List.getElem?_replicate]
      split <;> rfl
    rw [this]
    simp
theorem TInv.done {bs : List Int} {l : List Bool} (h : TInv bs l l.length) : STold (strOfNums bs) l :=
  told_strOfNums ⟨h.len, h.rng, fun j => by
    rw [h.bit j]
    by_cases hj : j < l.length
    · rw [decide_eq_true hj, Bool.true_and]
    · rw [decide_eq_false hj, Bool.false_and, getD_high (by omega)]⟩
theorem b2i_nat (b : Bool) : b2i b = ((b.toNat : Nat) : Int) := by cases b <;> rfl
theorem TInv.step {bs : List Int} {l : List Bool} {i : Nat} (h : TInv bs l i) (hi : i < l.length) :
    TInv (bs.set (i / 8) (Go.bits .or .u8 (rd bs ((i / 8 : Nat) : Int)) ((shl .i64 (b2i (l.getD i false)) ((i % 8 : Nat) : Int)) % 256))) l (i + 1) := by
  have hq : i / 8 < bs.length := by rw [h.len]; omega
  have hb := rd_mem (P := fun b => 0 ≤ b ∧ b < 256) h.rng ⟨by omega, by omega⟩ ((i / 8 : Nat) : Int)
  obtain ⟨b, hbn⟩ : ∃ b : Nat, rd bs ((i / 8 : Nat) : Int) = b := ⟨(rd bs ((i / 8 : Nat) : Int)).toNat, by omega⟩
  rw [hbn] at hb
  obtain ⟨c, hc⟩ : ∃ c, l.getD i false = c := ⟨_, rfl⟩
  have hr : i % 8 < 8 := Nat.mod_lt _ (by decide)
  have hp : 2 ^ (i % 8) ≤ 2 ^ 7 := Nat.pow_le_pow_right (by decide) (by omega)
  have hcv : c.toNat * 2 ^ (i % 8) < 256 := by
    have : c.toNat ≤ 1 := by cases c <;> decide
    have := Nat.mul_le_mul this hp
    omega
  have e1 : shl .i64 (b2i c) ((i % 8 : Nat) : Int) = ((c.toNat * 2 ^ (i % 8) : Nat) : Int) := by
    rw [b2i_nat]
    exact PR.shl_i64_bit _ _ (Bool.toNat_lt _) (by omega)
  have e2 : Go.bits .or .u8 (rd bs ((i / 8 : Nat) : Int)) ((shl .i64 (b2i (l.getD i false)) ((i % 8 : Nat) : Int)) % 256) = ((b ||| c.toNat * 2 ^ (i % 8) : Nat) : Int) := by
    rw [hc, e1, hbn]
    obtain ⟨cv, hcv2⟩ : ∃ x, c.toNat * 2 ^ (i % 8) = x := ⟨_, rfl⟩
    rw [hcv2] at hcv ⊢
    rw [show ((cv : Nat) : Int) % 256 = (cv : Int) from by omega]
    exact or_u8 b cv (by omega) (by omega)
  rw [e2]
  have hor : b ||| c.toNat * 2 ^ (i % 8) < 2 ^ 8 := Nat.or_lt_two_pow (by omega) (by omega)
  refine ⟨by rw [List.length_set]; exact h.len, fun x hx => ?_, fun j => ?_⟩
  · rcases List.mem_or_eq_of_mem_set hx with hx | rfl
    · exact h.rng x hx
    · obtain ⟨y, hy⟩ : ∃ y, b ||| c.toNat * 2 ^ (i % 8) = y := ⟨_, rfl⟩
      rw [hy] at hor ⊢
      omega
  · have hj := h.bit j
    unfold lbit at hj ⊢
    rw [rd_set bs (i / 8) (j / 8) _ hq]
    by_cases hq2 : j / 8 = i / 8
    · rw [if_pos hq2]
      rw [hq2, hbn] at hj
      rw [Int.toNat_natCast] at hj ⊢
      rw [Nat.testBit_or, hj]
      by_cases hji : j = i
      · subst hji
        have e3 : (c.toNat * 2 ^ (j % 8)).testBit (j % 8) = c := by
          rw [Nat.mul_comm, Nat.testBit_two_pow_mul]
          cases c <;> simp
        rw [e3, decide_eq_false (Nat.lt_irrefl j), Bool.false_and, Bool.false_or, decide_eq_true (Nat.lt_succ_self j), Bool.true_and, hc]
      · have e3 : (c.toNat * 2 ^ (i % 8)).testBit (j % 8) = false := by
          have hne : j % 8 ≠ i % 8 := by omega
          cases c with
          | false => simp
          | true =>
            rw [show true.toNat * 2 ^ (i % 8) = 2 ^ (i % 8) from by simp, Nat.testBit_two_pow]
            simp
            omega
        rw [e3, Bool.or_false]
        congr 1
        rw [decide_eq_decide]
        omega
    · rw [if_neg hq2, hj]
      congr 1
      rw [decide_eq_decide]
      constructor
      · intro _; omega
      · intro _
        have : j ≠ i := fun e => hq2 (by rw [e])
        omega
theorem rd_ib (l : List Bool) (i : Nat) : rd (ib l) (i : Int) = b2i (l.getD i false) := by
  unfold rd ib
  rw [Int.toNat_natCast, List.getD_eq_getElem?_getD, List.getElem?_map, List.getD_eq_getElem?_getD]
  cases l[i]? <;> rfl
theorem w64c (n : Nat) (h : n ≤ 4611686018427387904) : wrap64 (n : Int) = (n : Int) := wrap64_id _ (by omega) (by omega)
theorem text_loop (l : List Bool) (hl : l.length ≤ 100000000000000) : ∀ (d k i : Nat) (bs : List Int), d + i = l.length → d < k → TInv bs l i → ∃ s, postroadref01_Text.l0 k (ib l) bs (i : Int) = some s ∧ STold s l := by
  intro d
  induction d with
  | zero =>
    intro k i bs hi hk h
    obtain ⟨k, rfl⟩ : ∃ m, k = m + 1 := ⟨k - 1, by omega⟩
    have hie : i = l.length := by omega
    subst hie
    rw [postroadref01_Text.l0, if_neg (by rw [ib_length]; omega)]
    exact ⟨_, rfl, h.done⟩
  | succ d ih =>
    intro k i bs hi hk h
    obtain ⟨k, rfl⟩ : ∃ m, k = m + 1 := ⟨k - 1, by omega⟩
    have hw : wrap64 (Int.tdiv (i : Int) 8) = ((i / 8 : Nat) : Int) := by rw [tdiv_cast]; exact w64c _ (by omega)
    have hlen := h.len
    rw [postroadref01_Text.l0, if_pos (by rw [ib_length]; omega), hw, if_pos (by omega), if_pos (by omega), if_pos (by omega), tmod_cast, if_pos (by omega), Int.toNat_natCast, rd_ib]
    have hn : wrap64 ((i : Int) + 1) = ((i + 1 : Nat) : Int) := by rw [show (i : Int) + 1 = ((i + 1 : Nat) : Int) from rfl]; exact w64c _ (by omega)
    rw [hn]
    exact ih k (i + 1) _ (by omega) (by omega) (h.step (by omega))
theorem text_f (l : List Bool) (hl : l.length ≤ 100000000000000) : ∃ s, postroadref01_Text.f (l.length + 1) (ib l) = some s ∧ STold s l := by
  unfold postroadref01_Text.f
  have hw : wrap64 (Int.tdiv (wrap64 (((ib l).length : Int) + 7)) 8) = (((l.length + 7) / 8 : Nat) : Int) := by
    rw [ib_length, show ((l.length : Int) + 7) = ((l.length + 7 : Nat) : Int) from rfl, w64c _ (by omega), tdiv_cast]
    exact w64c _ (by omega)
  rw [hw, if_pos (by omega), Int.toNat_natCast, if_pos (by omega)]
  exact text_loop l hl l.length (l.length + 1) 0 _ (by omega) (by omega) (TInv.start l)
end Go.Proofs.Yteffjbjhkaobfaa.PT
