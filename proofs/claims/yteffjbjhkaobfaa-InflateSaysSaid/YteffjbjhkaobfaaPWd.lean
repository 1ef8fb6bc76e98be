/- The bits of words: plain. -/
import Derived.Test.YteffjbjhkaobfaaGA
namespace Go.Proofs.Yteffjbjhkaobfaa.HF
open Go.RowKit Go.Proofs.Yteffjbjhkaobfaa.MB Go.Proofs.YteffjbjhkaobfaaW.PrintWords Go.Proofs.YteffjbjhkaobfaaW.PrintLast Go.Proofs.YteffjbjhkaobfaaW.PrintMore
/-- A word's bits, the highest first. -/
def wordB (c : Nat) : Nat → List Bool
  | 0 => []
  | k + 1 => c.testBit k :: wordB c k
theorem wordB_len (c : Nat) : ∀ k, (wordB c k).length = k
  | 0 => rfl
  | k + 1 => by rw [wordB, List.length_cons, wordB_len c k]
def bnat (b : Bool) : Nat := if b then 1 else 0
theorem and_bit (x i : Nat) (hx : x < 2 ^ 63) : Go.bits .and .i64 ((x : Int) / 2 ^ i) 1 = (bnat (x.testBit i) : Int) := by
  have e : ((x : Int) / 2 ^ i) = ((x / 2 ^ i : Nat) : Int) := by rw [Int.natCast_ediv, Int.natCast_pow]; rfl
  rw [e, show (1 : Int) = ((1 : Nat) : Int) from rfl, and_i64 _ 1 (Nat.lt_of_le_of_lt (Nat.div_le_self _ _) hx) (by decide)]
  congr 1
  rw [show (1 : Nat) = 2 ^ 1 - 1 from rfl, Nat.and_two_pow_sub_one_eq_mod]
  have := Nat.testBit_eq_decide_div_mod_eq (x := x) (i := i)
  unfold bnat
  rw [this]
  rcases Nat.mod_two_eq_zero_or_one (x / 2 ^ i) with h | h <;> simp [h]
theorem bitsOf_bnat (b : Bool) : bitsOf (bnat b) 1 = [b] := by cases b <;> rfl
def b2i (b : Bool) : Int := if b then 1 else 0
def ib (l : List Bool) : List Int := l.map b2i
theorem ib_length (l : List Bool) : (ib l).length = l.length := by simp [ib]
theorem ib_append (l m : List Bool) : ib (l ++ m) = ib l ++ ib m := by simp [ib]
theorem b2i_bnat (b : Bool) : b2i b = (bnat b : Int) := by cases b <;> rfl
end Go.Proofs.Yteffjbjhkaobfaa.HF
