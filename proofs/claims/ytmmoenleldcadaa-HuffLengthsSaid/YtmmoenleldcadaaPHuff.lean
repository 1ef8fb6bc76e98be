/- Codes by lengths, plain: how many words of each length, what is left, the first words, the words. -/
import Derived.Test.YtmmoenleldcadaaWMore
namespace Go.Proofs.Ytmmoenleldcadaa.HF
/-- How many are l. -/
def cntL (lens : List Int) (l : Int) : Int := ((lens.filter (fun x => decide (x = l))).length : Int)
theorem cntL_nil (l : Int) : cntL [] l = 0 := rfl
theorem cntL_app (a b : List Int) (l : Int) : cntL (a ++ b) l = cntL a l + cntL b l := by unfold cntL; rw [List.filter_append, List.length_append]; omega
theorem cntL_snoc (a : List Int) (x l : Int) : cntL (a ++ [x]) l = cntL a l + (if x = l then 1 else 0) := by
  rw [cntL_app]
  congr 1
  unfold cntL
  by_cases h : x = l
  · simp [h]
  · simp [h]
theorem cntL_cons (x : Int) (a : List Int) (l : Int) : cntL (x :: a) l = (if x = l then 1 else 0) + cntL a l := by
  rw [← List.singleton_append, cntL_app]
  congr 1
  unfold cntL
  by_cases h : x = l
  · simp [h]
  · simp [h]
theorem cntL_nn (a : List Int) (l : Int) : 0 ≤ cntL a l ∧ cntL a l ≤ a.length := by
  unfold cntL
  have := List.length_filter_le (fun x => decide (x = l)) a
  omega
/-- What is left behind the words of the lengths up to l. -/
def rooms (f : Nat → Int) : Nat → Int
  | 0 => 1
  | l + 1 => 2 * rooms f l - f (l + 1)
theorem rooms_neg {f : Nat → Int} (hf : ∀ l, 0 ≤ f l) {i : Nat} (h : rooms f i < 0) : ∀ j, i ≤ j → rooms f j < 0
  | 0, hj => by rw [show 0 = i by omega]; exact h
  | j + 1, hj => by
    by_cases he : i = j + 1
    · rw [← he]; exact h
    · have := rooms_neg hf h j (by omega)
      have h2 := hf (j + 1)
      show 2 * rooms f j - f (j + 1) < 0
      omega
theorem rooms_le {f : Nat → Int} (hf : ∀ l, 0 ≤ f l) : ∀ j, rooms f j ≤ 2 ^ j
  | 0 => by simp [rooms]
  | j + 1 => by
    have := rooms_le hf j
    have h2 := hf (j + 1)
    show 2 * rooms f j - f (j + 1) ≤ 2 ^ (j + 1)
    rw [Int.pow_succ]
    omega
def lenOk (x : Int) : Bool := decide (0 ≤ x ∧ x ≤ 15)
/-- Lengths may be, and are those of a code. -/
def okL (lens : List Int) : Bool := decide (lens.length ≤ 288) && (lens.all lenOk && decide (0 ≤ rooms (fun l => cntL lens l) 15))
/-- The first word of a length. -/
def nxt (f : Nat → Int) : Nat → Int
  | 0 => 0
  | l + 1 => if l = 0 then 0 else 2 * (nxt f l + f l)
/-- The word of symbol i. -/
def codeAt (lens : List Int) (i : Nat) : Int := if 0 < lens.getD i 0 then nxt (fun l => cntL lens l) (lens.getD i 0).toNat + cntL (lens.take i) (lens.getD i 0) else 0
def codesL (lens : List Int) : List Int := (List.range lens.length).map (codeAt lens)
def wholeL (lens : List Int) : Bool := decide (rooms (fun l => cntL lens l) 15 = 0)
theorem nxt_bd {f : Nat → Int} (hf : ∀ l, 0 ≤ f l ∧ f l ≤ 288) : ∀ l, 0 ≤ nxt f l ∧ nxt f l ≤ 576 * (2 ^ l - 1)
  | 0 => by simp [nxt]
  | l + 1 => by
    have h1 := nxt_bd hf l
    have h2 := hf l
    have hp : (0 : Int) < 2 ^ l := Int.pow_pos (by decide)
    unfold nxt
    rw [Int.pow_succ]
    split <;> omega
theorem codesL_len (lens : List Int) : (codesL lens).length = lens.length := by unfold codesL; rw [List.length_map, List.length_range]
end Go.Proofs.Ytmmoenleldcadaa.HF
