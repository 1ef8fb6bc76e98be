/- Sorting packs, plain: parts are exchanged, turned, merged. -/
import Derived.Test.YtmmoenleldcadaaPSort
namespace Go.Proofs.Ytmmoenleldcadaa.HF
/-- Where the element at i stood, ahead of the exchange of k elements from a and from b. -/
def swI (a b k i : Nat) : Nat := if a ≤ i ∧ i < a + k then i - a + b else if b ≤ i ∧ i < b + k then i - b + a else i
theorem swI_cases (a b k i : Nat) : (a ≤ i ∧ i < a + k ∧ swI a b k i = i - a + b) ∨ (¬ (a ≤ i ∧ i < a + k) ∧ b ≤ i ∧ i < b + k ∧ swI a b k i = i - b + a) ∨ (¬ (a ≤ i ∧ i < a + k) ∧ ¬ (b ≤ i ∧ i < b + k) ∧ swI a b k i = i) := by
  unfold swI
  split
  · left; omega
  · split
    · right; left; omega
    · right; right; omega
/-- So far k elements from a and from b were exchanged. -/
structure SwR (lo hi a b k : Nat) (xs ys : List Pk) : Prop where
  pm : PermIn lo hi xs ys
  rd : ∀ i, rdP ys i = rdP xs (swI a b k i)
theorem SwR.start (lo hi a b : Nat) (xs : List Pk) : SwR lo hi a b 0 xs xs := ⟨PermIn.refl _ _ _, fun i => by
  have := swI_cases a b 0 i
  rw [show swI a b 0 i = i by omega]⟩
theorem SwR.step {lo hi a b k : Nat} {xs ys : List Pk} (h : SwR lo hi a b k xs ys) (ha : lo ≤ a) (hab : a + k < b) (hb : b + k < hi) (hh : hi ≤ ys.length) : SwR lo hi a b (k + 1) xs (swp ys (a + k) (b + k)) := by
  refine ⟨h.pm.trans (PermIn.swp ys (a + k) (b + k) (by omega) (by omega) hh), fun i => ?_⟩
  rw [rdP_swp _ _ _ _ (by omega) (by omega), h.rd, h.rd, h.rd]
  have c1 := swI_cases a b k (a + k)
  have c2 := swI_cases a b k (b + k)
  have c3 := swI_cases a b k i
  have c4 := swI_cases a b (k + 1) i
  split
  · congr 1; omega
  · split
    · congr 1; omega
    · congr 1; omega
theorem rot_gt {m i j : Nat} (hi_ : i ≤ m) (hj : j < i) (hj0 : 0 < j) (k : Nat) : rotI (m - i) m (m + j) k = swI (m - i) m j (rotI (m - (i - j)) m (m + j) k) := by
  have c1 := rotI_cases (m - i) m (m + j) k
  have c2 := rotI_cases (m - (i - j)) m (m + j) k
  generalize rotI (m - (i - j)) m (m + j) k = r at c2 ⊢
  have c3 := swI_cases (m - i) m j r
  omega
theorem rot_lt {m i j : Nat} (hi_ : i ≤ m) (hj : i < j) (hi0 : 0 < i) (k : Nat) : rotI (m - i) m (m + j) k = swI (m - i) (m + j - i) i (rotI (m - i) m (m + (j - i)) k) := by
  have c1 := rotI_cases (m - i) m (m + j) k
  have c2 := rotI_cases (m - i) m (m + (j - i)) k
  generalize rotI (m - i) m (m + (j - i)) k = r at c2 ⊢
  have c3 := swI_cases (m - i) (m + j - i) i r
  omega
theorem rot_eq {m i : Nat} (hi_ : i ≤ m) (k : Nat) : rotI (m - i) m (m + i) k = swI (m - i) m i k := by
  have c1 := rotI_cases (m - i) m (m + i) k
  have c3 := swI_cases (m - i) m i k
  omega
end Go.Proofs.Ytmmoenleldcadaa.HF
