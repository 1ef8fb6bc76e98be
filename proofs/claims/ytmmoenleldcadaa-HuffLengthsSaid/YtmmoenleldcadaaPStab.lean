/- Blocks that do not fall, and their merging, plain. -/
import Derived.Test.YtmmoenleldcadaaPSort3
namespace Go.Proofs.Ytmmoenleldcadaa.HF
/-- Every block of s elements of the first n does not fall. -/
def Bl (s n : Nat) (xs : List Pk) : Prop := ∀ x, s ∣ x → x < n → Sorted x (min (x + s) n) xs
/-- The whole blocks of d elements ahead of a do not fall. -/
def Pre (d a : Nat) (xs : List Pk) : Prop := ∀ x, d ∣ x → x < a → Sorted x (x + d) xs
/-- The blocks of s elements from a on do not fall. -/
def Rest (s a n : Nat) (xs : List Pk) : Prop := ∀ x, s ∣ x → a ≤ x → x < n → Sorted x (min (x + s) n) xs
theorem dvd_step {d x a : Nat} (hx : d ∣ x) (ha : d ∣ a) (h : x < a) : x + d ≤ a := by
  obtain ⟨k, rfl⟩ := hx
  obtain ⟨l, rfl⟩ := ha
  have hkl : k < l := by
    by_cases c : k < l
    · exact c
    · have := Nat.mul_le_mul_left d (show l ≤ k by omega)
      omega
  have := Nat.mul_le_mul_left d (show k + 1 ≤ l by omega)
  rw [Nat.mul_add] at this
  omega
theorem Pre.zero (d : Nat) (xs : List Pk) : Pre d 0 xs := fun x _ h => by omega
theorem Pre.step {d a : Nat} {xs ys : List Pk} (h : Pre d a xs) (ha : d ∣ a) (hp : PermIn a (a + d) xs ys) (hs : Sorted a (a + d) ys) : Pre d (a + d) ys := fun x hx hl => by
  by_cases c : x < a
  · have := dvd_step hx ha c
    exact (h x hx c).congr (fun k h1 h2 => hp.out k (by omega))
  · by_cases e : a < x
    · have := dvd_step ha hx e
      omega
    · rw [show x = a by omega]
      exact hs
theorem Pre.close {d a n : Nat} {xs ys : List Pk} (h : Pre d a xs) (ha : d ∣ a) (hn : a ≤ n ∧ n < a + d) (hp : PermIn a n xs ys) (hs : Sorted a n ys) : Bl d n ys := fun x hx hl => by
  by_cases c : x < a
  · have := dvd_step hx ha c
    rw [show min (x + d) n = x + d by omega]
    exact (h x hx c).congr (fun k h1 h2 => hp.out k (by omega))
  · by_cases e : a < x
    · have := dvd_step ha hx e
      omega
    · rw [show min (x + d) n = n by omega, show x = a by omega]
      exact hs
theorem Rest.start {s n : Nat} {xs : List Pk} (h : Bl s n xs) : Rest s 0 n xs := fun x hx _ hl => h x hx hl
theorem Rest.step {s a b n : Nat} {xs ys : List Pk} (h : Rest s a n xs) (hp : PermIn a b xs ys) (hab : a ≤ b) : Rest s b n ys := fun x hx h1 h2 => (h x hx (by omega) h2).congr (fun k k1 _ => hp.out k (by omega))
theorem Rest.fst {s a n : Nat} {xs : List Pk} (h : Rest s a n xs) (ha : s ∣ a) (hn : a + s ≤ n) (hs : 0 < s) : Sorted a (a + s) xs := by
  have := h a ha (Nat.le_refl _) (by omega)
  rw [show min (a + s) n = a + s by omega] at this
  exact this
theorem Rest.snd {s a e n : Nat} {xs : List Pk} (h : Rest s a n xs) (ha : s ∣ a) (hn : a + s < n) (he : e = min (a + s + s) n) : Sorted (a + s) e xs := by
  rw [he]
  exact h (a + s) (Nat.dvd_add ha (Nat.dvd_refl s)) (by omega) hn
theorem Rest.one {s a n : Nat} {xs : List Pk} (h : Rest s a n xs) (ha : s ∣ a) (hn : a ≤ n ∧ n ≤ a + s) : Sorted a n xs := by
  by_cases c : a < n
  · have := h a ha (Nat.le_refl _) c
    rw [show min (a + s) n = n by omega] at this
    exact this
  · exact fun p q h1 h2 h3 => by omega
theorem Bl.all {s n : Nat} {xs : List Pk} (h : Bl s n xs) (hs : n ≤ s) : Sorted 0 n xs := by
  by_cases c : 0 < n
  · have := h 0 (Nat.dvd_zero s) c
    rw [show min (0 + s) n = n by omega] at this
    exact this
  · exact fun p q h1 h2 h3 => by omega
end Go.Proofs.Ytmmoenleldcadaa.HF
