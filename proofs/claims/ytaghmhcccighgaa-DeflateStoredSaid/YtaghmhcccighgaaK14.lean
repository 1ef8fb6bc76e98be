/- Parts: PSort3 PStab PLen HIns -/
import Derived.Test.YtaghmhcccighgaaK13
import Derived.Deep.QuietTactic
import Derived.BigQuiet
set_option linter.unusedVariables false
set_option linter.unusedSimpArgs false
section
/- Merging two parts that do not fall, plain. -/
namespace Go.Proofs.Ytaghmhcccighgaa.HF
/-- One element, at a, goes up behind the elements ahead of i. -/
def upI (a k q : Nat) : Nat := if a ≤ q ∧ q < k then q + 1 else if q = k then a else q
theorem upI_cases (a k q : Nat) : (a ≤ q ∧ q < k ∧ upI a k q = q + 1) ∨ (q = k ∧ ¬ (a ≤ q ∧ q < k) ∧ upI a k q = a) ∨ (¬ (a ≤ q ∧ q < k) ∧ q ≠ k ∧ upI a k q = q) := by
  unfold upI
  split
  · left; omega
  · split
    · right; left; omega
    · right; right; omega
structure UpR (a b k : Nat) (xs ys : List Pk) : Prop where
  pm : PermIn a b xs ys
  rd : ∀ q, rdP ys q = rdP xs (upI a k q)
theorem UpR.start (a b : Nat) (xs : List Pk) : UpR a b a xs xs := ⟨PermIn.refl _ _ _, fun q => by
  have := upI_cases a a q
  rw [show upI a a q = q by omega]⟩
theorem UpR.step {a b k : Nat} {xs ys : List Pk} (h : UpR a b k xs ys) (ha : a ≤ k) (hb : k + 1 < b) (hh : b ≤ ys.length) : UpR a b (k + 1) xs (swp ys k (k + 1)) := by
  refine ⟨h.pm.trans (PermIn.swp ys k (k + 1) (by omega) (by omega) hh), fun q => ?_⟩
  rw [rdP_swp _ _ _ _ (by omega) (by omega), h.rd, h.rd, h.rd]
  have c1 := upI_cases a k k
  have c2 := upI_cases a k (k + 1)
  have c3 := upI_cases a k q
  have c4 := upI_cases a (k + 1) q
  split
  · congr 1; omega
  · split
    · congr 1; omega
    · congr 1; omega
theorem UpR.sorted {a b i : Nat} {xs ys : List Pk} (h : UpR a b (i - 1) xs ys) (hi : a < i ∧ i ≤ b) (hs : Sorted (a + 1) b xs) (h1 : ∀ q, a < q → q < i → wtP xs q < wtP xs a) (h2 : ∀ q, i ≤ q → q < b → wtP xs a ≤ wtP xs q) : Sorted a b ys := fun p q p1 p2 p3 => by
  unfold wtP
  rw [h.rd, h.rd]
  have c1 := upI_cases a (i - 1) p
  have c2 := upI_cases a (i - 1) q
  by_cases e1 : p = i - 1
  · rw [show upI a (i - 1) p = a by omega, show upI a (i - 1) q = q by omega]
    exact h2 q (by omega) p3
  · by_cases e2 : q = i - 1
    · rw [show upI a (i - 1) p = p + 1 by omega, show upI a (i - 1) q = a by omega]
      exact Int.le_of_lt (h1 (p + 1) (by omega) (by omega))
    · exact hs.le (p := upI a (i - 1) p) (q := upI a (i - 1) q) (by omega) (by omega) (by omega)
theorem UpR.perm {a b i : Nat} {xs ys : List Pk} (h : UpR a b (i - 1) xs ys) (hi : a < i ∧ i ≤ b) (hb : b ≤ xs.length) (h1 : ∀ q, a < q → q < i → wtP xs q < wtP xs a) : PermS a b xs ys :=
  ⟨h.pm, fil_rot (s := a) (m := a + 1) (e := i) h.pm.len (by omega) (by omega) (by omega) (fun q => by
    rw [h.rd]
    have c1 := upI_cases a (i - 1) q
    have c2 := rotI_cases a (a + 1) i q
    congr 1; omega) (fun p q p1 p2 p3 p4 => by
    have := h1 q (by omega) p4
    rw [show p = a by omega]
    omega)⟩
/-- One element, at m, goes down to i. -/
def dnI (k m q : Nat) : Nat := if q = k then m else if k < q ∧ q ≤ m then q - 1 else q
theorem dnI_cases (k m q : Nat) : (q = k ∧ dnI k m q = m) ∨ (q ≠ k ∧ k < q ∧ q ≤ m ∧ dnI k m q = q - 1) ∨ (q ≠ k ∧ ¬ (k < q ∧ q ≤ m) ∧ dnI k m q = q) := by
  unfold dnI
  split
  · left; omega
  · split
    · right; left; omega
    · right; right; omega
structure DnR (a b m k : Nat) (xs ys : List Pk) : Prop where
  pm : PermIn a b xs ys
  rd : ∀ q, rdP ys q = rdP xs (dnI k m q)
theorem DnR.start (a b m : Nat) (xs : List Pk) : DnR a b m m xs xs := ⟨PermIn.refl _ _ _, fun q => by
  have := dnI_cases m m q
  rw [show dnI m m q = q by omega]⟩
theorem DnR.step {a b m k : Nat} {xs ys : List Pk} (h : DnR a b m k xs ys) (ha : a < k) (hk : k ≤ m) (hb : m < b) (hh : b ≤ ys.length) : DnR a b m (k - 1) xs (swp ys k (k - 1)) := by
  refine ⟨h.pm.trans (PermIn.swp ys k (k - 1) (by omega) (by omega) hh), fun q => ?_⟩
  rw [rdP_swp _ _ _ _ (by omega) (by omega), h.rd, h.rd, h.rd]
  have c1 := dnI_cases k m k
  have c2 := dnI_cases k m (k - 1)
  have c3 := dnI_cases k m q
  have c4 := dnI_cases (k - 1) m q
  split
  · congr 1; omega
  · split
    · congr 1; omega
    · congr 1; omega
theorem DnR.sorted {a b m i : Nat} {xs ys : List Pk} (h : DnR a b m i xs ys) (hi : a ≤ i ∧ i ≤ m) (hb : b = m + 1) (hs : Sorted a m xs) (h1 : ∀ q, a ≤ q → q < i → wtP xs q ≤ wtP xs m) (h2 : ∀ q, i ≤ q → q < m → wtP xs m < wtP xs q) : Sorted a b ys := fun p q p1 p2 p3 => by
  unfold wtP
  rw [h.rd, h.rd]
  have c1 := dnI_cases i m p
  have c2 := dnI_cases i m q
  by_cases e1 : p = i
  · rw [show dnI i m p = m by omega, show dnI i m q = q - 1 by omega]
    exact Int.le_of_lt (h2 (q - 1) (by omega) (by omega))
  · by_cases e2 : q = i
    · rw [show dnI i m p = p by omega, show dnI i m q = m by omega]
      exact h1 p p1 (by omega)
    · exact hs.le (p := dnI i m p) (q := dnI i m q) (by omega) (by omega) (by omega)
theorem DnR.perm {a b m i : Nat} {xs ys : List Pk} (h : DnR a b m i xs ys) (hi : a ≤ i ∧ i ≤ m) (hb : m < xs.length) (h2 : ∀ q, i ≤ q → q < m → wtP xs m < wtP xs q) : PermS a b xs ys :=
  ⟨h.pm, fil_rot (s := i) (m := m) (e := m + 1) h.pm.len (by omega) (by omega) (by omega) (fun q => by
    rw [h.rd]
    have c1 := dnI_cases i m q
    have c2 := rotI_cases i m (m + 1) q
    congr 1; omega) (fun p q p1 p2 p3 p4 => by
    have := h2 p p1 p2
    rw [show q = m by omega]
    omega)⟩
/-- The parts are cut and turned: what stands ahead of mid is no heavier than what stands behind it. -/
theorem merge_split {a m b st en mid : Nat} {xs ys : List Pk} (h1 : Sorted a m xs) (h2 : Sorted m b xs) (hr : a ≤ st ∧ st ≤ m ∧ m ≤ en ∧ en ≤ b) (hm : mid = st + (en - m))
    (x1 : a < st → en < b → wtP xs (st - 1) ≤ wtP xs en) (x2 : st < m → m < en → wtP xs (en - 1) ≤ wtP xs st) (hy : ∀ k, rdP ys k = rdP xs (rotI st m en k)) :
    Sorted a st ys ∧ Sorted st mid ys ∧ Sorted mid en ys ∧ Sorted en b ys ∧ ∀ p q, a ≤ p → p < mid → mid ≤ q → q < b → wtP ys p ≤ wtP ys q := by
  have hw : ∀ k, wtP ys k = wtP xs (rotI st m en k) := fun k => by unfold wtP; rw [hy]
  refine ⟨fun p q p1 p2 p3 => ?_, fun p q p1 p2 p3 => ?_, fun p q p1 p2 p3 => ?_, fun p q p1 p2 p3 => ?_, fun p q p1 p2 p3 p4 => ?_⟩
  · have c1 := rotI_cases st m en p
    have c2 := rotI_cases st m en q
    rw [hw, hw]
    exact h1.le (by omega) (by omega) (by omega)
  · have c1 := rotI_cases st m en p
    have c2 := rotI_cases st m en q
    rw [hw, hw]
    exact h2.le (by omega) (by omega) (by omega)
  · have c1 := rotI_cases st m en p
    have c2 := rotI_cases st m en q
    rw [hw, hw]
    exact h1.le (by omega) (by omega) (by omega)
  · have c1 := rotI_cases st m en p
    have c2 := rotI_cases st m en q
    rw [hw, hw]
    exact h2.le (by omega) (by omega) (by omega)
  · have c1 := rotI_cases st m en p
    have c2 := rotI_cases st m en q
    rw [hw, hw]
    by_cases e1 : p < st
    · by_cases e2 : q < en
      · exact h1.le (by omega) (by omega) (by omega)
      · have y1 : wtP xs (rotI st m en p) ≤ wtP xs (st - 1) := h1.le (by omega) (by omega) (by omega)
        have y2 : wtP xs en ≤ wtP xs (rotI st m en q) := h2.le (by omega) (by omega) (by omega)
        have := x1 (by omega) (by omega)
        omega
    · by_cases e2 : q < en
      · have y1 : wtP xs (rotI st m en p) ≤ wtP xs (en - 1) := h2.le (by omega) (by omega) (by omega)
        have y2 : wtP xs st ≤ wtP xs (rotI st m en q) := h1.le (by omega) (by omega) (by omega)
        have := x2 (by omega) (by omega)
        omega
      · exact h2.le (by omega) (by omega) (by omega)
/-- The turn keeps packs of one weight in their order. -/
theorem merge_perm {a m b st en : Nat} {xs ys : List Pk} (hp : PermIn a b xs ys) (h1 : Sorted a m xs) (h2 : Sorted m b xs) (hr : a ≤ st ∧ st ≤ m ∧ m ≤ en ∧ en ≤ b) (hb : b ≤ xs.length)
    (x2 : st < m → m < en → wtP xs (en - 1) < wtP xs st) (hy : ∀ k, rdP ys k = rdP xs (rotI st m en k)) : PermS a b xs ys :=
  ⟨hp, fil_rot hp.len hr.2.1 hr.2.2.1 (by omega) hy (fun p q p1 p2 p3 p4 => by
    have y1 : wtP xs st ≤ wtP xs p := h1.le hr.1 p1 p2
    have y2 : wtP xs q ≤ wtP xs (en - 1) := h2.le p3 (by omega) (by omega)
    have := x2 (by omega) (by omega)
    omega)⟩
theorem merge_join {a mid b : Nat} {ys zs us : List Pk} (hz : PermIn a mid ys zs) (sz : Sorted a mid zs) (hu : PermIn mid b zs us) (su : Sorted mid b us) (hx : ∀ p q, a ≤ p → p < mid → mid ≤ q → q < b → wtP ys p ≤ wtP ys q) : Sorted a b us := fun p q p1 p2 p3 => by
  by_cases e1 : q < mid
  · unfold wtP
    rw [hu.out p (by omega), hu.out q (by omega)]
    exact sz p q p1 p2 e1
  · by_cases e2 : mid ≤ p
    · exact su p q e2 p2 p3
    · obtain ⟨p', a1, a2, a3⟩ := hz.inn p p1 (by omega)
      obtain ⟨q', b1, b2, b3⟩ := hu.inn q (by omega) p3
      unfold wtP
      rw [hu.out p (by omega), a3, b3, hz.out q' (by omega)]
      exact hx p' q' a1 a2 b1 b2
/-- The cut is looked for: behind c the second part is lighter. -/
structure CutR (a m b lo hi n s r : Nat) (xs : List Pk) : Prop where
  rg : lo ≤ s ∧ s ≤ r ∧ r ≤ hi
  lt : ∀ c, lo ≤ c → c < s → wtP xs c ≤ wtP xs (n - 1 - c)
  ge : ∀ c, r ≤ c → c < hi → wtP xs (n - 1 - c) < wtP xs c
/-- The bounds of the search. -/
structure CutB (a m b lo hi n : Nat) : Prop where
  ham : a < m ∧ m < b
  hn : n = (a + b) / 2 + m
  hlo : a ≤ lo ∧ lo ≤ hi ∧ hi ≤ m
  hin : ∀ c, lo ≤ c → c < hi → m ≤ n - 1 - c ∧ n - 1 - c < b
  hl : lo = a ∨ n - lo = b
  hh : hi = m ∨ n - hi = m
  hen : m ≤ n - hi ∧ n - lo ≤ b
theorem CutB.mk1 {a m b : Nat} (h : a < m ∧ m < b) (hm : (a + b) / 2 < m) : CutB a m b ((a + b) / 2 + m - b) ((a + b) / 2) ((a + b) / 2 + m) := ⟨h, rfl, by omega, fun c h1 h2 => by omega, Or.inr (by omega), Or.inr (by omega), by omega⟩
theorem CutB.mk2 {a m b : Nat} (h : a < m ∧ m < b) (hm : m ≤ (a + b) / 2) : CutB a m b a m ((a + b) / 2 + m) := ⟨h, rfl, by omega, fun c h1 h2 => by omega, Or.inl rfl, Or.inl rfl, by omega⟩
theorem CutR.start {a m b lo hi n : Nat} {xs : List Pk} (h : CutB a m b lo hi n) : CutR a m b lo hi n lo hi xs := ⟨by have := h.hlo; omega, fun c h1 h2 => by omega, fun c h1 h2 => by omega⟩
theorem CutR.up {a m b lo hi n s r c : Nat} {xs : List Pk} (hb : CutB a m b lo hi n) (h1 : Sorted a m xs) (h2 : Sorted m b xs) (h : CutR a m b lo hi n s r xs) (hc : s ≤ c ∧ c < r) (hw : wtP xs c ≤ wtP xs (n - 1 - c)) : CutR a m b lo hi n (c + 1) r xs := by
  have hr := h.rg
  have hl := hb.hlo
  refine ⟨by omega, fun d d1 d2 => ?_, h.ge⟩
  have i1 := hb.hin c (by omega) (by omega)
  have i2 := hb.hin d (by omega) (by omega)
  have y1 : wtP xs d ≤ wtP xs c := h1.le (by omega) (by omega) (by omega)
  have y2 : wtP xs (n - 1 - c) ≤ wtP xs (n - 1 - d) := h2.le (by omega) (by omega) (by omega)
  omega
theorem CutR.dn {a m b lo hi n s r c : Nat} {xs : List Pk} (hb : CutB a m b lo hi n) (h1 : Sorted a m xs) (h2 : Sorted m b xs) (h : CutR a m b lo hi n s r xs) (hc : s ≤ c ∧ c < r) (hw : wtP xs (n - 1 - c) < wtP xs c) : CutR a m b lo hi n s c xs := by
  have hr := h.rg
  have hl := hb.hlo
  refine ⟨by omega, h.lt, fun d d1 d2 => ?_⟩
  have i1 := hb.hin c (by omega) (by omega)
  have i2 := hb.hin d (by omega) (by omega)
  have y1 : wtP xs c ≤ wtP xs d := h1.le (by omega) (by omega) (by omega)
  have y2 : wtP xs (n - 1 - d) ≤ wtP xs (n - 1 - c) := h2.le (by omega) (by omega) (by omega)
  omega
theorem CutR.done {a m b lo hi n s : Nat} {xs : List Pk} (hb : CutB a m b lo hi n) (h : CutR a m b lo hi n s s xs) : (a ≤ s ∧ s ≤ m ∧ m ≤ n - s ∧ n - s ≤ b) ∧ (a + b) / 2 = s + (n - s - m) ∧ (a < s → n - s < b → wtP xs (s - 1) ≤ wtP xs (n - s)) ∧ (s < m → m < n - s → wtP xs (n - s - 1) < wtP xs s) := by
  have hr := h.rg
  have hl := hb.hlo
  have hn := hb.hn
  have he := hb.hen
  have h5 := hb.hl
  have h6 := hb.hh
  refine ⟨by omega, by omega, fun c1 c2 => ?_, fun c1 c2 => ?_⟩
  · have := h.lt (s - 1) (by omega) (by omega)
    rw [show n - 1 - (s - 1) = n - s by omega] at this
    exact this
  · have := h.ge s (Nat.le_refl _) (by omega)
    rw [show n - 1 - s = n - s - 1 by omega] at this
    exact this
end Go.Proofs.Ytaghmhcccighgaa.HF
end
section
/- Blocks that do not fall, and their merging, plain. -/
namespace Go.Proofs.Ytaghmhcccighgaa.HF
/-- Every block of s elements of the first n does not fall. -/
def Bl (s n : Nat) (xs : List Pk) : Prop := ∀ x, s ∣ x → x < n → Sorted x (min (x + s) n) xs
/-- The whole blocks of d elements ahead of a do not fall. -/
def Pre (d a : Nat) (xs : List Pk) : Prop := ∀ x, d ∣ x → x < a → Sorted x (x + d) xs
/-- The blocks of s elements from a on do not fall. -/
def Rest (s a n : Nat) (xs : List Pk) : Prop := ∀ x, s ∣ x → a ≤ x → x < n → Sorted x (min (x + s) n) xs
theorem dvd_step {d x a : Nat} (hx : d ∣ x) (ha : d ∣ a) (h : x < a) : x + d ≤ a := by
  obtain ⟨k, rfl⟩ := hx
  obtain ⟨l, rfl⟩ := ha
  have hkl : k < l := by
    by_cases c : k < l
    · exact c
    · have := Nat.mul_le_mul_left d (show l ≤ k by omega)
      omega
  have := Nat.mul_le_mul_left d (show k + 1 ≤ l by omega)
  rw [Nat.mul_add] at this
  omega
theorem Pre.zero (d : Nat) (xs : List Pk) : Pre d 0 xs := fun x _ h => by omega
theorem Pre.step {d a : Nat} {xs ys : List Pk} (h : Pre d a xs) (ha : d ∣ a) (hp : PermIn a (a + d) xs ys) (hs : Sorted a (a + d) ys) : Pre d (a + d) ys := fun x hx hl => by
  by_cases c : x < a
  · have := dvd_step hx ha c
    exact (h x hx c).congr (fun k h1 h2 => hp.out k (by omega))
  · by_cases e : a < x
    · have := dvd_step ha hx e
      omega
    · rw [show x = a by omega]
      exact hs
theorem Pre.close {d a n : Nat} {xs ys : List Pk} (h : Pre d a xs) (ha : d ∣ a) (hn : a ≤ n ∧ n < a + d) (hp : PermIn a n xs ys) (hs : Sorted a n ys) : Bl d n ys := fun x hx hl => by
  by_cases c : x < a
  · have := dvd_step hx ha c
    rw [show min (x + d) n = x + d by omega]
    exact (h x hx c).congr (fun k h1 h2 => hp.out k (by omega))
  · by_cases e : a < x
    · have := dvd_step ha hx e
      omega
    · rw [show min (x + d) n = n by omega, show x = a by omega]
      exact hs
theorem Rest.start {s n : Nat} {xs : List Pk} (h : Bl s n xs) : Rest s 0 n xs := fun x hx _ hl => h x hx hl
theorem Rest.step {s a b n : Nat} {xs ys : List Pk} (h : Rest s a n xs) (hp : PermIn a b xs ys) (hab : a ≤ b) : Rest s b n ys := fun x hx h1 h2 => (h x hx (by omega) h2).congr (fun k k1 _ => hp.out k (by omega))
theorem Rest.fst {s a n : Nat} {xs : List Pk} (h : Rest s a n xs) (ha : s ∣ a) (hn : a + s ≤ n) (hs : 0 < s) : Sorted a (a + s) xs := by
  have := h a ha (Nat.le_refl _) (by omega)
  rw [show min (a + s) n = a + s by omega] at this
  exact this
theorem Rest.snd {s a e n : Nat} {xs : List Pk} (h : Rest s a n xs) (ha : s ∣ a) (hn : a + s < n) (he : e = min (a + s + s) n) : Sorted (a + s) e xs := by
  rw [he]
  exact h (a + s) (Nat.dvd_add ha (Nat.dvd_refl s)) (by omega) hn
theorem Rest.one {s a n : Nat} {xs : List Pk} (h : Rest s a n xs) (ha : s ∣ a) (hn : a ≤ n ∧ n ≤ a + s) : Sorted a n xs := by
  by_cases c : a < n
  · have := h a ha (Nat.le_refl _) c
    rw [show min (a + s) n = n by omega] at this
    exact this
  · exact fun p q h1 h2 h3 => by omega
theorem Bl.all {s n : Nat} {xs : List Pk} (h : Bl s n xs) (hs : n ≤ s) : Sorted 0 n xs := by
  by_cases c : 0 < n
  · have := h 0 (Nat.dvd_zero s) c
    rw [show min (0 + s) n = n by omega] at this
    exact this
  · exact fun p q h1 h2 h3 => by omega
end Go.Proofs.Ytaghmhcccighgaa.HF
end
section
/- The best code's lengths, plain: the stable sort, the levels, the tally. -/
namespace Go.Proofs.Ytaghmhcccighgaa.HF
open Go.Proofs.YtaghmhcccighgaaW.PrintWords
/-- A pack: its weight, its symbols. -/
abbrev PkA := Int × List Int
def Pk.abs (p : Pk) : PkA := (p.wt, p.of)
def ins1 (x : PkA) : List PkA → List PkA
  | [] => [x]
  | y :: r => if x.1 ≤ y.1 then x :: y :: r else y :: ins1 x r
def isort : List PkA → List PkA
  | [] => []
  | x :: r => ins1 x (isort r)
theorem ins1_perm (x : PkA) : ∀ l, (ins1 x l).Perm (x :: l)
  | [] => .refl _
  | y :: r => by
    unfold ins1
    split
    · exact .refl _
    · exact ((ins1_perm x r).cons y).trans (List.Perm.swap x y r)
theorem isort_perm : ∀ l, (isort l).Perm l
  | [] => .refl _
  | x :: r => (ins1_perm x (isort r)).trans ((isort_perm r).cons x)
def LeA (a b : PkA) : Prop := a.1 ≤ b.1
theorem ins1_sorted (x : PkA) : ∀ l, l.Pairwise LeA → (ins1 x l).Pairwise LeA
  | [], _ => List.pairwise_singleton _ _
  | y :: r, h => by
    obtain ⟨h1, h2⟩ := List.pairwise_cons.1 h
    unfold ins1
    split
    · rename_i hxy
      exact List.pairwise_cons.2 ⟨fun z hz => by
        rcases List.mem_cons.1 hz with rfl | hz
        · exact hxy
        · exact Int.le_trans hxy (h1 z hz), h⟩
    · rename_i hxy
      refine List.pairwise_cons.2 ⟨fun z hz => ?_, ins1_sorted x r h2⟩
      rcases List.mem_cons.1 ((ins1_perm x r).mem_iff.1 hz) with rfl | hz
      · show y.1 ≤ z.1
        omega
      · exact h1 z hz
theorem isort_sorted : ∀ l, (isort l).Pairwise LeA
  | [] => List.Pairwise.nil
  | x :: r => ins1_sorted x _ (isort_sorted r)
theorem ins1_fil (w : Int) (x : PkA) : ∀ l, l.Pairwise LeA → (ins1 x l).filter (fun p => p.1 == w) = (x :: l).filter (fun p => p.1 == w)
  | [], _ => rfl
  | y :: r, h => by
    obtain ⟨h1, h2⟩ := List.pairwise_cons.1 h
    unfold ins1
    split
    · rfl
    · rename_i hxy
      have ih := ins1_fil w x r h2
      rw [List.filter_cons, ih, List.filter_cons, List.filter_cons, List.filter_cons]
      by_cases e1 : y.1 = w
      · have e2 : ¬ x.1 = w := by omega
        simp [e1, e2]
      · simp [e1]
theorem isort_fil (w : Int) : ∀ l, (isort l).filter (fun p => p.1 == w) = l.filter (fun p => p.1 == w)
  | [] => rfl
  | x :: r => by
    unfold isort
    rw [ins1_fil w x _ (isort_sorted r), List.filter_cons, List.filter_cons, isort_fil w r]
theorem sorted_uniq : ∀ xs ys : List PkA, xs.Pairwise LeA → ys.Pairwise LeA → (∀ w, xs.filter (fun p => p.1 == w) = ys.filter (fun p => p.1 == w)) → xs = ys
  | [], [], _, _, _ => rfl
  | [], y :: ys, _, _, h => by
    have := h y.1
    simp at this
  | x :: xs, [], _, _, h => by
    have := h x.1
    simp at this
  | x :: xs, y :: ys, h1, h2, h => by
    obtain ⟨a1, a2⟩ := List.pairwise_cons.1 h1
    obtain ⟨b1, b2⟩ := List.pairwise_cons.1 h2
    have hx := h x.1
    have hy := h y.1
    have m1 : y ∈ (x :: xs).filter (fun p => p.1 == y.1) := by rw [hy]; simp
    have m2 : x ∈ (y :: ys).filter (fun p => p.1 == x.1) := by rw [← hx]; simp
    have l1 : x.1 ≤ y.1 := by
      rcases List.mem_cons.1 (List.mem_filter.1 m1).1 with rfl | hm
      · exact Int.le_refl _
      · exact a1 y hm
    have l2 : y.1 ≤ x.1 := by
      rcases List.mem_cons.1 (List.mem_filter.1 m2).1 with rfl | hm
      · exact Int.le_refl _
      · exact b1 x hm
    have e : y.1 = x.1 := by omega
    rw [List.filter_cons, List.filter_cons] at hx
    simp only [e, beq_self_eq_true, if_true] at hx
    injection hx with hxy _
    subst hxy
    refine congrArg (x :: ·) (sorted_uniq xs ys a2 b2 fun w => ?_)
    have hw := h w
    rw [List.filter_cons, List.filter_cons] at hw
    split at hw
    · injection hw
    · exact hw
theorem fil_abs (w : Int) (xs : List Pk) : (xs.map Pk.abs).filter (fun p => p.1 == w) = (xs.filter (fun p => p.wt == w)).map Pk.abs := by
  rw [List.filter_map]
  rfl
/-- What the sort leaves, plain. -/
theorem sort_abs {xs ys : List Pk} {n : Nat} (hl : n = xs.length) (hp : PermS 0 n xs ys) (hs : Sorted 0 n ys) : ys.map Pk.abs = isort (xs.map Pk.abs) := by
  refine sorted_uniq _ _ ?_ (isort_sorted _) fun w => ?_
  · rw [List.pairwise_iff_getElem]
    intro i j hi hj hij
    simp only [List.length_map] at hi hj
    have hll := hp.len
    have := hs i j (Nat.zero_le _) hij (by omega)
    unfold wtP at this
    rw [rdP_get _ _ hi, rdP_get _ _ hj] at this
    rw [List.getElem_map, List.getElem_map]
    exact this
  · rw [isort_fil, fil_abs, fil_abs, hp.fil w]
/-- The coins: a pack for each symbol that comes. -/
def coinsF : Int → List Int → List PkA
  | _, [] => []
  | i, f :: r => if 0 < f then (f, [i]) :: coinsF (i + 1) r else coinsF (i + 1) r
theorem coinsF_snoc (f : Int) : ∀ (l : List Int) (i : Int), coinsF i (l ++ [f]) = coinsF i l ++ (if 0 < f then [(f, [i + l.length])] else [])
  | [], i => by
    simp only [List.nil_append, coinsF, List.length_nil]
    split <;> simp
  | x :: r, i => by
    have ih := coinsF_snoc f r (i + 1)
    simp only [List.cons_append, coinsF]
    rw [ih]
    have e : i + 1 + (r.length : Int) = i + ((x :: r).length : Int) := by simp; omega
    rw [e]
    split <;> simp
theorem coinsF_le : ∀ (l : List Int) (i : Int), (coinsF i l).length ≤ l.length
  | [], _ => Nat.le_refl _
  | x :: r, i => by
    have := coinsF_le r (i + 1)
    unfold coinsF
    split <;> simp <;> omega
def pairsL : List PkA → List PkA
  | x :: y :: r => (x.1 + y.1, x.2 ++ y.2) :: pairsL r
  | _ => []
theorem pairsL_len : ∀ l : List PkA, (pairsL l).length = l.length / 2
  | [] => rfl
  | [_] => by simp [pairsL]
  | x :: y :: r => by
    unfold pairsL
    simp only [List.length_cons]
    rw [pairsL_len r]
    omega
theorem pairsL_step : ∀ (l : List PkA) (j : Nat) (h : 2 * j + 1 < l.length), pairsL (l.take (2 * (j + 1))) = pairsL (l.take (2 * j)) ++ [(l[2 * j].1 + l[2 * j + 1].1, l[2 * j].2 ++ l[2 * j + 1].2)]
  | [], _, h => by simp at h
  | [_], _, h => by simp at h
  | x :: y :: r, 0, _ => by simp [pairsL]
  | x :: y :: r, j + 1, h => by
    have ih := pairsL_step r j (by simp at h; omega)
    have e1 : (x :: y :: r).take (2 * (j + 1 + 1)) = x :: y :: r.take (2 * (j + 1)) := by rw [show 2 * (j + 1 + 1) = 2 * (j + 1) + 1 + 1 by omega]; rfl
    have e2 : (x :: y :: r).take (2 * (j + 1)) = x :: y :: r.take (2 * j) := by rw [show 2 * (j + 1) = 2 * j + 1 + 1 by omega]; rfl
    rw [e1, e2]
    simp only [pairsL, ih, List.cons_append]
    have e3 : 2 * (j + 1) = 2 * j + 1 + 1 := by omega
    simp [e3]
theorem pairsL_end : ∀ (l : List PkA) (j : Nat), l.length ≤ 2 * j + 1 → pairsL (l.take (2 * j)) = pairsL l
  | [], _, _ => by simp
  | [x], j, _ => by
    cases j with
    | zero => rfl
    | succ j => rw [show 2 * (j + 1) = 2 * j + 1 + 1 by omega]; rfl
  | x :: y :: r, 0, h => by simp at h
  | x :: y :: r, j + 1, h => by
    have ih := pairsL_end r j (by simp at h; omega)
    have e2 : (x :: y :: r).take (2 * (j + 1)) = x :: y :: r.take (2 * j) := by rw [show 2 * (j + 1) = 2 * j + 1 + 1 by omega]; rfl
    rw [e2]
    simp only [pairsL, ih]
/-- The packs and coins of each level, by weight. -/
def levels (SC : List PkA) : Nat → List PkA
  | 0 => SC
  | k + 1 => isort (SC ++ pairsL (levels SC k))
theorem levels_len (SC : List PkA) (k : Nat) : (levels SC (k + 1)).length = SC.length + (levels SC k).length / 2 := by
  show (isort _).length = _
  rw [(isort_perm _).length_eq, List.length_append, pairsL_len]
theorem levels_le (SC : List PkA) : ∀ k, (levels SC k).length ≤ 2 * SC.length
  | 0 => by show SC.length ≤ _; omega
  | k + 1 => by have := levels_le SC k; rw [levels_len]; omega
/-- Enough packs stand at the last level. -/
theorem levels_ge (SC : List PkA) {m : Nat} (h : SC.length ≤ 2 ^ m) : ∀ k, k ≤ m → 2 * SC.length - (levels SC k).length ≤ 2 ^ (m - k)
  | 0, _ => by show 2 * SC.length - SC.length ≤ _; rw [Nat.sub_zero]; omega
  | k + 1, hk => by
    have ih := levels_ge SC h k (by omega)
    have hl := levels_le SC k
    rw [levels_len]
    have e : 2 ^ (m - k) = 2 * 2 ^ (m - (k + 1)) := by rw [show m - k = (m - (k + 1)) + 1 by omega, Nat.pow_succ]; omega
    rw [e] at ih
    omega
/-- What is known of a pack of level k: weight, symbols. -/
structure PB (k m : Nat) (p : PkA) : Prop where
  pos : 0 < p.1
  wle : p.1 ≤ 1099511627776 * (2 ^ k : Nat)
  ole : p.2.length ≤ 2 ^ k
  rng : ∀ i ∈ p.2, 0 ≤ i ∧ i < m
theorem PB.up {k m : Nat} {p : PkA} (h : PB k m p) : PB (k + 1) m p := by
  have e : 2 ^ (k + 1) = 2 * 2 ^ k := by rw [Nat.pow_succ]; omega
  exact ⟨h.pos, by have := h.wle; have := h.pos; omega, by have := h.ole; omega, h.rng⟩
theorem PB.two {k m : Nat} {p q : PkA} (h : PB k m p) (h2 : PB k m q) : PB (k + 1) m (p.1 + q.1, p.2 ++ q.2) := by
  have e : 2 ^ (k + 1) = 2 * 2 ^ k := by rw [Nat.pow_succ]; omega
  have a1 := h.wle
  have a2 := h2.wle
  have a3 := h.ole
  have a4 := h2.ole
  have a5 := h.pos
  have a6 := h2.pos
  refine ⟨by show 0 < p.1 + q.1; omega, by show p.1 + q.1 ≤ _; omega, by show (p.2 ++ q.2).length ≤ _; rw [List.length_append]; omega, fun i hi => ?_⟩
  rcases List.mem_append.1 hi with hi | hi
  · exact h.rng i hi
  · exact h2.rng i hi
theorem pairs_PB {k m : Nat} : ∀ l : List PkA, (∀ p ∈ l, PB k m p) → ∀ p ∈ pairsL l, PB (k + 1) m p
  | [], _ => fun p hp => by cases hp
  | [_], _ => fun p hp => by cases hp
  | x :: y :: r, h => fun p hp => by
    unfold pairsL at hp
    rcases List.mem_cons.1 hp with rfl | hp
    · exact (h x (by simp)).two (h y (by simp))
    · exact pairs_PB r (fun q hq => h q (by simp [hq])) p hp
theorem PB.upN {m : Nat} {p : PkA} (h : PB 0 m p) : ∀ k, PB k m p
  | 0 => h
  | k + 1 => (PB.upN h k).up
theorem levels_PB {m : Nat} {SC : List PkA} (h : ∀ p ∈ SC, PB 0 m p) : ∀ k, ∀ p ∈ levels SC k, PB k m p
  | 0 => h
  | k + 1 => fun p hp => by
    rcases List.mem_append.1 ((isort_perm _).mem_iff.1 hp) with hp | hp
    · exact (h p hp).upN (k + 1)
    · exact pairs_PB _ (levels_PB h k) p hp
theorem coins_PB {m : Nat} : ∀ (l : List Int) (i : Nat), (∀ f ∈ l, f ≤ 1099511627776) → i + l.length ≤ m → ∀ p ∈ coinsF i l, PB 0 m p
  | [], _, _, _ => fun p hp => by cases hp
  | f :: r, i, h, hm => fun p hp => by
    have ih := coins_PB (m := m) r (i + 1) (fun g hg => h g (by simp [hg])) (by simp at hm; omega)
    unfold coinsF at hp
    split at hp
    · rcases List.mem_cons.1 hp with rfl | hp
      · refine ⟨by assumption, by have := h f (by simp); show f ≤ _; simpa using this, by simp, fun j hj => ?_⟩
        rw [List.mem_singleton.1 hj]
        simp at hm
        omega
      · exact ih p (by simpa using hp)
    · exact ih p (by simpa using hp)
def bump (o : List Int) (i : Int) : List Int := o.set i.toNat (rd o i + 1)
theorem bump_len (o : List Int) (i : Int) : (bump o i).length = o.length := by unfold bump; rw [List.length_set]
def tally (o : List Int) (ps : List PkA) : List Int := ps.foldl (fun o p => p.2.foldl bump o) o
theorem bumps_len : ∀ (is : List Int) (o : List Int), (is.foldl bump o).length = o.length
  | [], _ => rfl
  | i :: is, o => by rw [List.foldl_cons, bumps_len is, bump_len]
theorem tally_len : ∀ (ps : List PkA) (o : List Int), (tally o ps).length = o.length
  | [], _ => rfl
  | p :: ps, o => by
    show (tally (p.2.foldl bump o) ps).length = _
    rw [tally_len ps, bumps_len]
/-- Every number lies between. -/
def Bd (o : List Int) (b : Nat) : Prop := ∀ x ∈ o, 0 ≤ x ∧ x ≤ b
theorem Bd.at_ {o : List Int} {b : Nat} (h : Bd o b) (i : Int) : 0 ≤ rd o i ∧ rd o i ≤ b := by
  unfold rd
  rw [List.getD_eq_getElem?_getD]
  cases e : o[i.toNat]? with
  | none => simp
  | some x => exact h x (List.mem_of_getElem? e)
theorem Bd.bump {o : List Int} {b : Nat} (h : Bd o b) (i : Int) : Bd (bump o i) (b + 1) := fun x hx => by
  rcases List.mem_or_eq_of_mem_set hx with hx | rfl
  · have := h x hx; omega
  · have := h.at_ i; omega
theorem Bd.mono {o : List Int} {b b' : Nat} (h : Bd o b) (hb : b ≤ b') : Bd o b' := fun x hx => by have := h x hx; omega
theorem Bd.zero (n : Nat) : Bd (List.replicate n 0) 0 := fun x hx => by rw [List.eq_of_mem_replicate hx]; omega
/-- The lengths. -/
def lensL (freqs : List Int) (most : Nat) : List Int :=
  if (coinsF 0 freqs).length = 1 then (List.replicate freqs.length 0).set (((coinsF 0 freqs).getD 0 (0, [])).2.getD 0 0).toNat 1
  else if (coinsF 0 freqs).length < 2 then List.replicate freqs.length 0
  else tally (List.replicate freqs.length 0) ((levels (isort (coinsF 0 freqs)) (most - 1)).take (2 * (coinsF 0 freqs).length - 2))
def okLens (freqs : List Int) (most : Int) : Bool := decide (freqs.length ≤ 288) && (decide (1 ≤ most ∧ most ≤ 15) && (countedL freqs && decide ((coinsF 0 freqs).length ≤ 2 ^ most.toNat)))
end Go.Proofs.Ytaghmhcccighgaa.HF
end
section
/- slices.insertionSortCmpFunc of packs: walked. (printed by hins.py) -/
namespace Go.Proofs.Ytaghmhcccighgaa.HF
open Go.RowKit Go.Proofs.YtaghmhcccighgaaW.PrintWords Go.Proofs.YtaghmhcccighgaaW.PrintLast Go.Proofs.YtaghmhcccighgaaW.PrintMore Go.Proofs.Ytaghmhcccighgaa.HW Go.Proofs.Ytaghmhcccighgaa.MB Go.Proofs.Ytaghmhcccighgaa.Fn
attribute [local go_sem] max2_int min2_int max_two min_two max_three min_three max_four min_four   -- for this text's walks alone
/-- A row of packs that is being sorted. -/
structure SD (W w : World) (B g n c : Nat) (xs : List Pk) : Prop where
  fr : Fr (fun k => k = g) W w
  ro : kP.R 108 w B (fun _ => True) (.slice (some ⟨g, 0, none⟩) n c) xs
theorem SD.below {W w w' : World} {B g n c : Nat} {xs : List Pk} (h : SD W w B g n c xs) (hb : Below w.heap.size w w') : SD W w' B g n c xs := ⟨h.fr.add hb, Kd.R_below h.ro hb⟩
theorem SD.drew {W w : World} {B g n c : Nat} {xs : List Pk} (h : SD W w B g n c xs) : SD W w.drew B g n c xs := h.below (below_drew (Below.refl _ _))
theorem SD.drewN {W w : World} {B g n c : Nat} {xs : List Pk} (h : SD W w B g n c xs) (m : Nat) : SD W (w.drewN m) B g n c xs := ⟨h.fr.drewN m, Kd.R_drewN h.ro m⟩
theorem SD.step {W w w' : World} {B g n c : Nat} {xs ys : List Pk} (h : SD W w B g n c xs) (hr : kP.R 108 w' B (fun _ => True) (.slice (some ⟨g, 0, none⟩) n c) ys) (hf : Fr (fun k => k = g) w w') : SD W w' B g n c ys := ⟨h.fr.then_ hf (fun _ hk => Or.inl hk), hr⟩
theorem SD.len {W w : World} {B g n c : Nat} {xs : List Pk} (h : SD W w B g n c xs) : n = xs.length ∧ n ≤ c := ⟨(Kd.R_reads' h.ro).1, (Kd.R_reads' h.ro).2.1⟩
/-- What a sort of a part leaves. -/
def SQ (W : World) (B g n c a b : Nat) (xs : List Pk) (e : Ending) (w' : World) : Prop := e = .returned (.tuple #[]) ∧ ∃ ys, SD W w' B g n c ys ∧ PermS a b xs ys ∧ Sorted a b ys
set_option maxRecDepth 100000 in
set_option maxHeartbeats 8000000 in
theorem insert_ok {W : World} {B g n c : Nat} (xs : List Pk) (a b : Nat) (h : SD W W B g n c xs) (hb : b ≤ n) (hn : n ≤ 1000000) (ha : a ≤ 1000000) :
    Calls Try.prog 75 #[.slice (some ⟨g, 0, none⟩) n c, .int .i64 a, .int .i64 b, .func (.func 63) #[] #[]] W (SQ W B g n c a b xs) := by
  have hu := Try.underlying108
  have HS0 := Aside0.mk h
  have hb64 : b ≤ 1000000 := by omega
  have HBN := Aside0.mk hb
  clear h hb
  go_enter Try.func75, Try.ntmps75
  go_wp2_with fail
  go_loopw [8] (fun v8 wr => ∃ (i : Nat) (ys : List Pk), v8 = .int .i64 i ∧ a + 1 ≤ i ∧ (i ≤ b ∨ i = a + 1) ∧ Aside0 (SD W wr B g n c ys) ∧ Aside0 (PermS a b xs ys) ∧ Aside0 (Sorted a i ys)) (fun v8 _ => b - (intOf v8).toNat)
  case atStart => exact ⟨a + 1, xs, by simp, Nat.le_refl _, Or.inr rfl, HS0, ⟨PermS.refl _ _ _⟩, ⟨fun p q h1 h2 h3 => by omega⟩⟩
  case round =>
    obtain ⟨i, ys, rfl, hi1, hi2, HS, HP, HO⟩ := hrel
    by_cases hlt : i < b
    · have hb1 : decide (i < b) = true := by simp; omega
      have HI := Aside0.mk (And.intro hlt hi1)
      have hi64 : i ≤ 1000000 := by omega
      have HIN := Aside0.mk (InsI.start HP.out HO.out (by omega))
      obtain ⟨wo, hwo⟩ : ∃ wo : World, wo = wr := ⟨_, rfl⟩
      subst hwo
      clear hlt hi1 hi2 HP HO HS0
      go_wp2_with fail
      go_loopw [9] (fun v9 wr => ∃ (j : Nat) (zs : List Pk), v9 = .int .i64 j ∧ Aside0 (SD W wr B g n c zs) ∧ Aside0 (InsI a b i j xs zs)) (fun v9 _ => (intOf v9).toNat)
      case atStart => exact ⟨i, ys, rfl, HS, HIN⟩
      case round =>
        clear HS HIN
        obtain ⟨j, zs, rfl, HS, HIN⟩ := hrel
        have hjr := HIN.out.rg
        have hbn := HBN.out
        have hlen := HS.out.len
        by_cases hja : a < j
        · have hb2 : decide (a < j) = true := by simp; omega
          have hb2i : decide ((a : Int) < (j : Int)) = true := by simp; omega
          obtain ⟨c0, c1⟩ := atP HS.out.ro j (by omega)
          obtain ⟨d0, d1⟩ := atP HS.out.ro (j - 1) (by omega)
          obtain ⟨⟨x0, x1, x2, x3, x4⟩, hx⟩ : ∃ z, rdP zs j = z := ⟨_, rfl⟩
          obtain ⟨⟨y0, y1, y2, y3, y4⟩, hy⟩ : ∃ z, rdP zs (j - 1) = z := ⟨_, rfl⟩
          rw [hx] at c0 c1
          rw [hy] at d0 d1
          simp only at c0 c1 d0 d1
          have HX := Aside0.mk (And.intro hx hy)
          have q1 : (0 : Int) ≤ (j : Int) := by omega
          have q2 : (j : Int) < (n : Int) := by omega
          have q3 : (0 : Int) ≤ (j : Int) - 1 := by omega
          have q4 : (j : Int) - 1 < (n : Int) := by omega
          have q5 : ((j : Int) - 1).toNat = j - 1 := by omega
          have q6 : IntKind.i64.wrap ((j : Int) - 1) = (j : Int) - 1 := IntWalk.i64_in _ (by omega)
          have q7 : (j : Int).toNat = j := Int.toNat_natCast j
          have q8 : wrap64 ((j : Int) - 1) = (j : Int) - 1 := wrap64_id _ (by omega) (by omega)
          have HJ := Aside0.mk (And.intro hja (And.intro hjr hbn))
          have hj1 : 1 ≤ j := by omega
          have q9 : (1 : Int) ≤ (j : Int) := by omega
          clear hx hy hja hjr hbn hlen
          go_upto_region 4 with (fail)
          refine wp_region_any (by kernel_rfl) ?_
          change wpAny _ _ _ _ _ _ _ (World.drew _)
          refine wpAny_take (i := 0) (v := ?vp1) rfl (by kernel_rfl) (by kernel_rfl) (by kernel_rfl) (fun _ _ _ h => h) (Or.inl ⟨by kernel_rfl, ?yp1⟩) ?_
          case yp1 => (intro w; go_simp; try with_reducible rfl)
          refine wpAny_take (i := 1) (v := ?vp2) rfl (by kernel_rfl) (by kernel_rfl) (by kernel_rfl) (fun _ _ _ h => h) (Or.inl ⟨by kernel_rfl, ?yp2⟩) ?_
          case yp2 => (intro w; go_simp; try with_reducible rfl)
          refine wpAny_take (i := 2) (v := ?vp3) rfl (by kernel_rfl) (by kernel_rfl) (by kernel_rfl) (fun _ _ _ h => h) (Or.inl ⟨by kernel_rfl, ?yp3⟩) ?_
          case yp3 => (intro w; go_simp; try with_reducible rfl)
          refine wpAny_take (i := 3) (v := ?vp4) rfl (by kernel_rfl) (by kernel_rfl) (by kernel_rfl) (fun _ _ _ h => h) (Or.inl ⟨by kernel_rfl, ?yp4⟩) ?_
          case yp4 => (intro w; go_simp; try with_reducible rfl)
          refine wpAny_take (i := 4) (v := ?vp5) rfl (by kernel_rfl) (by kernel_rfl) (by kernel_rfl) (fun _ _ _ h => h) (Or.inl ⟨by kernel_rfl, ?yp5⟩) ?_
          case yp5 => (intro w; go_simp; try with_reducible rfl)
          refine wpAny_take (i := 5) (v := ?vp6) rfl (by kernel_rfl) (by kernel_rfl) (by kernel_rfl) (fun _ _ _ h => h) (Or.inl ⟨by kernel_rfl, ?yp6⟩) ?_
          case yp6 => (intro w; go_simp; try with_reducible rfl)
          refine wpAny_take (i := 6) (v := ?vp7) rfl (by kernel_rfl) (by kernel_rfl) (by kernel_rfl) (fun _ _ _ h => h) (Or.inl ⟨by kernel_rfl, ?yp7⟩) ?_
          case yp7 => (intro w; go_simp; try with_reducible rfl)
          refine wpAny_take (i := 7) (v := ?vp8) rfl (by kernel_rfl) (by kernel_rfl) (by kernel_rfl) (fun _ _ _ h => h) (Or.inl ⟨by kernel_rfl, ?yp8⟩) ?_
          case yp8 => (intro w; go_simp; try with_reducible rfl)
          refine wpAny_take (i := 9) (v := ?vp9) rfl (by kernel_rfl) (by kernel_rfl) (by kernel_rfl) (fun _ _ _ h => h) (Or.inl ⟨by kernel_rfl, ?yp9⟩) ?_
          case yp9 => (intro w; go_simp; try with_reducible rfl)
          refine wpAny_take (i := 10) (v := ?vp10) rfl (by kernel_rfl) (by kernel_rfl) (by kernel_rfl) (fun _ _ _ h => h) (Or.inl ⟨by kernel_rfl, ?yp10⟩) ?_
          case yp10 => (intro w; go_simp; try with_reducible rfl)
          refine wpAny_take (i := 11) (v := ?vp11) rfl (by kernel_rfl) (by kernel_rfl) (by kernel_rfl) (fun _ _ _ h => h) (Or.inl ⟨by kernel_rfl, ?yp11⟩) ?_
          case yp11 => (intro w; go_simp; try with_reducible rfl)
          refine wpAny_take (i := 12) (v := ?vp12) rfl (by kernel_rfl) (by kernel_rfl) (by kernel_rfl) (fun _ _ _ h => h) (Or.inl ⟨by kernel_rfl, ?yp12⟩) ?_
          case yp12 => (intro w; go_simp; try with_reducible rfl)
          refine wpAny_ready (rs := [8, 13]) (by kernel_rfl) (by simp) ?_
          refine (AllReady.cons rfl (fun K hK => ?_) (AllReady.cons rfl (fun K hK => ?_) AllReady.nil))
          · skip
            go_simp
            refine hK _ _ ?_
            clear hK K
            refine wpAny_ready (rs := [13]) (by kernel_rfl) (by simp) ?_
            refine (AllReady.cons rfl (fun K hK => ?_) AllReady.nil)
            go_simp
            refine hK _ _ ?_
            clear hK K
            refine wpAny_ready (rs := [14]) (by kernel_rfl) (by simp) ?_
            refine (AllReady.cons rfl (fun K hK => ?_) AllReady.nil)
            go_simp
            go_wp2_with fail
            refine (pcmp_val x0 x1 x2 x3 y0 y1 y2 y3 _).mono ?_
            rintro e w3 ⟨rfl, hb⟩
            have HS3 := Aside0.mk (HS.out.drew.below hb)
            clear hb c0 c1 d0 d1
            refine hK _ _ ?_
            clear hK K
            refine wpAny_take (i := 15) (v := ?vp13) rfl (by kernel_rfl) (by kernel_rfl) (by kernel_rfl) (fun _ _ _ h => h) (Or.inl ⟨by kernel_rfl, ?yp13⟩) ?_
            case yp13 => (intro w; go_simp; try with_reducible rfl)
            refine wpAny_take (i := 16) (v := ?vp14) rfl (by kernel_rfl) (by kernel_rfl) (by kernel_rfl) (fun _ _ _ h => h) (Or.inl ⟨by kernel_rfl, ?yp14⟩) ?_
            case yp14 => (intro w; go_simp; try with_reducible rfl)
            refine wpAny_done (by kernel_rfl) ?_ _
            by_cases hc : x0 < y0
            · have hc1 : decide (cmp3 x0 y0 < 0) = true := by rw [cmp3_lt]; simpa using hc
              have hc2 : cmp3 x0 y0 < 0 := of_decide_eq_true hc1
              have HS3b := HS3
              obtain ⟨c0, c1⟩ := atP HS3.out.ro j (by omega)
              obtain ⟨d0, d1⟩ := atP HS3.out.ro (j - 1) (by omega)
              rw [HX.out.1] at c0 c1
              rw [HX.out.2] at d0 d1
              simp only at c0 c1 d0 d1
              go_upto_region 6 with (fail)
              have HS4 := Aside0.mk HS3.out.drew
              refine wp_region_any (by kernel_rfl) ?_
              change wpAny _ _ _ _ _ _ _ (World.drew _)
              refine wpAny_take (i := 0) (v := ?vs1_15) rfl (by kernel_rfl) (by kernel_rfl) (by kernel_rfl) (fun _ _ _ h => h) (Or.inl ⟨by kernel_rfl, ?ys1_15⟩) ?_
              case ys1_15 => (intro w; go_simp; try with_reducible rfl)
              refine wpAny_take (i := 1) (v := ?vs1_16) rfl (by kernel_rfl) (by kernel_rfl) (by kernel_rfl) (fun _ _ _ h => h) (Or.inl ⟨by kernel_rfl, ?ys1_16⟩) ?_
              case ys1_16 => (intro w; go_simp; try with_reducible rfl)
              refine wpAny_take (i := 2) (v := ?vs1_17) rfl (by kernel_rfl) (by kernel_rfl) (by kernel_rfl) (fun _ _ _ h => h) (Or.inl ⟨by kernel_rfl, ?ys1_17⟩) ?_
              case ys1_17 => (intro w; go_simp; try with_reducible rfl)
              refine wpAny_take (i := 3) (v := ?vs1_18) rfl (by kernel_rfl) (by kernel_rfl) (by kernel_rfl) (fun _ _ _ h => h) (Or.inl ⟨by kernel_rfl, ?ys1_18⟩) ?_
              case ys1_18 => (intro w; go_simp; try with_reducible rfl)
              refine wpAny_take (i := 4) (v := ?vs1_19) rfl (by kernel_rfl) (by kernel_rfl) (by kernel_rfl) (fun _ _ _ h => h) (Or.inl ⟨by kernel_rfl, ?ys1_19⟩) ?_
              case ys1_19 => (intro w; go_simp; try with_reducible rfl)
              refine wpAny_take (i := 5) (v := ?vs1_20) rfl (by kernel_rfl) (by kernel_rfl) (by kernel_rfl) (fun _ _ _ h => h) (Or.inl ⟨by kernel_rfl, ?ys1_20⟩) ?_
              case ys1_20 => (intro w; go_simp; try with_reducible rfl)
              refine wpAny_take (i := 6) (v := ?vs1_21) rfl (by kernel_rfl) (by kernel_rfl) (by kernel_rfl) (fun _ _ _ h => h) (Or.inl ⟨by kernel_rfl, ?ys1_21⟩) ?_
              case ys1_21 => (intro w; go_simp; try with_reducible rfl)
              refine wpAny_take (i := 7) (v := ?vs1_22) rfl (by kernel_rfl) (by kernel_rfl) (by kernel_rfl) (fun _ _ _ h => h) (Or.inl ⟨by kernel_rfl, ?ys1_22⟩) ?_
              case ys1_22 => (intro w; go_simp; try with_reducible rfl)
              refine wpAny_take (i := 8) (v := ?vs1_23) rfl (by kernel_rfl) (by kernel_rfl) (by kernel_rfl) (fun _ _ _ h => h) (Or.inl ⟨by kernel_rfl, ?ys1_23⟩) ?_
              case ys1_23 => (intro w; go_simp; try with_reducible rfl)
              refine wpAny_take (i := 10) (v := ?vs1_24) rfl (by kernel_rfl) (by kernel_rfl) (by kernel_rfl) (fun _ _ _ h => h) (Or.inl ⟨by kernel_rfl, ?ys1_24⟩) ?_
              case ys1_24 => (intro w; go_simp; try with_reducible rfl)
              refine wpAny_take (i := 11) (v := ?vs1_25) rfl (by kernel_rfl) (by kernel_rfl) (by kernel_rfl) (fun _ _ _ h => h) (Or.inl ⟨by kernel_rfl, ?ys1_25⟩) ?_
              case ys1_25 => (intro w; go_simp; try with_reducible rfl)
              refine wpAny_take (i := 12) (v := ?vs1_26) rfl (by kernel_rfl) (by kernel_rfl) (by kernel_rfl) (fun _ _ _ h => h) (Or.inl ⟨by kernel_rfl, ?ys1_26⟩) ?_
              case ys1_26 => (intro w; go_simp; try with_reducible rfl)
              refine wpAny_ready (rs := [9, 13]) (by kernel_rfl) (by simp) ?_
              refine (AllReady.cons rfl (fun K hK => ?_) (AllReady.cons rfl (fun K hK => ?_) AllReady.nil))
              · skip
                go_simp
                refine hK _ _ ?_
                clear hK K
                refine wpAny_ready (rs := [13]) (by kernel_rfl) (by simp) ?_
                refine (AllReady.cons rfl (fun K hK => ?_) AllReady.nil)
                go_simp
                refine hK _ _ ?_
                clear hK K
                refine wpAny_take (i := 14) (v := ?vs1_27) rfl (by kernel_rfl) (by kernel_rfl) (by kernel_rfl) (fun _ _ _ h => h) (Or.inl ⟨by kernel_rfl, ?ys1_27⟩) ?_
                case ys1_27 => (intro w; go_simp; try with_reducible rfl)
                refine wpAny_ready (rs := [15]) (by kernel_rfl) (by simp) ?_
                refine (AllReady.cons rfl (fun K hK => ?_) AllReady.nil)
                refine store_step B (by kernel_rfl) rfl (.tmp 51) (.tmp 46) rfl (j) zs ⟨y0, y1, y2, y3, y4⟩ (by rfl) (by rfl) (by rfl) HS4.out.ro (by omega) ?_
                intro w5 hr5 hf5
                have HS5 := Aside0.mk (HS4.out.step hr5 hf5)
                clear hr5 hf5
                refine hK _ _ ?_
                clear hK K
                refine wpAny_take (i := 16) (v := ?vs1_28) rfl (by kernel_rfl) (by kernel_rfl) (by kernel_rfl) (fun _ _ _ h => h) (Or.inl ⟨by kernel_rfl, ?ys1_28⟩) ?_
                case ys1_28 => (intro w; go_simp; try with_reducible rfl)
                refine wpAny_ready (rs := [17]) (by kernel_rfl) (by simp) ?_
                refine (AllReady.cons rfl (fun K hK => ?_) AllReady.nil)
                refine store_step B (by kernel_rfl) rfl (.tmp 52) (.tmp 50) rfl (j - 1) (zs.set j ⟨y0, y1, y2, y3, y4⟩) ⟨x0, x1, x2, x3, x4⟩ (by rfl) (by rfl) (by rfl) HS5.out.ro (by omega) ?_
                intro w6 hr6 hf6
                have HS6 := Aside0.mk (HS5.out.step hr6 hf6)
                clear hr6 hf6
                refine hK _ _ ?_
                clear hK K
                refine wpAny_done (by kernel_rfl) ?_ _
                have HI2 : Aside0 (InsI a b i (j - 1) xs ((zs.set j ⟨y0, y1, y2, y3, y4⟩).set (j - 1) ⟨x0, x1, x2, x3, x4⟩)) := ⟨by have h := HIN.out.step HJ.out.1 (by have h6 := HS6.out.len; have h7 := HJ.out; simp only [List.length_set] at h6; omega) (by unfold wtP; rw [HX.out.1, HX.out.2]; exact hc); unfold swp at h; rw [HX.out.1, HX.out.2] at h; exact h⟩
                go_wp2_with fail
                go_roundw
                case rel => exact ⟨j - 1, _, by simp; omega, HS6, HI2⟩
                case measure => simp [intOf]; omega
              · skip
                go_simp
                refine hK _ _ ?_
                clear hK K
                refine wpAny_ready (rs := [9]) (by kernel_rfl) (by simp) ?_
                refine (AllReady.cons rfl (fun K hK => ?_) AllReady.nil)
                go_simp
                refine hK _ _ ?_
                clear hK K
                refine wpAny_take (i := 14) (v := ?vs1_29) rfl (by kernel_rfl) (by kernel_rfl) (by kernel_rfl) (fun _ _ _ h => h) (Or.inl ⟨by kernel_rfl, ?ys1_29⟩) ?_
                case ys1_29 => (intro w; go_simp; try with_reducible rfl)
                refine wpAny_ready (rs := [15]) (by kernel_rfl) (by simp) ?_
                refine (AllReady.cons rfl (fun K hK => ?_) AllReady.nil)
                refine store_step B (by kernel_rfl) rfl (.tmp 51) (.tmp 46) rfl (j) zs ⟨y0, y1, y2, y3, y4⟩ (by rfl) (by rfl) (by rfl) HS4.out.ro (by omega) ?_
                intro w5 hr5 hf5
                have HS5 := Aside0.mk (HS4.out.step hr5 hf5)
                clear hr5 hf5
                refine hK _ _ ?_
                clear hK K
                refine wpAny_take (i := 16) (v := ?vs1_30) rfl (by kernel_rfl) (by kernel_rfl) (by kernel_rfl) (fun _ _ _ h => h) (Or.inl ⟨by kernel_rfl, ?ys1_30⟩) ?_
                case ys1_30 => (intro w; go_simp; try with_reducible rfl)
                refine wpAny_ready (rs := [17]) (by kernel_rfl) (by simp) ?_
                refine (AllReady.cons rfl (fun K hK => ?_) AllReady.nil)
                refine store_step B (by kernel_rfl) rfl (.tmp 52) (.tmp 50) rfl (j - 1) (zs.set j ⟨y0, y1, y2, y3, y4⟩) ⟨x0, x1, x2, x3, x4⟩ (by rfl) (by rfl) (by rfl) HS5.out.ro (by omega) ?_
                intro w6 hr6 hf6
                have HS6 := Aside0.mk (HS5.out.step hr6 hf6)
                clear hr6 hf6
                refine hK _ _ ?_
                clear hK K
                refine wpAny_done (by kernel_rfl) ?_ _
                have HI2 : Aside0 (InsI a b i (j - 1) xs ((zs.set j ⟨y0, y1, y2, y3, y4⟩).set (j - 1) ⟨x0, x1, x2, x3, x4⟩)) := ⟨by have h := HIN.out.step HJ.out.1 (by have h6 := HS6.out.len; have h7 := HJ.out; simp only [List.length_set] at h6; omega) (by unfold wtP; rw [HX.out.1, HX.out.2]; exact hc); unfold swp at h; rw [HX.out.1, HX.out.2] at h; exact h⟩
                go_wp2_with fail
                go_roundw
                case rel => exact ⟨j - 1, _, by simp; omega, HS6, HI2⟩
                case measure => simp [intOf]; omega
            · have hc1 : decide (cmp3 x0 y0 < 0) = false := by rw [cmp3_lt]; simpa using hc
              have hc2 : ¬ cmp3 x0 y0 < 0 := of_decide_eq_false hc1
              have HO2 := Aside0.mk (HIN.out.done (Or.inr (by unfold wtP; rw [HX.out.1, HX.out.2]; simp only; omega)))
              have HP2 := Aside0.mk HIN.out.pm
              go_wp2_with fail
              go_roundw
              case rel => exact ⟨i + 1, zs, by simp, by have := HI.out; omega, by have := HI.out; omega, HS3, HP2, HO2⟩
              case measure => simp [intOf]; have := HI.out; omega
          · skip
            go_simp
            refine hK _ _ ?_
            clear hK K
            refine wpAny_ready (rs := [8]) (by kernel_rfl) (by simp) ?_
            refine (AllReady.cons rfl (fun K hK => ?_) AllReady.nil)
            go_simp
            refine hK _ _ ?_
            clear hK K
            refine wpAny_ready (rs := [14]) (by kernel_rfl) (by simp) ?_
            refine (AllReady.cons rfl (fun K hK => ?_) AllReady.nil)
            go_simp
            go_wp2_with fail
            refine (pcmp_val x0 x1 x2 x3 y0 y1 y2 y3 _).mono ?_
            rintro e w3 ⟨rfl, hb⟩
            have HS3 := Aside0.mk (HS.out.drew.below hb)
            clear hb c0 c1 d0 d1
            refine hK _ _ ?_
            clear hK K
            refine wpAny_take (i := 15) (v := ?vp31) rfl (by kernel_rfl) (by kernel_rfl) (by kernel_rfl) (fun _ _ _ h => h) (Or.inl ⟨by kernel_rfl, ?yp31⟩) ?_
            case yp31 => (intro w; go_simp; try with_reducible rfl)
            refine wpAny_take (i := 16) (v := ?vp32) rfl (by kernel_rfl) (by kernel_rfl) (by kernel_rfl) (fun _ _ _ h => h) (Or.inl ⟨by kernel_rfl, ?yp32⟩) ?_
            case yp32 => (intro w; go_simp; try with_reducible rfl)
            refine wpAny_done (by kernel_rfl) ?_ _
            by_cases hc : x0 < y0
            · have hc1 : decide (cmp3 x0 y0 < 0) = true := by rw [cmp3_lt]; simpa using hc
              have hc2 : cmp3 x0 y0 < 0 := of_decide_eq_true hc1
              have HS3b := HS3
              obtain ⟨c0, c1⟩ := atP HS3.out.ro j (by omega)
              obtain ⟨d0, d1⟩ := atP HS3.out.ro (j - 1) (by omega)
              rw [HX.out.1] at c0 c1
              rw [HX.out.2] at d0 d1
              simp only at c0 c1 d0 d1
              go_upto_region 6 with (fail)
              have HS4 := Aside0.mk HS3.out.drew
              refine wp_region_any (by kernel_rfl) ?_
              change wpAny _ _ _ _ _ _ _ (World.drew _)
              refine wpAny_take (i := 0) (v := ?vs2_33) rfl (by kernel_rfl) (by kernel_rfl) (by kernel_rfl) (fun _ _ _ h => h) (Or.inl ⟨by kernel_rfl, ?ys2_33⟩) ?_
              case ys2_33 => (intro w; go_simp; try with_reducible rfl)
              refine wpAny_take (i := 1) (v := ?vs2_34) rfl (by kernel_rfl) (by kernel_rfl) (by kernel_rfl) (fun _ _ _ h => h) (Or.inl ⟨by kernel_rfl, ?ys2_34⟩) ?_
              case ys2_34 => (intro w; go_simp; try with_reducible rfl)
              refine wpAny_take (i := 2) (v := ?vs2_35) rfl (by kernel_rfl) (by kernel_rfl) (by kernel_rfl) (fun _ _ _ h => h) (Or.inl ⟨by kernel_rfl, ?ys2_35⟩) ?_
              case ys2_35 => (intro w; go_simp; try with_reducible rfl)
              refine wpAny_take (i := 3) (v := ?vs2_36) rfl (by kernel_rfl) (by kernel_rfl) (by kernel_rfl) (fun _ _ _ h => h) (Or.inl ⟨by kernel_rfl, ?ys2_36⟩) ?_
              case ys2_36 => (intro w; go_simp; try with_reducible rfl)
              refine wpAny_take (i := 4) (v := ?vs2_37) rfl (by kernel_rfl) (by kernel_rfl) (by kernel_rfl) (fun _ _ _ h => h) (Or.inl ⟨by kernel_rfl, ?ys2_37⟩) ?_
              case ys2_37 => (intro w; go_simp; try with_reducible rfl)
              refine wpAny_take (i := 5) (v := ?vs2_38) rfl (by kernel_rfl) (by kernel_rfl) (by kernel_rfl) (fun _ _ _ h => h) (Or.inl ⟨by kernel_rfl, ?ys2_38⟩) ?_
              case ys2_38 => (intro w; go_simp; try with_reducible rfl)
              refine wpAny_take (i := 6) (v := ?vs2_39) rfl (by kernel_rfl) (by kernel_rfl) (by kernel_rfl) (fun _ _ _ h => h) (Or.inl ⟨by kernel_rfl, ?ys2_39⟩) ?_
              case ys2_39 => (intro w; go_simp; try with_reducible rfl)
              refine wpAny_take (i := 7) (v := ?vs2_40) rfl (by kernel_rfl) (by kernel_rfl) (by kernel_rfl) (fun _ _ _ h => h) (Or.inl ⟨by kernel_rfl, ?ys2_40⟩) ?_
              case ys2_40 => (intro w; go_simp; try with_reducible rfl)
              refine wpAny_take (i := 8) (v := ?vs2_41) rfl (by kernel_rfl) (by kernel_rfl) (by kernel_rfl) (fun _ _ _ h => h) (Or.inl ⟨by kernel_rfl, ?ys2_41⟩) ?_
              case ys2_41 => (intro w; go_simp; try with_reducible rfl)
              refine wpAny_take (i := 10) (v := ?vs2_42) rfl (by kernel_rfl) (by kernel_rfl) (by kernel_rfl) (fun _ _ _ h => h) (Or.inl ⟨by kernel_rfl, ?ys2_42⟩) ?_
              case ys2_42 => (intro w; go_simp; try with_reducible rfl)
              refine wpAny_take (i := 11) (v := ?vs2_43) rfl (by kernel_rfl) (by kernel_rfl) (by kernel_rfl) (fun _ _ _ h => h) (Or.inl ⟨by kernel_rfl, ?ys2_43⟩) ?_
              case ys2_43 => (intro w; go_simp; try with_reducible rfl)
              refine wpAny_take (i := 12) (v := ?vs2_44) rfl (by kernel_rfl) (by kernel_rfl) (by kernel_rfl) (fun _ _ _ h => h) (Or.inl ⟨by kernel_rfl, ?ys2_44⟩) ?_
              case ys2_44 => (intro w; go_simp; try with_reducible rfl)
              refine wpAny_ready (rs := [9, 13]) (by kernel_rfl) (by simp) ?_
              refine (AllReady.cons rfl (fun K hK => ?_) (AllReady.cons rfl (fun K hK => ?_) AllReady.nil))
              · skip
                go_simp
                refine hK _ _ ?_
                clear hK K
                refine wpAny_ready (rs := [13]) (by kernel_rfl) (by simp) ?_
                refine (AllReady.cons rfl (fun K hK => ?_) AllReady.nil)
                go_simp
                refine hK _ _ ?_
                clear hK K
                refine wpAny_take (i := 14) (v := ?vs2_45) rfl (by kernel_rfl) (by kernel_rfl) (by kernel_rfl) (fun _ _ _ h => h) (Or.inl ⟨by kernel_rfl, ?ys2_45⟩) ?_
                case ys2_45 => (intro w; go_simp; try with_reducible rfl)
                refine wpAny_ready (rs := [15]) (by kernel_rfl) (by simp) ?_
                refine (AllReady.cons rfl (fun K hK => ?_) AllReady.nil)
                refine store_step B (by kernel_rfl) rfl (.tmp 51) (.tmp 46) rfl (j) zs ⟨y0, y1, y2, y3, y4⟩ (by rfl) (by rfl) (by rfl) HS4.out.ro (by omega) ?_
                intro w5 hr5 hf5
                have HS5 := Aside0.mk (HS4.out.step hr5 hf5)
                clear hr5 hf5
                refine hK _ _ ?_
                clear hK K
                refine wpAny_take (i := 16) (v := ?vs2_46) rfl (by kernel_rfl) (by kernel_rfl) (by kernel_rfl) (fun _ _ _ h => h) (Or.inl ⟨by kernel_rfl, ?ys2_46⟩) ?_
                case ys2_46 => (intro w; go_simp; try with_reducible rfl)
                refine wpAny_ready (rs := [17]) (by kernel_rfl) (by simp) ?_
                refine (AllReady.cons rfl (fun K hK => ?_) AllReady.nil)
                refine store_step B (by kernel_rfl) rfl (.tmp 52) (.tmp 50) rfl (j - 1) (zs.set j ⟨y0, y1, y2, y3, y4⟩) ⟨x0, x1, x2, x3, x4⟩ (by rfl) (by rfl) (by rfl) HS5.out.ro (by omega) ?_
                intro w6 hr6 hf6
                have HS6 := Aside0.mk (HS5.out.step hr6 hf6)
                clear hr6 hf6
                refine hK _ _ ?_
                clear hK K
                refine wpAny_done (by kernel_rfl) ?_ _
                have HI2 : Aside0 (InsI a b i (j - 1) xs ((zs.set j ⟨y0, y1, y2, y3, y4⟩).set (j - 1) ⟨x0, x1, x2, x3, x4⟩)) := ⟨by have h := HIN.out.step HJ.out.1 (by have h6 := HS6.out.len; have h7 := HJ.out; simp only [List.length_set] at h6; omega) (by unfold wtP; rw [HX.out.1, HX.out.2]; exact hc); unfold swp at h; rw [HX.out.1, HX.out.2] at h; exact h⟩
                go_wp2_with fail
                go_roundw
                case rel => exact ⟨j - 1, _, by simp; omega, HS6, HI2⟩
                case measure => simp [intOf]; omega
              · skip
                go_simp
                refine hK _ _ ?_
                clear hK K
                refine wpAny_ready (rs := [9]) (by kernel_rfl) (by simp) ?_
                refine (AllReady.cons rfl (fun K hK => ?_) AllReady.nil)
                go_simp
                refine hK _ _ ?_
                clear hK K
                refine wpAny_take (i := 14) (v := ?vs2_47) rfl (by kernel_rfl) (by kernel_rfl) (by kernel_rfl) (fun _ _ _ h => h) (Or.inl ⟨by kernel_rfl, ?ys2_47⟩) ?_
                case ys2_47 => (intro w; go_simp; try with_reducible rfl)
                refine wpAny_ready (rs := [15]) (by kernel_rfl) (by simp) ?_
                refine (AllReady.cons rfl (fun K hK => ?_) AllReady.nil)
                refine store_step B (by kernel_rfl) rfl (.tmp 51) (.tmp 46) rfl (j) zs ⟨y0, y1, y2, y3, y4⟩ (by rfl) (by rfl) (by rfl) HS4.out.ro (by omega) ?_
                intro w5 hr5 hf5
                have HS5 := Aside0.mk (HS4.out.step hr5 hf5)
                clear hr5 hf5
                refine hK _ _ ?_
                clear hK K
                refine wpAny_take (i := 16) (v := ?vs2_48) rfl (by kernel_rfl) (by kernel_rfl) (by kernel_rfl) (fun _ _ _ h => h) (Or.inl ⟨by kernel_rfl, ?ys2_48⟩) ?_
                case ys2_48 => (intro w; go_simp; try with_reducible rfl)
                refine wpAny_ready (rs := [17]) (by kernel_rfl) (by simp) ?_
                refine (AllReady.cons rfl (fun K hK => ?_) AllReady.nil)
                refine store_step B (by kernel_rfl) rfl (.tmp 52) (.tmp 50) rfl (j - 1) (zs.set j ⟨y0, y1, y2, y3, y4⟩) ⟨x0, x1, x2, x3, x4⟩ (by rfl) (by rfl) (by rfl) HS5.out.ro (by omega) ?_
                intro w6 hr6 hf6
                have HS6 := Aside0.mk (HS5.out.step hr6 hf6)
                clear hr6 hf6
                refine hK _ _ ?_
                clear hK K
                refine wpAny_done (by kernel_rfl) ?_ _
                have HI2 : Aside0 (InsI a b i (j - 1) xs ((zs.set j ⟨y0, y1, y2, y3, y4⟩).set (j - 1) ⟨x0, x1, x2, x3, x4⟩)) := ⟨by have h := HIN.out.step HJ.out.1 (by have h6 := HS6.out.len; have h7 := HJ.out; simp only [List.length_set] at h6; omega) (by unfold wtP; rw [HX.out.1, HX.out.2]; exact hc); unfold swp at h; rw [HX.out.1, HX.out.2] at h; exact h⟩
                go_wp2_with fail
                go_roundw
                case rel => exact ⟨j - 1, _, by simp; omega, HS6, HI2⟩
                case measure => simp [intOf]; omega
            · have hc1 : decide (cmp3 x0 y0 < 0) = false := by rw [cmp3_lt]; simpa using hc
              have hc2 : ¬ cmp3 x0 y0 < 0 := of_decide_eq_false hc1
              have HO2 := Aside0.mk (HIN.out.done (Or.inr (by unfold wtP; rw [HX.out.1, HX.out.2]; simp only; omega)))
              have HP2 := Aside0.mk HIN.out.pm
              go_wp2_with fail
              go_roundw
              case rel => exact ⟨i + 1, zs, by simp, by have := HI.out; omega, by have := HI.out; omega, HS3, HP2, HO2⟩
              case measure => simp [intOf]; have := HI.out; omega
        · have hje : j = a := by omega
          have hb2 : decide (a < j) = false := by simp; omega
          have hb2i : decide ((a : Int) < (j : Int)) = false := by simp; omega
          have HO2 := Aside0.mk (HIN.out.done (Or.inl hje))
          have HP2 := Aside0.mk HIN.out.pm
          clear hje hja hjr hbn hlen
          go_upto_region 4 with (fail)
          go_quiet (fail)
          go_wp2_with fail
          go_roundw
          case rel => exact ⟨i + 1, zs, by simp, by have := HI.out; omega, by have := HI.out; omega, ⟨HS.out.drewN _⟩, HP2, HO2⟩
          case measure => simp [intOf]; have := HI.out; omega
    · have hb1 : decide (i < b) = false := by simp; omega
      have HO2 : Aside0 (Sorted a b ys) := ⟨fun p q h1 h2 h3 => HO.out p q h1 h2 (by omega)⟩
      clear hlt
      go_wp2_with fail
      go_end0
      exact ⟨rfl, ys, HS.out, HP.out, HO2.out⟩
end Go.Proofs.Ytaghmhcccighgaa.HF
end
