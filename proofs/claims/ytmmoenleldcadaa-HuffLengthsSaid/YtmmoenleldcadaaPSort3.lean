/- Merging two parts that do not fall, plain. -/
import Derived.Test.YtmmoenleldcadaaPSort2
namespace Go.Proofs.Ytmmoenleldcadaa.HF
/-- One element, at a, goes up behind the elements ahead of i. -/
def upI (a k q : Nat) : Nat := if a ≤ q ∧ q < k then q + 1 else if q = k then a else q
theorem upI_cases (a k q : Nat) : (a ≤ q ∧ q < k ∧ upI a k q = q + 1) ∨ (q = k ∧ ¬ (a ≤ q ∧ q < k) ∧ upI a k q = a) ∨ (¬ (a ≤ q ∧ q < k) ∧ q ≠ k ∧ upI a k q = q) := by
  unfold upI
  split
  · left; omega
  · split
    · right; left; omega
    · right; right; omega
structure UpR (a b k : Nat) (xs ys : List Pk) : Prop where
  pm : PermIn a b xs ys
  rd : ∀ q, rdP ys q = rdP xs (upI a k q)
theorem UpR.start (a b : Nat) (xs : List Pk) : UpR a b a xs xs := ⟨PermIn.refl _ _ _, fun q => by
  have := upI_cases a a q
  rw [show upI a a q = q by omega]⟩
theorem UpR.step {a b k : Nat} {xs ys : List Pk} (h : UpR a b k xs ys) (ha : a ≤ k) (hb : k + 1 < b) (hh : b ≤ ys.length) : UpR a b (k + 1) xs (swp ys k (k + 1)) := by
  refine ⟨h.pm.trans (PermIn.swp ys k (k + 1) (by omega) (by omega) hh), fun q => ?_⟩
  rw [rdP_swp _ _ _ _ (by omega) (by omega), h.rd, h.rd, h.rd]
  have c1 := upI_cases a k k
  have c2 := upI_cases a k (k + 1)
  have c3 := upI_cases a k q
  have c4 := upI_cases a (k + 1) q
  split
  · congr 1; omega
  · split
    · congr 1; omega
    · congr 1; omega
theorem UpR.sorted {a b i : Nat} {xs ys : List Pk} (h : UpR a b (i - 1) xs ys) (hi : a < i ∧ i ≤ b) (hs : Sorted (a + 1) b xs) (h1 : ∀ q, a < q → q < i → wtP xs q < wtP xs a) (h2 : ∀ q, i ≤ q → q < b → wtP xs a ≤ wtP xs q) : Sorted a b ys := fun p q p1 p2 p3 => by
  unfold wtP
  rw [h.rd, h.rd]
  have c1 := upI_cases a (i - 1) p
  have c2 := upI_cases a (i - 1) q
  by_cases e1 : p = i - 1
  · rw [show upI a (i - 1) p = a by omega, show upI a (i - 1) q = q by omega]
    exact h2 q (by omega) p3
  · by_cases e2 : q = i - 1
    · rw [show upI a (i - 1) p = p + 1 by omega, show upI a (i - 1) q = a by omega]
      exact Int.le_of_lt (h1 (p + 1) (by omega) (by omega))
    · exact hs.le (p := upI a (i - 1) p) (q := upI a (i - 1) q) (by omega) (by omega) (by omega)
theorem UpR.perm {a b i : Nat} {xs ys : List Pk} (h : UpR a b (i - 1) xs ys) (hi : a < i ∧ i ≤ b) (hb : b ≤ xs.length) (h1 : ∀ q, a < q → q < i → wtP xs q < wtP xs a) : PermS a b xs ys :=
  ⟨h.pm, fil_rot (s := a) (m := a + 1) (e := i) h.pm.len (by omega) (by omega) (by omega) (fun q => by
    rw [h.rd]
    have c1 := upI_cases a (i - 1) q
    have c2 := rotI_cases a (a + 1) i q
    congr 1; omega) (fun p q p1 p2 p3 p4 => by
    have := h1 q (by omega) p4
    rw [show p = a by omega]
    omega)⟩
/-- One element, at m, goes down to i. -/
def dnI (k m q : Nat) : Nat := if q = k then m else if k < q ∧ q ≤ m then q - 1 else q
theorem dnI_cases (k m q : Nat) : (q = k ∧ dnI k m q = m) ∨ (q ≠ k ∧ k < q ∧ q ≤ m ∧ dnI k m q = q - 1) ∨ (q ≠ k ∧ ¬ (k < q ∧ q ≤ m) ∧ dnI k m q = q) := by
  unfold dnI
  split
  · left; omega
  · split
    · right; left; omega
    · right; right; omega
structure DnR (a b m k : Nat) (xs ys : List Pk) : Prop where
  pm : PermIn a b xs ys
  rd : ∀ q, rdP ys q = rdP xs (dnI k m q)
theorem DnR.start (a b m : Nat) (xs : List Pk) : DnR a b m m xs xs := ⟨PermIn.refl _ _ _, fun q => by
  have := dnI_cases m m q
  rw [show dnI m m q = q by omega]⟩
theorem DnR.step {a b m k : Nat} {xs ys : List Pk} (h : DnR a b m k xs ys) (ha : a < k) (hk : k ≤ m) (hb : m < b) (hh : b ≤ ys.length) : DnR a b m (k - 1) xs (swp ys k (k - 1)) := by
  refine ⟨h.pm.trans (PermIn.swp ys k (k - 1) (by omega) (by omega) hh), fun q => ?_⟩
  rw [rdP_swp _ _ _ _ (by omega) (by omega), h.rd, h.rd, h.rd]
  have c1 := dnI_cases k m k
  have c2 := dnI_cases k m (k - 1)
  have c3 := dnI_cases k m q
  have c4 := dnI_cases (k - 1) m q
  split
  · congr 1; omega
  · split
    · congr 1; omega
    · congr 1; omega
theorem DnR.sorted {a b m i : Nat} {xs ys : List Pk} (h : DnR a b m i xs ys) (hi : a ≤ i ∧ i ≤ m) (hb : b = m + 1) (hs : Sorted a m xs) (h1 : ∀ q, a ≤ q → q < i → wtP xs q ≤ wtP xs m) (h2 : ∀ q, i ≤ q → q < m → wtP xs m < wtP xs q) : Sorted a b ys := fun p q p1 p2 p3 => by
  unfold wtP
  rw [h.rd, h.rd]
  have c1 := dnI_cases i m p
  have c2 := dnI_cases i m q
  by_cases e1 : p = i
  · rw [show dnI i m p = m by omega, show dnI i m q = q - 1 by omega]
    exact Int.le_of_lt (h2 (q - 1) (by omega) (by omega))
  · by_cases e2 : q = i
    · rw [show dnI i m p = p by omega, show dnI i m q = m by omega]
      exact h1 p p1 (by omega)
    · exact hs.le (p := dnI i m p) (q := dnI i m q) (by omega) (by omega) (by omega)
theorem DnR.perm {a b m i : Nat} {xs ys : List Pk} (h : DnR a b m i xs ys) (hi : a ≤ i ∧ i ≤ m) (hb : m < xs.length) (h2 : ∀ q, i ≤ q → q < m → wtP xs m < wtP xs q) : PermS a b xs ys :=
  ⟨h.pm, fil_rot (s := i) (m := m) (e := m + 1) h.pm.len (by omega) (by omega) (by omega) (fun q => by
    rw [h.rd]
    have c1 := dnI_cases i m q
    have c2 := rotI_cases i m (m + 1) q
    congr 1; omega) (fun p q p1 p2 p3 p4 => by
    have := h2 p p1 p2
    rw [show q = m by omega]
    omega)⟩
/-- The parts are cut and turned: what stands ahead of mid is no heavier than what stands behind it. -/
theorem merge_split {a m b st en mid : Nat} {xs ys : List Pk} (h1 : Sorted a m xs) (h2 : Sorted m b xs) (hr : a ≤ st ∧ st ≤ m ∧ m ≤ en ∧ en ≤ b) (hm : mid = st + (en - m))
    (x1 : a < st → en < b → wtP xs (st - 1) ≤ wtP xs en) (x2 : st < m → m < en → wtP xs (en - 1) ≤ wtP xs st) (hy : ∀ k, rdP ys k = rdP xs (rotI st m en k)) :
    Sorted a st ys ∧ Sorted st mid ys ∧ Sorted mid en ys ∧ Sorted en b ys ∧ ∀ p q, a ≤ p → p < mid → mid ≤ q → q < b → wtP ys p ≤ wtP ys q := by
  have hw : ∀ k, wtP ys k = wtP xs (rotI st m en k) := fun k => by unfold wtP; rw [hy]
  refine ⟨fun p q p1 p2 p3 => ?_, fun p q p1 p2 p3 => ?_, fun p q p1 p2 p3 => ?_, fun p q p1 p2 p3 => ?_, fun p q p1 p2 p3 p4 => ?_⟩
  · have c1 := rotI_cases st m en p
    have c2 := rotI_cases st m en q
    rw [hw, hw]
    exact h1.le (by omega) (by omega) (by omega)
  · have c1 := rotI_cases st m en p
    have c2 := rotI_cases st m en q
    rw [hw, hw]
    exact h2.le (by omega) (by omega) (by omega)
  · have c1 := rotI_cases st m en p
    have c2 := rotI_cases st m en q
    rw [hw, hw]
    exact h1.le (by omega) (by omega) (by omega)
  · have c1 := rotI_cases st m en p
    have c2 := rotI_cases st m en q
    rw [hw, hw]
    exact h2.le (by omega) (by omega) (by omega)
  · have c1 := rotI_cases st m en p
    have c2 := rotI_cases st m en q
    rw [hw, hw]
    by_cases e1 : p < st
    · by_cases e2 : q < en
      · exact h1.le (by omega) (by omega) (by omega)
      · have y1 : wtP xs (rotI st m en p) ≤ wtP xs (st - 1) := h1.le (by omega) (by omega) (by omega)
        have y2 : wtP xs en ≤ wtP xs (rotI st m en q) := h2.le (by omega) (by omega) (by omega)
        have := x1 (by omega) (by omega)
        omega
    · by_cases e2 : q < en
      · have y1 : wtP xs (rotI st m en p) ≤ wtP xs (en - 1) := h2.le (by omega) (by omega) (by omega)
        have y2 : wtP xs st ≤ wtP xs (rotI st m en q) := h1.le (by omega) (by omega) (by omega)
        have := x2 (by omega) (by omega)
        omega
      · exact h2.le (by omega) (by omega) (by omega)
/-- The turn keeps packs of one weight in their order. -/
theorem merge_perm {a m b st en : Nat} {xs ys : List Pk} (hp : PermIn a b xs ys) (h1 : Sorted a m xs) (h2 : Sorted m b xs) (hr : a ≤ st ∧ st ≤ m ∧ m ≤ en ∧ en ≤ b) (hb : b ≤ xs.length)
    (x2 : st < m → m < en → wtP xs (en - 1) < wtP xs st) (hy : ∀ k, rdP ys k = rdP xs (rotI st m en k)) : PermS a b xs ys :=
  ⟨hp, fil_rot hp.len hr.2.1 hr.2.2.1 (by omega) hy (fun p q p1 p2 p3 p4 => by
    have y1 : wtP xs st ≤ wtP xs p := h1.le hr.1 p1 p2
    have y2 : wtP xs q ≤ wtP xs (en - 1) := h2.le p3 (by omega) (by omega)
    have := x2 (by omega) (by omega)
    omega)⟩
theorem merge_join {a mid b : Nat} {ys zs us : List Pk} (hz : PermIn a mid ys zs) (sz : Sorted a mid zs) (hu : PermIn mid b zs us) (su : Sorted mid b us) (hx : ∀ p q, a ≤ p → p < mid → mid ≤ q → q < b → wtP ys p ≤ wtP ys q) : Sorted a b us := fun p q p1 p2 p3 => by
  by_cases e1 : q < mid
  · unfold wtP
    rw [hu.out p (by omega), hu.out q (by omega)]
    exact sz p q p1 p2 e1
  · by_cases e2 : mid ≤ p
    · exact su p q e2 p2 p3
    · obtain ⟨p', a1, a2, a3⟩ := hz.inn p p1 (by omega)
      obtain ⟨q', b1, b2, b3⟩ := hu.inn q (by omega) p3
      unfold wtP
      rw [hu.out p (by omega), a3, b3, hz.out q' (by omega)]
      exact hx p' q' a1 a2 b1 b2
/-- The cut is looked for: behind c the second part is lighter. -/
structure CutR (a m b lo hi n s r : Nat) (xs : List Pk) : Prop where
  rg : lo ≤ s ∧ s ≤ r ∧ r ≤ hi
  lt : ∀ c, lo ≤ c → c < s → wtP xs c ≤ wtP xs (n - 1 - c)
  ge : ∀ c, r ≤ c → c < hi → wtP xs (n - 1 - c) < wtP xs c
/-- The bounds of the search. -/
structure CutB (a m b lo hi n : Nat) : Prop where
  ham : a < m ∧ m < b
  hn : n = (a + b) / 2 + m
  hlo : a ≤ lo ∧ lo ≤ hi ∧ hi ≤ m
  hin : ∀ c, lo ≤ c → c < hi → m ≤ n - 1 - c ∧ n - 1 - c < b
  hl : lo = a ∨ n - lo = b
  hh : hi = m ∨ n - hi = m
  hen : m ≤ n - hi ∧ n - lo ≤ b
theorem CutB.mk1 {a m b : Nat} (h : a < m ∧ m < b) (hm : (a + b) / 2 < m) : CutB a m b ((a + b) / 2 + m - b) ((a + b) / 2) ((a + b) / 2 + m) := ⟨h, rfl, by omega, fun c h1 h2 => by omega, Or.inr (by omega), Or.inr (by omega), by omega⟩
theorem CutB.mk2 {a m b : Nat} (h : a < m ∧ m < b) (hm : m ≤ (a + b) / 2) : CutB a m b a m ((a + b) / 2 + m) := ⟨h, rfl, by omega, fun c h1 h2 => by omega, Or.inl rfl, Or.inl rfl, by omega⟩
theorem CutR.start {a m b lo hi n : Nat} {xs : List Pk} (h : CutB a m b lo hi n) : CutR a m b lo hi n lo hi xs := ⟨by have := h.hlo; omega, fun c h1 h2 => by omega, fun c h1 h2 => by omega⟩
theorem CutR.up {a m b lo hi n s r c : Nat} {xs : List Pk} (hb : CutB a m b lo hi n) (h1 : Sorted a m xs) (h2 : Sorted m b xs) (h : CutR a m b lo hi n s r xs) (hc : s ≤ c ∧ c < r) (hw : wtP xs c ≤ wtP xs (n - 1 - c)) : CutR a m b lo hi n (c + 1) r xs := by
  have hr := h.rg
  have hl := hb.hlo
  refine ⟨by omega, fun d d1 d2 => ?_, h.ge⟩
  have i1 := hb.hin c (by omega) (by omega)
  have i2 := hb.hin d (by omega) (by omega)
  have y1 : wtP xs d ≤ wtP xs c := h1.le (by omega) (by omega) (by omega)
  have y2 : wtP xs (n - 1 - c) ≤ wtP xs (n - 1 - d) := h2.le (by omega) (by omega) (by omega)
  omega
theorem CutR.dn {a m b lo hi n s r c : Nat} {xs : List Pk} (hb : CutB a m b lo hi n) (h1 : Sorted a m xs) (h2 : Sorted m b xs) (h : CutR a m b lo hi n s r xs) (hc : s ≤ c ∧ c < r) (hw : wtP xs (n - 1 - c) < wtP xs c) : CutR a m b lo hi n s c xs := by
  have hr := h.rg
  have hl := hb.hlo
  refine ⟨by omega, h.lt, fun d d1 d2 => ?_⟩
  have i1 := hb.hin c (by omega) (by omega)
  have i2 := hb.hin d (by omega) (by omega)
  have y1 : wtP xs c ≤ wtP xs d := h1.le (by omega) (by omega) (by omega)
  have y2 : wtP xs (n - 1 - d) ≤ wtP xs (n - 1 - c) := h2.le (by omega) (by omega) (by omega)
  omega
theorem CutR.done {a m b lo hi n s : Nat} {xs : List Pk} (hb : CutB a m b lo hi n) (h : CutR a m b lo hi n s s xs) : (a ≤ s ∧ s ≤ m ∧ m ≤ n - s ∧ n - s ≤ b) ∧ (a + b) / 2 = s + (n - s - m) ∧ (a < s → n - s < b → wtP xs (s - 1) ≤ wtP xs (n - s)) ∧ (s < m → m < n - s → wtP xs (n - s - 1) < wtP xs s) := by
  have hr := h.rg
  have hl := hb.hlo
  have hn := hb.hn
  have he := hb.hen
  have h5 := hb.hl
  have h6 := hb.hh
  refine ⟨by omega, by omega, fun c1 c2 => ?_, fun c1 c2 => ?_⟩
  · have := h.lt (s - 1) (by omega) (by omega)
    rw [show n - 1 - (s - 1) = n - s by omega] at this
    exact this
  · have := h.ge s (Nat.le_refl _) (by omega)
    rw [show n - 1 - s = n - s - 1 by omega] at this
    exact this
end Go.Proofs.Ytmmoenleldcadaa.HF
