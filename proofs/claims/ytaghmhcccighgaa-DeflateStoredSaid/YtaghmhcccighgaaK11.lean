/- Parts: PWordD PSayD PMat FSpr PSpr PSym PRdg PStoD -/
import Derived.Test.YtaghmhcccighgaaK04
import Derived.Test.YtaghmhcccighgaaK10
import Derived.Test.YtaghmhcccighgaaK02
import Derived.Test.YtaghmhcccighgaaK03
import Derived.Test.YtaghmhcccighgaaK01
import Derived.Test.YtaghmhcccighgaaK05
set_option linter.unusedVariables false
set_option linter.unusedSimpArgs false
section
/- The bits of a word are read as its symbol; plain. -/
namespace Go.Proofs.Ytaghmhcccighgaa.HP
open Go.RowKit Go.Proofs.Ytaghmhcccighgaa.Fn Go.Proofs.Ytaghmhcccighgaa.HF Go.Proofs.Ytaghmhcccighgaa.PR Go.Proofs.Ytaghmhcccighgaa.MB Go.Proofs.YtaghmhcccighgaaW.PrintWords Go.Proofs.YtaghmhcccighgaaW.PrintLast Go.Proofs.YtaghmhcccighgaaW.PrintMore
theorem bitI_bnat (s : ByteArray) (a : Nat) : bitI s a = (bnat (sbit s a) : Int) := by
  show ((nb (sbit s) a 0 + (if sbit s (a + 0) = true then 2 ^ 0 else 0) : Nat) : Int) = _
  rw [Nat.add_zero]
  unfold bnat nb
  split <;> rfl
theorem half_step (c k : Nat) : 2 * (c / 2 ^ (k + 1)) + bnat (c.testBit k) = c / 2 ^ k := by
  have e := Nat.testBit_eq_decide_div_mod_eq (x := c) (i := k)
  have h : c / 2 ^ (k + 1) = c / 2 ^ k / 2 := by rw [Nat.pow_succ, Nat.div_div_eq_div_mul]
  rw [h, e]
  unfold bnat
  rcases Nat.mod_two_eq_zero_or_one (c / 2 ^ k) with h2 | h2
  · rw [h2]; simp; omega
  · rw [h2]; simp; omega
/-- The bits of a symbol's word are read as it. -/
theorem symF_word {lens : List Int} (ho : okL lens = true) (s : ByteArray) (x L c p : Nat) (hx : x < lens.length) (hL : lens[x] = (L : Int)) (h0 : 0 < L) (hc : codeAt lens x = (c : Int)) (hfit : p + L ≤ 8 * s.size) (hb : ∀ i, i < L → sbit s (p + i) = c.testBit (L - 1 - i)) :
    symF lens s p = ((x : Int), 0, p + L) := by
  have hL15 : L ≤ 15 := by have := (okL_open ho).2.1 lens[x] (List.getElem_mem _); omega
  obtain ⟨c1, c2, c3⟩ := code_fits ho x L hx hL h0
  have hE : eT (cF lens) L = nxt (fun k => cntL lens k) L + cntL lens (L : Int) := if_neg (by omega)
  have hE2 : 2 * eT (cF lens) (L - 1) ≤ (c : Int) := by
    obtain ⟨m, rfl⟩ : ∃ m, L = m + 1 := ⟨L - 1, by omega⟩
    rw [Nat.add_sub_cancel, ← eT_next, ← hc, codeAt_eq lens x (m + 1) hx hL (by omega)]
    have := (cntL_nn (lens.take x) ((m + 1 : Nat) : Int)).1
    show nxt (fun k : Nat => cntL lens k) (m + 1) ≤ _
    omega
  have key : ∀ d m, m + d = L → 0 < d → symS lens s (15 - m) (m + 1) ((c / 2 ^ d : Nat) : Int) (p + m) = ((x : Int), 0, p + L) := by
    intro d
    induction d with
    | zero => intro m _ h; exact absurd h (Nat.lt_irrefl 0)
    | succ d ih =>
      intro m hm _
      have hbit : bitI s (p + m) = (bnat (c.testBit d) : Int) := by
        rw [bitI_bnat, hb m (by omega), show L - 1 - m = d by omega]
      have hw : 2 * ((c / 2 ^ (d + 1) : Nat) : Int) + bitI s (p + m) = ((c / 2 ^ d : Nat) : Int) := by
        rw [hbit]
        have := half_step c d
        omega
      rw [show 15 - m = (14 - m) + 1 by omega]
      unfold symS
      rw [if_neg (by omega), hw, Nat.add_sub_cancel]
      by_cases hd : d = 0
      · subst hd
        obtain rfl : L = m + 1 := by omega
        rw [Nat.pow_zero, Nat.div_one, if_pos (by rw [hE]; omega)]
        rw [Nat.add_sub_cancel] at hE2
        obtain ⟨k, hk⟩ : ∃ k : Nat, (c : Int) - 2 * eT (cF lens) m = k := ⟨((c : Int) - 2 * eT (cF lens) m).toNat, by omega⟩
        have hES : eT (cF lens) (m + 1) = 2 * eT (cF lens) m + cF lens (m + 1) := eT_succ _ _
        obtain ⟨j, hj, hs1, hs2, hs3⟩ := sym_at (lens := lens) (m + 1) k (by omega) hL15 (by omega)
        rw [Nat.add_sub_cancel] at hs1 hs3
        rw [hk, Int.toNat_natCast, hs1]
        have hjx : j = x := by
          by_cases hjx : j = x
          · exact hjx
          · exfalso
            refine code_apart ho j x (m + 1) 0 hj hx hjx hs2 (by omega) (by rw [hL]) ?_
            rw [hc, show ((0 : Nat) : Int) = ((0 : Nat) : Int) from rfl, shr_i64 c 0 (by omega), Nat.pow_zero, Nat.div_one, hs3]
            omega
        rw [hjx]
        rfl
      · have hg := eT_grow lens (m + 1) (d - 1)
        rw [show m + 1 + (d - 1) = L - 1 by omega] at hg
        have hge : eT (cF lens) (m + 1) ≤ ((c / 2 ^ d : Nat) : Int) := by
          rw [Int.natCast_ediv, Int.natCast_pow]
          refine (Int.le_ediv_iff_mul_le (Int.pow_pos (by decide))).2 ?_
          obtain ⟨e, rfl⟩ : ∃ e, d = e + 1 := ⟨d - 1, by omega⟩
          rw [Nat.add_sub_cancel] at hg
          show eT (cF lens) (m + 1) * (2 : Int) ^ (e + 1) ≤ _
          rw [Int.pow_succ, ← Int.mul_assoc]
          omega
        have hbeg : ∃ i, Begins lens (m + 1) ((c / 2 ^ d : Nat) : Int) i := ⟨x, hx, by rw [hL]; omega, by
          rw [hc, hL, show (L : Int) - ((m + 1 : Nat) : Int) = (d : Int) by omega, shr_i64 c d (by omega)]⟩
        have hbi := (begins_iff ho (m + 1) (by omega) (c / 2 ^ d) hge).1 hbeg
        rw [if_neg (by omega), if_pos hbi]
        have := ih (m + 1) (by omega) (by omega)
        rw [show 15 - (m + 1) = 14 - m by omega, show p + (m + 1) = p + m + 1 by omega] at this
        exact this
  have hz : c / 2 ^ L = 0 := Nat.div_eq_of_lt (by
    have : ((c : Nat) : Int) < ((2 ^ L : Nat) : Int) := by rw [Int.natCast_pow]; show (c : Int) < (2 : Int) ^ L; omega
    omega)
  have := key L 0 (by omega) h0
  rw [hz] at this
  exact this
end Go.Proofs.Ytaghmhcccighgaa.HP
end
section
/- Bits that stand at a place, and what is read there; plain. -/
namespace Go.Proofs.Ytaghmhcccighgaa.IW
open Go.RowKit Go.Proofs.YtaghmhcccighgaaW.PrintWords Go.Proofs.Ytaghmhcccighgaa.MB Go.Proofs.Ytaghmhcccighgaa.Fn Go.Proofs.Ytaghmhcccighgaa.HF Go.Proofs.Ytaghmhcccighgaa.RT Go.Proofs.Ytaghmhcccighgaa.RT.Rd Go.Proofs.Ytaghmhcccighgaa.HP Go.Proofs.Ytaghmhcccighgaa.HI
theorem getD_wordB (c : Nat) : ∀ (q i : Nat), (wordB c q).getD i false = (decide (i < q) && c.testBit (q - 1 - i))
  | 0, i => by simp [wordB]
  | q + 1, 0 => by simp [wordB]
  | q + 1, i + 1 => by
    show (wordB c q).getD i false = _
    rw [getD_wordB c q i, show q + 1 - 1 - (i + 1) = q - 1 - i by omega]
    congr 1
    rw [decide_eq_decide]
    omega
/-- Bits stand at a place. -/
def BitsAt (s : ByteArray) (p : Nat) (l : List Bool) : Prop := p + l.length ≤ 8 * s.size ∧ ∀ i, i < l.length → sbit s (p + i) = l.getD i false
theorem told_at {s : ByteArray} {l m r : List Bool} (h : STold s (l ++ (m ++ r))) : BitsAt s l.length m := by
  refine ⟨?_, fun i hi => ?_⟩
  · have := h.1
    rw [List.length_append, List.length_append] at this
    omega
  · rw [h.2, getD_append, if_neg (by omega), Nat.add_sub_cancel_left, getD_append, if_pos hi]
theorem BitsAt.left {s : ByteArray} {p : Nat} {l m : List Bool} (h : BitsAt s p (l ++ m)) : BitsAt s p l := by
  refine ⟨by have := h.1; rw [List.length_append] at this; omega, fun i hi => ?_⟩
  rw [h.2 i (by rw [List.length_append]; omega), getD_append, if_pos hi]
theorem BitsAt.right {s : ByteArray} {p : Nat} {l m : List Bool} (h : BitsAt s p (l ++ m)) : BitsAt s (p + l.length) m := by
  refine ⟨by have := h.1; rw [List.length_append] at this; omega, fun i hi => ?_⟩
  rw [Nat.add_assoc, h.2 (l.length + i) (by rw [List.length_append]; omega), getD_append, if_neg (by omega), Nat.add_sub_cancel_left]
theorem read_n {s : ByteArray} {p x n : Nat} (hx : x < 2 ^ n) (h : BitsAt s p (bitsOf x n)) : (bitsN n).run s p = .ok x (p + n) := by
  have h1 := h.1
  rw [bitsOf_length] at h1
  rw [run_bitsN s n p (by omega), if_pos h1]
  congr 1
  refine (nb_unique hx (fun i hi => ?_)).symm
  rw [h.2 i (by rw [bitsOf_length]; exact hi), getD_bitsOf, decide_eq_true hi, Bool.true_and]
theorem read_sym {lens : List Int} (ho : okL lens = true) {s : ByteArray} {p x L c : Nat} (hx : x < lens.length) (hL : lens[x] = (L : Int)) (h0 : 0 < L) (hc : codeAt lens x = (c : Int)) (h : BitsAt s p (wordB c L)) : (symT lens).run s p = .ok (x : Int) (p + L) := by
  have h1 := h.1
  rw [wordB_len] at h1
  rw [run_symT, symF_word ho s x L c p hx hL h0 hc h1 (fun i hi => by rw [h.2 i (by rw [wordB_len]; exact hi), getD_wordB, decide_eq_true hi, Bool.true_and])]
  exact symQ_ok _ _
theorem packed_go (most : Nat) (lens : List Int) (d : Option (List Int)) (F : Nat) (w : List Int) (s : ByteArray) (p : Nat) {k : Int} {p1 : Nat} (h : (symT lens).run s p = .ok k p1) :
    (packedT most lens d (F + 1) w).run s p = (if k = 256 then ret w else if 256 < k then (copiesT most w k.toNat d).bind fun o => packedT most lens d F o else if most < w.length + 1 then err 4 else packedT most lens d F (w ++ [k])).run s p1 := bind_run _ h
end Go.Proofs.Ytaghmhcccighgaa.IW
end
section
/- What the matcher finds: plain. -/
namespace Go.Proofs.Ytaghmhcccighgaa.DF
open Go.Proofs.YtaghmhcccighgaaW.PrintWords Go.Proofs.Ytaghmhcccighgaa.MB
/-- Three bytes. -/
abbrev K3 := Int × Int × Int
def k3 (s : ByteArray) (i : Nat) : K3 := (bt s (i : Int), bt s ((i : Int) + 1), bt s ((i : Int) + 2))
/-- The last place with three bytes, of those that were noted. -/
def lastK (s : ByteArray) (k : K3) : Nat → Option Nat
  | 0 => none
  | j + 1 => if j + 3 ≤ s.size ∧ k3 s j = k then some j else lastK s k j
def ofO (o : Option Nat) : Int := match o with | some j => (j : Int) | none => -1
/-- The place ahead of a place with the same three. -/
def prevOf (s : ByteArray) (i : Nat) : Int := if i + 3 ≤ s.size then ofO (lastK s (k3 s i) i) else -1
/-- So many bytes are alike. -/
def matG (s : ByteArray) (p at_ : Nat) : Nat → Nat → Nat
  | 0, n => n
  | f + 1, n => if n < 258 ∧ at_ + n < s.size ∧ bt s ((p : Int) + n) = bt s ((at_ : Int) + n) then matG s p at_ f (n + 1) else n
def mat (s : ByteArray) (p at_ : Nat) : Nat := matG s p at_ 258 0
/-- The longest copy: how far, how many. -/
def bestG (s : ByteArray) (at_ : Nat) : Nat → Int → Nat × Nat → Nat × Nat
  | 0, _, o => o
  | f + 1, p, o => if 0 ≤ p ∧ (at_ : Int) - p ≤ 32768 ∧ o.2 < 64 then
      bestG s at_ f (prevOf s p.toNat) (if o.2 < mat s p.toNat at_ then (at_ - p.toNat, mat s p.toNat at_) else o) else o
def best (s : ByteArray) (at_ : Nat) : Nat × Nat := if at_ + 3 ≤ s.size then bestG s at_ 32 (ofO (lastK s (k3 s at_) at_)) (0, 0) else (0, 0)
/-- What is told at a place: a byte, a copy. -/
def symAt (s : ByteArray) (a : Nat) : Nat × Nat :=
  if (best s a).2 < 3 ∨ ((best s a).2 < 64 ∧ (best s a).2 < (best s (a + 1)).2) then (0, (bt s (a : Int)).toNat) else best s a
def stepOf (x : Nat × Nat) : Nat := if x.1 = 0 then 1 else x.2
/-- The text's symbols from a place on. -/
def symsF (s : ByteArray) : Nat → Nat → List (Nat × Nat)
  | 0, _ => []
  | f + 1, a => if a < s.size then symAt s a :: symsF s f (a + stepOf (symAt s a)) else []
def symsOf (s : ByteArray) : List (Nat × Nat) := symsF s s.size 0
theorem lastK_lt {s : ByteArray} {k : K3} : ∀ {a j : Nat}, lastK s k a = some j → j < a ∧ j + 3 ≤ s.size ∧ k3 s j = k
  | 0, j, h => by cases h
  | a + 1, j, h => by
    unfold lastK at h
    by_cases hc : a + 3 ≤ s.size ∧ k3 s a = k
    · rw [if_pos hc] at h
      injection h with h
      subst h
      exact ⟨Nat.lt_succ_self _, hc⟩
    · rw [if_neg hc] at h
      have := lastK_lt h
      exact ⟨by omega, this.2⟩
theorem prevOf_lt (s : ByteArray) (i : Nat) : prevOf s i < i ∧ -1 ≤ prevOf s i := by
  unfold prevOf
  by_cases h : i + 3 ≤ s.size
  · rw [if_pos h]
    cases hl : lastK s (k3 s i) i with
    | none => exact ⟨by show (-1 : Int) < _; omega, Int.le_refl _⟩
    | some j =>
      have := (lastK_lt hl).1
      exact ⟨by show (j : Int) < _; omega, by show (-1 : Int) ≤ (j : Int); omega⟩
  · rw [if_neg h]
    exact ⟨by omega, Int.le_refl _⟩
theorem matG_end (s : ByteArray) (p a n : Nat) (h : ¬ (n < 258 ∧ a + n < s.size ∧ bt s ((p : Int) + n) = bt s ((a : Int) + n))) : ∀ f, matG s p a f n = n
  | 0 => rfl
  | f + 1 => if_neg h
theorem matG_go (s : ByteArray) (p a n f : Nat) (h : n < 258 ∧ a + n < s.size ∧ bt s ((p : Int) + n) = bt s ((a : Int) + n)) : matG s p a (f + 1) n = matG s p a f (n + 1) := if_pos h
theorem matG_spec (s : ByteArray) (p a : Nat) : ∀ (f n : Nat), (∀ i, i < n → bt s ((p : Int) + i) = bt s ((a : Int) + i)) → n ≤ 258 → (n = 0 ∨ a + n ≤ s.size) →
    n ≤ matG s p a f n ∧ matG s p a f n ≤ 258 ∧ (matG s p a f n = 0 ∨ a + matG s p a f n ≤ s.size) ∧ ∀ i, i < matG s p a f n → bt s ((p : Int) + i) = bt s ((a : Int) + i)
  | 0, n, h, h1, h2 => ⟨Nat.le_refl _, h1, h2, h⟩
  | f + 1, n, h, h1, h2 => by
    by_cases hc : n < 258 ∧ a + n < s.size ∧ bt s ((p : Int) + n) = bt s ((a : Int) + n)
    · rw [matG_go s p a n f hc]
      obtain ⟨e1, e2⟩ := matG_spec s p a f (n + 1) (fun i hi => by
        by_cases hin : i = n
        · subst hin; exact hc.2.2
        · exact h i (by omega)) (by omega) (Or.inr (by omega))
      exact ⟨by omega, e2⟩
    · rw [matG_end s p a n hc]
      exact ⟨Nat.le_refl _, h1, h2, h⟩
theorem mat_spec (s : ByteArray) (p a : Nat) : mat s p a ≤ 258 ∧ (mat s p a = 0 ∨ a + mat s p a ≤ s.size) ∧ ∀ i, i < mat s p a → bt s ((p : Int) + i) = bt s ((a : Int) + i) :=
  (matG_spec s p a 258 0 (fun i hi => by omega) (by omega) (Or.inl rfl)).2
/-- A true copy, or none. -/
def CopyOk (s : ByteArray) (a : Nat) (x : Nat × Nat) : Prop := x.2 = 0 ∨ (1 ≤ x.1 ∧ x.1 ≤ a ∧ x.1 ≤ 32768 ∧ x.2 ≤ 258 ∧ a + x.2 ≤ s.size ∧ ∀ i, i < x.2 → bt s (((a - x.1 : Nat) : Int) + i) = bt s ((a : Int) + i))
theorem bestG_ok (s : ByteArray) (a : Nat) : ∀ (f : Nat) (p : Int) (o : Nat × Nat), p < a → CopyOk s a o → CopyOk s a (bestG s a f p o)
  | 0, _, _, _, h => h
  | f + 1, p, o, hp, h => by
    unfold bestG
    by_cases hc : 0 ≤ p ∧ (a : Int) - p ≤ 32768 ∧ o.2 < 64
    · rw [if_pos hc]
      obtain ⟨q, rfl⟩ : ∃ q : Nat, p = q := ⟨p.toNat, by omega⟩
      rw [Int.toNat_natCast]
      have hq := (prevOf_lt s q).1
      refine bestG_ok s a f _ _ (by omega) ?_
      split
      · obtain ⟨m1, m2, m3⟩ := mat_spec s q a
        refine Or.inr ⟨by omega, by omega, by omega, m1, ?_, fun i hi => ?_⟩
        · rcases m2 with m2 | m2
          · omega
          · exact m2
        · rw [show a - (a - q) = q by omega]
          exact m3 i hi
      · exact h
    · rw [if_neg hc]
      exact h
theorem best_ok (s : ByteArray) (a : Nat) : CopyOk s a (best s a) := by
  unfold best
  by_cases h : a + 3 ≤ s.size
  · rw [if_pos h]
    refine bestG_ok s a 32 _ _ ?_ (Or.inl rfl)
    cases hl : lastK s (k3 s a) a with
    | none => show (-1 : Int) < _; omega
    | some j =>
      have := (lastK_lt hl).1
      show (j : Int) < _
      omega
  · rw [if_neg h]
    exact Or.inl rfl
theorem best_bd (s : ByteArray) (a : Nat) : (best s a).2 ≤ 258 ∧ (best s a).1 ≤ 32768 := by
  rcases best_ok s a with h | h
  · refine ⟨by omega, ?_⟩
    unfold best at h ⊢
    split
    · rename_i h3
      rw [if_pos h3] at h
      generalize ofO (lastK s (k3 s a) a) = p at h ⊢
      -- the distance of an empty copy
      have : ∀ (f : Nat) (p : Int) (o : Nat × Nat), o.1 ≤ 32768 → (bestG s a f p o).1 ≤ 32768 := by
        intro f
        induction f with
        | zero => intro p o h; exact h
        | succ f ih =>
          intro p o h
          unfold bestG
          split
          · refine ih _ _ ?_
            split
            · show a - p.toNat ≤ 32768; omega
            · exact h
          · exact h
      exact this 32 p (0, 0) (by decide)
    · decide
  · exact ⟨h.2.2.2.1, h.2.2.1⟩
theorem bt_rng (s : ByteArray) (i : Int) : 0 ≤ bt s i ∧ bt s i < 256 := by
  obtain ⟨b, hb, h⟩ := bt_nat s i
  rw [hb]
  omega
/-- A symbol of a text: a byte, or a true copy of three bytes or more. -/
def SymOk (s : ByteArray) (a : Nat) (x : Nat × Nat) : Prop := (x.1 = 0 ∧ (x.2 : Int) = bt s (a : Int) ∧ x.2 < 256) ∨ (1 ≤ x.1 ∧ x.1 ≤ a ∧ x.1 ≤ 32768 ∧ 3 ≤ x.2 ∧ x.2 ≤ 258 ∧ a + x.2 ≤ s.size ∧ ∀ i, i < x.2 → bt s (((a - x.1 : Nat) : Int) + i) = bt s ((a : Int) + i))
theorem symAt_ok (s : ByteArray) (a : Nat) : SymOk s a (symAt s a) := by
  unfold symAt
  split
  · have := bt_rng s (a : Int)
    exact Or.inl ⟨rfl, by show ((bt s (a : Int)).toNat : Int) = _; omega, by show (bt s (a : Int)).toNat < 256; omega⟩
  · rename_i h
    rcases best_ok s a with h2 | h2
    · omega
    · exact Or.inr ⟨h2.1, h2.2.1, h2.2.2.1, by omega, h2.2.2.2.1, h2.2.2.2.2⟩
theorem stepOf_pos {s : ByteArray} {a : Nat} {x : Nat × Nat} (h : SymOk s a x) : 1 ≤ stepOf x := by
  unfold stepOf
  rcases h with h | h
  · rw [if_pos h.1]; exact Nat.le_refl _
  · rw [if_neg (by omega)]; omega
theorem symsF_room (s : ByteArray) : ∀ (f g a : Nat), s.size ≤ f + a → s.size ≤ g + a → symsF s f a = symsF s g a
  | 0, 0, _, _, _ => rfl
  | 0, g + 1, a, h1, _ => (if_neg (by omega)).symm
  | f + 1, 0, a, _, h2 => if_neg (by omega)
  | f + 1, g + 1, a, h1, h2 => by
    unfold symsF
    split
    · have := stepOf_pos (symAt_ok s a)
      rw [symsF_room s f g (a + stepOf (symAt s a)) (by omega) (by omega)]
    · rfl
end Go.Proofs.Ytaghmhcccighgaa.DF
end
section
-- machine text of this session's own
namespace Go.Proofs.Ytaghmhcccighgaa.Fn
open Go.RowKit Go.Proofs.YtaghmhcccighgaaW.PrintWords Go.Proofs.YtaghmhcccighgaaW.PrintLast Go.Proofs.YtaghmhcccighgaaW.PrintMore
attribute [local go_sem] max2_int min2_int max_two min_two max_three min_three max_four min_four   -- for this text's walks alone
set_option linter.unusedVariables false
set_option linter.unusedSimpArgs false
/-! ### deflate_spread: function 47 -/
def deflate_spread.l0 : Nat → Int → Int → Int → Option (Int × Int × Int)
  | 0, _, _, _ => none
  | k + 1, x0, x1, x6 => if 0 ≤ x6 then (if (shr .i64 x0 x6) ≥ (wrap64 (2 * x1)) then (deflate_spread.l0 k x0 x1 (wrap64 (x6 + 1))) else (some (wrap64 ((wrap64 (x1 * x6)) + (shr .i64 x0 x6)), Go.bits .and .i64 x0 (wrap64 ((shl .i64 1 x6) - 1)), x6))) else (none)
def deflate_spread.f (k : Nat) (a0 : Int) (a1 : Int) : Option (Int × Int × Int) := if a0 < (wrap64 (2 * a1)) then (some (a0, 0, 0)) else (deflate_spread.l0 k a0 a1 0)
theorem deflate_spread.mono_l : ∀ k, (∀ y0 y1 y2, LeO (deflate_spread.l0 k y0 y1 y2) (deflate_spread.l0 (k + 1) y0 y1 y2))
  | 0 => fun _ _ _ r h => by simp [deflate_spread.l0] at h
  | k + 1 => by
    have ih0 := deflate_spread.mono_l k
    · intro y0 y1 y2
      unfold deflate_spread.l0
      repeat' first
      | (with_reducible exact ih0 _ _ _)
      | (with_reducible exact LeO.refl _)
      | (with_reducible exact LeO.none _)
      | (with_reducible refine LeO.ite ?_ ?_)
      | (with_reducible refine LeO.bind ?_ (fun _ => ?_))
      | exact ih0 _ _ _
      | exact LeO.none _
      | refine LeO.ite ?_ ?_
      | refine LeO.bind ?_ (fun _ => ?_)
theorem deflate_spread.mono : ∀ a0 a1 k, LeO (deflate_spread.f k a0 a1) (deflate_spread.f (k + 1) a0 a1) := by
  intro a0 a1 k
  have ih0 := deflate_spread.mono_l k
  unfold deflate_spread.f
  repeat' first
      | (with_reducible exact ih0 _ _ _)
      | (with_reducible exact LeO.refl _)
      | (with_reducible exact LeO.none _)
      | (with_reducible refine LeO.ite ?_ ?_)
      | (with_reducible refine LeO.bind ?_ (fun _ => ?_))
      | exact ih0 _ _ _
      | exact LeO.none _
      | refine LeO.ite ?_ ?_
      | refine LeO.bind ?_ (fun _ => ?_)
set_option maxHeartbeats 8000000 in
set_option maxRecDepth 100000 in
theorem deflate_spread.calls (k : Nat) (a0 : Int) (a1 : Int) (r1 : Int) (r2 : Int) (r3 : Int) (w : World) (h : deflate_spread.f k a0 a1 = some (r1, r2, r3)) :
    Calls Try.prog 47 #[.int .i64 a0, .int .i64 a1] w fun e w' => e = .returned (.tuple #[.int .i64 r1, .int .i64 r2, .int .i64 r3]) ∧ Drawn0 w w' := by
  have H : (if a0 < (wrap64 (2 * a1)) then (some (a0, 0, 0)) else (deflate_spread.l0 k a0 a1 0)) = some (r1, r2, r3) := h
  clear h
  by_cases c3 : a0 < (wrap64 (2 * a1))
  · rw [if_pos c3] at H
    have c3b0 : decide (a0 < (wrap64 (2 * a1))) = true := decide_eq_true c3
    clear c3
    simp only [Option.some.injEq, Prod.mk.injEq] at H
    obtain ⟨rfl, rfl, rfl⟩ := H
    go_enter Try.func47, Try.ntmps47
    go_wp2
    repeat (go_quiet (fail); try go_wp2)
    go_ret3
    exact ⟨by first | rfl | (simp; done) | (simp [*]; done), by repeat (first | exact Drawn0.refl _ | apply Drawn0.step)⟩
  · rw [if_neg c3] at H
    have c3b0 : decide (a0 < (wrap64 (2 * a1))) = false := decide_eq_false c3
    clear c3
    have H' := Aside0.mk H
    clear H
    go_enter Try.func47, Try.ntmps47
    go_wp2
    repeat (go_quiet (fail); try go_wp2)
    go_loopg [6] k (fun kq v6 w' => ∃ (x6_1 : Int), v6 = .int .i64 x6_1 ∧ Aside0 (deflate_spread.l0 kq a0 a1 x6_1 = some (r1, r2, r3)) ∧ Aside0 (kq ≤ k) ∧ Drawn0 w w')
    case atStart => exact ⟨(0), (by first | rfl | (simp; done) | (simp [*]; done)), H', ⟨Nat.le_refl _⟩, by repeat (first | exact Drawn0.refl _ | apply Drawn0.step)⟩
    case round =>
      clear H'
      try clear p2
      try clear c3
      try clear c3b0
      obtain ⟨x6_1, rfl, HA, HK1, ⟨m1, rfl⟩⟩ := hrel
      cases gk with
      | zero => exact absurd HA.out (by simp [deflate_spread.l0])
      | succ k1 =>
        have H := HA.out
        clear HA
        simp only [deflate_spread.l0] at H
        by_cases c4 : 0 ≤ x6_1
        · rw [if_pos c4] at H
          have c4b0 := eq_true c4
          have c4b1 : decide (0 ≤ x6_1) = true := decide_eq_true c4
          clear c4
          obtain ⟨ji5, hji5⟩ : ∃ j_ : Int, (shr .i64 a0 x6_1) = j_ := ⟨_, rfl⟩
          replace H : (if (ji5) ≥ (wrap64 (2 * a1)) then (deflate_spread.l0 k1 a0 a1 (wrap64 (x6_1 + 1))) else (some (wrap64 ((wrap64 (a1 * x6_1)) + (ji5)), Go.bits .and .i64 a0 (wrap64 ((shl .i64 1 x6_1) - 1)), x6_1))) = some (r1, r2, r3) := by first | (rw [hji5] at H; exact H) | (simp only [hji5] at H ⊢; exact H)
          have hji5_ : (a0 / 2 ^ min x6_1.toNat 64) = ji5 := hji5
          have hji5z : x6_1 ≤ 64 → (a0 / 2 ^ x6_1.toNat) = ji5 := shr_small hji5
          by_cases c6 : (ji5) ≥ (wrap64 (2 * a1))
          · rw [if_pos c6] at H
            have c6b0 : decide ((wrap64 (2 * a1)) ≤ (ji5)) = true := decide_eq_true c6
            clear c6
            have H' := Aside0.mk H
            clear H
            go_wp2
            repeat (go_quiet (fail); try go_wp2)
            go_roundg k1
            case measure => have := HK1.out; omega
            case rel => exact ⟨(wrap64 (x6_1 + 1)), (by first | rfl | (simp; done) | (simp [*]; done)), H', ⟨by have := HK1.out; omega⟩, by repeat (first | exact Drawn0.refl _ | apply Drawn0.step)⟩
          · rw [if_neg c6] at H
            have c6b0 : decide ((wrap64 (2 * a1)) ≤ (ji5)) = false := decide_eq_false c6
            clear c6
            have c7b0 := eq_true (of_decide_eq_true (by first | (with_reducible assumption) | assumption) : 0 ≤ x6_1)
            have c9b0 := eq_true (of_decide_eq_true (by first | (with_reducible assumption) | assumption) : 0 ≤ x6_1)
            obtain ⟨ji10, hji10⟩ : ∃ j_ : Int, (shl .i64 1 x6_1) = j_ := ⟨_, rfl⟩
            replace H : (some (wrap64 ((wrap64 (a1 * x6_1)) + (ji5)), Go.bits .and .i64 a0 (wrap64 ((ji10) - 1)), x6_1)) = some (r1, r2, r3) := by first | (rw [hji10] at H; exact H) | (simp only [hji10] at H ⊢; exact H)
            have hji10_ : (IntKind.i64.wrap (1 * 2 ^ min x6_1.toNat 64)) = ji10 := hji10
            have hji10z : x6_1 ≤ 64 → (IntKind.i64.wrap (1 * 2 ^ x6_1.toNat)) = ji10 := shl_small hji10
            have hji10u : (IntKind.i64.wrap (2 ^ min x6_1.toNat 64)) = ji10 := by have h_ := hji10_; rw [Int.one_mul] at h_; exact h_
            have hji10v : x6_1 ≤ 64 → (IntKind.i64.wrap (2 ^ x6_1.toNat)) = ji10 := fun hle_ => by have h_ := hji10z hle_; rw [Int.one_mul] at h_; exact h_
            have hji10y : (wrap64 (1 * 2 ^ min x6_1.toNat 64)) = ji10 := (i64_w _).symm.trans hji10_
            have hji10x : x6_1 ≤ 64 → (wrap64 (1 * 2 ^ x6_1.toNat)) = ji10 := fun h_ => (i64_w _).symm.trans (hji10z h_)
            simp only [Option.some.injEq, Prod.mk.injEq] at H
            obtain ⟨rfl, rfl, rfl⟩ := H
            go_wp2
            repeat (go_quiet (fail); try go_wp2)
            go_ret3
            exact ⟨by first | rfl | (simp; done) | (simp only [← hji5, ← hji10] <;> (first | rfl | simp)) | (simp [*]; done), by repeat (first | exact Drawn0.refl _ | apply Drawn0.step)⟩
        · rw [if_neg c4] at H
          exact absurd H (by simp)
/-! ### deflate_length: function 46 -/
def deflate_length.f (k : Nat) (a0 : Int) : Option (Int × Int × Int) := if a0 = 258 then (some (285, 0, 0)) else ((deflate_spread.f k (wrap64 (a0 - 3)) 4).bind fun bt125 => (some (wrap64 (257 + bt125.1), bt125.2.1, bt125.2.2)))
theorem deflate_length.mono : ∀ a0 k, LeO (deflate_length.f k a0) (deflate_length.f (k + 1) a0) := by
  intro a0 k
  unfold deflate_length.f
  repeat' first
      | (with_reducible exact deflate_spread.mono _ _ _)
      | (with_reducible exact LeO.refl _)
      | (with_reducible exact LeO.none _)
      | (with_reducible refine LeO.ite ?_ ?_)
      | (with_reducible refine LeO.bind ?_ (fun _ => ?_))
      | exact deflate_spread.mono _ _ _
      | exact LeO.none _
      | refine LeO.ite ?_ ?_
      | refine LeO.bind ?_ (fun _ => ?_)
set_option maxHeartbeats 8000000 in
set_option maxRecDepth 100000 in
theorem deflate_length.calls (k : Nat) (a0 : Int) (r1 : Int) (r2 : Int) (r3 : Int) (w : World) (h : deflate_length.f k a0 = some (r1, r2, r3)) :
    Calls Try.prog 46 #[.int .i64 a0] w fun e w' => e = .returned (.tuple #[.int .i64 r1, .int .i64 r2, .int .i64 r3]) ∧ Drawn0 w w' := by
  have H : (if a0 = 258 then (some (285, 0, 0)) else ((deflate_spread.f k (wrap64 (a0 - 3)) 4).bind fun bt125 => (some (wrap64 (257 + bt125.1), bt125.2.1, bt125.2.2)))) = some (r1, r2, r3) := h
  clear h
  by_cases c2 : a0 = 258
  · rw [if_pos c2] at H
    have c2b0 : (a0 == 258) = true := beq_iff_eq.mpr c2
    have c2b1 : (a0 != 258) = false := bne_eq_false_iff_eq.mpr c2
    clear c2
    simp only [Option.some.injEq, Prod.mk.injEq] at H
    obtain ⟨rfl, rfl, rfl⟩ := H
    go_enter Try.func46, Try.ntmps46
    go_wp2
    go_ret3
    exact ⟨by first | rfl | (simp; done) | (simp [*]; done), by repeat (first | exact Drawn0.refl _ | apply Drawn0.step)⟩
  · rw [if_neg c2] at H
    have c2b0 : (a0 == 258) = false := beq_eq_false_iff_ne.mpr c2
    have c2b1 : (a0 != 258) = true := bne_iff_ne.mpr c2
    replace H := Option.bind_eq_some_iff.mp H
    obtain ⟨⟨t125, t126, t127⟩, A30, H⟩ := H
    replace H : (some (wrap64 (257 + t125), t126, t127)) = some (r1, r2, r3) := H
    have A3 := Aside0.mk A30
    clear A30
    simp only [Option.some.injEq, Prod.mk.injEq] at H
    obtain ⟨rfl, rfl, rfl⟩ := H
    go_enter Try.func46, Try.ntmps46
    go_wp2_with (first | ((with_reducible refine gate_callee (f := 47) rfl ?_); refine goesL_ (some 13) rfl rfl Try.func47 (by kernel_rfl) rfl #[.int .i64 (wrap64 (a0 - 3)), .int .i64 4] rfl (by (try simp only [List.map_toArray, List.map_cons, List.map_nil]); first | done | rfl | (simp only [List.length_drop, List.length_take]; rfl)) ?_; (with_reducible refine (deflate_spread.calls k (wrap64 (a0 - 3)) 4 t125 t126 t127 _ A3.out).mono ?_); rintro e w' ⟨rfl, ⟨nd, rfl⟩⟩; refine ⟨_, rfl, ?_⟩))
    go_ret3
    exact ⟨by first | rfl | (simp; done) | (simp [*]; done), by repeat (first | exact Drawn0.refl _ | apply Drawn0.step)⟩
end Go.Proofs.Ytaghmhcccighgaa.Fn
end
section
/- spread, length: what they tell; plain. -/
namespace Go.Proofs.Ytaghmhcccighgaa.DF
open Go.RowKit Go.Proofs.YtaghmhcccighgaaW.PrintWords Go.Proofs.YtaghmhcccighgaaW.PrintLast Go.Proofs.YtaghmhcccighgaaW.PrintMore Go.Proofs.Ytaghmhcccighgaa.MB Go.Proofs.Ytaghmhcccighgaa.Fn
/-- How many bits a number has besides. -/
def wideF (b : Nat) : Nat → Nat → Nat
  | 0, _ => 0
  | f + 1, x => if x < 2 * b then 0 else 1 + wideF b f (x / 2)
def wideO (b x : Nat) : Nat := wideF b 20 x
def sprK (b x : Nat) : Nat := b * wideO b x + x / 2 ^ wideO b x
def sprR (b x : Nat) : Nat := x % 2 ^ wideO b x
theorem wideF_spec (b : Nat) (hb : 1 ≤ b) : ∀ (f x : Nat), x < 2 * b * 2 ^ f → x / 2 ^ wideF b f x < 2 * b ∧ (0 < wideF b f x → b ≤ x / 2 ^ wideF b f x) ∧ wideF b f x ≤ f
  | 0, x, h => by
    unfold wideF
    rw [Nat.pow_zero, Nat.mul_one] at h
    rw [Nat.pow_zero, Nat.div_one]
    exact ⟨h, fun h => by omega, Nat.le_refl _⟩
  | f + 1, x, h => by
    unfold wideF
    by_cases hx : x < 2 * b
    · rw [if_pos hx, Nat.pow_zero, Nat.div_one]
      exact ⟨hx, fun h => by omega, Nat.zero_le _⟩
    · rw [if_neg hx]
      have h2 : x / 2 < 2 * b * 2 ^ f := by
        rw [Nat.pow_succ, ← Nat.mul_assoc] at h
        omega
      obtain ⟨i1, i2, i3⟩ := wideF_spec b hb f (x / 2) h2
      rw [show 2 ^ (1 + wideF b f (x / 2)) = 2 * 2 ^ wideF b f (x / 2) by rw [Nat.pow_add], ← Nat.div_div_eq_div_mul]
      refine ⟨i1, fun _ => ?_, by omega⟩
      by_cases h0 : 0 < wideF b f (x / 2)
      · exact i2 h0
      · rw [show wideF b f (x / 2) = 0 by omega, Nat.pow_zero, Nat.div_one]
        omega
theorem shl_one (w : Nat) (hw : w ≤ 20) : shl .i64 1 (w : Int) = ((2 ^ w : Nat) : Int) := by
  have := PR.shl_i64_bit 1 w (by decide) (by omega)
  rw [Nat.one_mul] at this
  exact this
theorem spread_loop (b : Nat) (hb : 1 ≤ b) (hb2 : b ≤ 4) : ∀ (f w x : Nat), x < 65536 → w + f ≤ 20 → x / 2 ^ w < 2 * b * 2 ^ f → ∀ k, f < k →
    deflate_spread.l0 k (x : Int) (b : Int) (w : Int) = some (((b * (w + wideF b f (x / 2 ^ w)) + x / 2 ^ (w + wideF b f (x / 2 ^ w)) : Nat) : Int), ((x % 2 ^ (w + wideF b f (x / 2 ^ w)) : Nat) : Int), ((w + wideF b f (x / 2 ^ w) : Nat) : Int)) := by
  have fin : ∀ (w x k : Nat), x < 65536 → w ≤ 20 → x / 2 ^ w < 2 * b → deflate_spread.l0 (k + 1) (x : Int) (b : Int) (w : Int) = some (((b * w + x / 2 ^ w : Nat) : Int), ((x % 2 ^ w : Nat) : Int), (w : Int)) := by
    intro w x k hx hw h
    rw [deflate_spread.l0, if_pos (by omega), HP.shr_i64 x w (by omega), if_neg (by rw [wrap64_id _ (by omega) (by omega)]; omega)]
    have h2 : 2 ^ w ≤ 2 ^ 20 := Nat.pow_le_pow_right (by decide) hw
    have h3 : 0 < 2 ^ w := Nat.two_pow_pos w
    have h4 : b * w ≤ 4 * 20 := Nat.mul_le_mul hb2 hw
    have h5 : x / 2 ^ w ≤ x := Nat.div_le_self _ _
    have e1 : ∀ q : Nat, q ≤ 65536 → wrap64 (wrap64 ((b : Int) * (w : Int)) + (q : Int)) = ((b * w + q : Nat) : Int) := fun q hq => by
      rw [show (b : Int) * (w : Int) = ((b * w : Nat) : Int) by simp]
      generalize b * w = p at h4
      rw [wrap64_id (p : Int) (by omega) (by omega), wrap64_id ((p : Int) + (q : Int)) (by omega) (by omega)]
      omega
    have e2 : Go.bits .and .i64 (x : Int) (wrap64 (shl .i64 1 (w : Int) - 1)) = ((x % 2 ^ w : Nat) : Int) := by
      rw [shl_one w hw, show ((2 ^ w : Nat) : Int) - 1 = ((2 ^ w - 1 : Nat) : Int) by omega, wrap64_id _ (by omega) (by omega), and_i64 x (2 ^ w - 1) (by omega) (by omega), Nat.and_two_pow_sub_one_eq_mod]
    rw [e1 _ (by omega), e2]
  intro f
  induction f with
  | zero =>
    intro w x hx hw h k hk
    obtain ⟨k, rfl⟩ : ∃ m, k = m + 1 := ⟨k - 1, by omega⟩
    rw [Nat.pow_zero, Nat.mul_one] at h
    rw [show wideF b 0 (x / 2 ^ w) = 0 from rfl, Nat.add_zero]
    exact fin w x k hx (by omega) h
  | succ f ih =>
    intro w x hx hw h k hk
    obtain ⟨k, rfl⟩ : ∃ m, k = m + 1 := ⟨k - 1, by omega⟩
    unfold wideF
    by_cases hs : x / 2 ^ w < 2 * b
    · rw [if_pos hs, Nat.add_zero]
      exact fin w x k hx (by omega) hs
    · rw [if_neg hs]
      have e : x / 2 ^ w / 2 = x / 2 ^ (w + 1) := by rw [Nat.div_div_eq_div_mul, Nat.pow_succ]
      have h5 : x / 2 ^ w ≤ x := Nat.div_le_self _ _
      rw [e, deflate_spread.l0, if_pos (by omega), HP.shr_i64 x w (by omega), if_pos (by rw [wrap64_id _ (by omega) (by omega)]; omega), wrap64_id _ (by omega) (by omega)]
      have h2 : x / 2 ^ (w + 1) < 2 * b * 2 ^ f := by
        rw [← e]
        rw [Nat.pow_succ, ← Nat.mul_assoc] at h
        omega
      have := ih (w + 1) x hx (by omega) h2 k (by omega)
      rw [show w + (1 + wideF b f (x / 2 ^ (w + 1))) = w + 1 + wideF b f (x / 2 ^ (w + 1)) by omega]
      exact this
theorem spread_f (b x : Nat) (hb : 1 ≤ b) (hb2 : b ≤ 4) (hx : x < 65536) : deflate_spread.f 30 (x : Int) (b : Int) = some ((sprK b x : Int), (sprR b x : Int), (wideO b x : Int)) := by
  unfold deflate_spread.f
  rw [wrap64_id _ (by omega) (by omega)]
  by_cases h : x < 2 * b
  · rw [if_pos (by omega)]
    have hw : wideO b x = 0 := by unfold wideO wideF; exact if_pos h
    unfold sprK sprR
    rw [hw, Nat.pow_zero, Nat.div_one, Nat.mod_one, Nat.mul_zero, Nat.zero_add]
    rfl
  · rw [if_neg (by omega)]
    have := spread_loop b hb hb2 20 0 x hx (by decide) (by rw [Nat.pow_zero, Nat.div_one]; omega) 30 (by decide)
    rw [Nat.pow_zero, Nat.div_one, Nat.zero_add] at this
    exact this
/-- A copy's length: its symbol, what it has besides. -/
def lenS (n : Nat) : Nat × Nat × Nat := if n = 258 then (285, 0, 0) else (257 + sprK 4 (n - 3), sprR 4 (n - 3), wideO 4 (n - 3))
def disS (far : Nat) : Nat × Nat × Nat := (sprK 2 (far - 1), sprR 2 (far - 1), wideO 2 (far - 1))
theorem len_tab : ∀ m : Nat, m < 256 → (257 ≤ (lenS (m + 3)).1 ∧ (lenS (m + 3)).1 ≤ 285) ∧ (lenS (m + 3)).2.1 < 2 ^ (lenS (m + 3)).2.2 ∧ (lenS (m + 3)).2.2 ≤ 5 ∧ (RT.lenB (lenS (m + 3)).1).2 = (lenS (m + 3)).2.2 ∧ (RT.lenB (lenS (m + 3)).1).1 + (lenS (m + 3)).2.1 = m + 3 := by decide +kernel
theorem length_f (n : Nat) (h3 : 3 ≤ n) (h258 : n ≤ 258) : deflate_length.f 30 (n : Int) = some (((lenS n).1 : Int), ((lenS n).2.1 : Int), ((lenS n).2.2 : Int)) := by
  unfold deflate_length.f lenS
  by_cases h : n = 258
  · rw [if_pos h, if_pos (by omega)]; rfl
  · rw [if_neg h, if_neg (by omega), wrap64_id _ (by omega) (by omega), show (n : Int) - 3 = ((n - 3 : Nat) : Int) by omega, show (4 : Int) = ((4 : Nat) : Int) from rfl, spread_f 4 (n - 3) (by decide) (by decide) (by omega)]
    have ht := (len_tab (n - 3) (by omega)).1
    rw [show n - 3 + 3 = n by omega] at ht
    unfold lenS at ht
    rw [if_neg h] at ht
    simp only [Option.bind_some]
    rw [wrap64_id _ (by omega) (by omega)]
    congr 2
theorem dis_spec (far : Nat) (h1 : 1 ≤ far) (h2 : far ≤ 32768) : (disS far).1 < 30 ∧ (disS far).2.1 < 2 ^ (disS far).2.2 ∧ (disS far).2.2 ≤ 13 ∧ (RT.distB (disS far).1).2 = (disS far).2.2 ∧ (RT.distB (disS far).1).1 + (disS far).2.1 = far := by
  obtain ⟨x, rfl⟩ : ∃ x, far = x + 1 := ⟨far - 1, by omega⟩
  unfold disS sprK sprR
  rw [show x + 1 - 1 = x from rfl]
  obtain ⟨s1, s2, s3⟩ := wideF_spec 2 (by decide) 20 x (by omega)
  change x / 2 ^ wideO 2 x < 2 * 2 at s1
  change 0 < wideO 2 x → 2 ≤ x / 2 ^ wideO 2 x at s2
  generalize wideO 2 x = w at s1 s2
  have hp : 0 < 2 ^ w := Nat.two_pow_pos w
  have hd := Nat.div_add_mod x (2 ^ w)
  generalize hq : x / 2 ^ w = q at s1 s2 hd
  have hm := Nat.mod_lt x hp
  generalize hr : x % 2 ^ w = r at hd hm
  have hw13 : w ≤ 13 := by
    rcases Nat.lt_or_ge 13 w with h | h
    · exfalso
      have h14 : 2 ^ 14 ≤ 2 ^ w := Nat.pow_le_pow_right (by decide) h
      have := s2 (by omega)
      have h5 : 2 ^ w * 2 ≤ 2 ^ w * q := Nat.mul_le_mul_left _ this
      omega
    · exact h
  refine ⟨by show 2 * w + q < 30; omega, hm, hw13, ?_, ?_⟩
  · show (RT.distB (2 * w + q)).2 = w
    unfold RT.distB
    by_cases h0 : w = 0
    · subst h0
      rw [if_pos (by omega)]
    · have := s2 (by omega)
      rw [if_neg (by omega)]
      show (2 * w + q) / 2 - 1 = w
      omega
  · show (RT.distB (2 * w + q)).1 + r = x + 1
    unfold RT.distB
    by_cases h0 : w = 0
    · subst h0
      rw [if_pos (by omega)]
      show 1 + (2 * 0 + q) + r = x + 1
      rw [Nat.pow_zero] at hd hm
      omega
    · have := s2 (by omega)
      rw [if_neg (by omega)]
      show 1 + (2 + (2 * w + q) % 2) * 2 ^ ((2 * w + q) / 2 - 1) + r = x + 1
      rw [show (2 * w + q) / 2 - 1 = w by omega, show 2 + (2 * w + q) % 2 = q by omega, Nat.mul_comm q]
      omega
theorem dist_f (far : Nat) (h1 : 1 ≤ far) (h2 : far ≤ 32768) : deflate_spread.f 30 ((far : Int) - 1) 2 = some (((disS far).1 : Int), ((disS far).2.1 : Int), ((disS far).2.2 : Int)) := by
  rw [show (far : Int) - 1 = ((far - 1 : Nat) : Int) by omega]
  exact spread_f 2 (far - 1) (by decide) (by decide) (by omega)
end Go.Proofs.Ytaghmhcccighgaa.DF
end
section
/- Words of symbols, and a block's symbols as bits; plain. -/
namespace Go.Proofs.Ytaghmhcccighgaa.DF
open Go.RowKit Go.Proofs.YtaghmhcccighgaaW.PrintWords Go.Proofs.YtaghmhcccighgaaW.PrintLast Go.Proofs.YtaghmhcccighgaaW.PrintMore Go.Proofs.Ytaghmhcccighgaa.MB Go.Proofs.Ytaghmhcccighgaa.HF Go.Proofs.Ytaghmhcccighgaa.HP
/-- A symbol's word. -/
def wd (l : List Int) (x : Int) : List Bool := wordB (rd (codesL l) x).toNat (rd l x).toNat
/-- A symbol with a word. -/
def okS (l : List Int) (x : Int) : Prop := 0 ≤ x ∧ x < l.length ∧ rd l x ≠ 0
theorem pow_bdD {d : Nat} (h : d ≤ 15) : (1 : Int) ≤ 2 ^ d ∧ (2 : Int) ^ d ≤ 32768 := by
  have h1 : 2 ^ d ≤ 2 ^ 15 := Nat.pow_le_pow_right (by decide) h
  have h2 : 0 < 2 ^ d := Nat.two_pow_pos d
  have e : ((2 ^ d : Nat) : Int) = (2 : Int) ^ d := by simp
  rw [← e]
  omega
theorem okS_open {l : List Int} (ho : okL l = true) {x : Int} (h : okS l x) : ∃ n L c : Nat, x = n ∧ ∃ hn : n < l.length, l[n] = (L : Int) ∧ 0 < L ∧ L ≤ 15 ∧ codeAt l n = (c : Int) ∧ c < 2 ^ 15 ∧ rd l x = (L : Int) ∧ rd (codesL l) x = (c : Int) ∧ wd l x = wordB c L := by
  obtain ⟨h1, h2, h3⟩ := h
  obtain ⟨n, rfl⟩ : ∃ n : Nat, x = n := ⟨x.toNat, by omega⟩
  have hn : n < l.length := by omega
  have e1 := rd_get l n hn
  have e2 := codes_rd l n hn
  have hr := (okL_open ho).2.1 l[n] (List.getElem_mem _)
  obtain ⟨L, hL⟩ : ∃ L : Nat, l[n] = L := ⟨l[n].toNat, by omega⟩
  have h0 : 0 < L := by
    rw [e1, hL] at h3
    omega
  obtain ⟨c1, c2, c3⟩ := code_fits ho n L hn hL h0
  obtain ⟨c, hc⟩ : ∃ c : Nat, codeAt l n = c := ⟨(codeAt l n).toNat, by omega⟩
  have hp := pow_bdD (d := L) (by omega)
  refine ⟨n, L, c, rfl, hn, hL, h0, by omega, hc, by omega, by rw [e1, hL], by rw [e2, hc], ?_⟩
  unfold wd
  rw [e1, e2, hL, hc, Int.toNat_natCast, Int.toNat_natCast]
theorem wd_len {l : List Int} (ho : okL l = true) {x : Int} (h : okS l x) : (wd l x).length = (rd l x).toNat ∧ (wd l x).length ≤ 15 := by
  obtain ⟨n, L, c, _, _, _, _, h15, _, _, e2, _, e⟩ := okS_open ho h
  rw [e, wordB_len, e2, Int.toNat_natCast]
  exact ⟨rfl, h15⟩
/-- A symbol's bits. -/
def symW (lens dist : List Int) (x : Nat × Nat) : List Bool :=
  if x.1 = 0 then wd lens (x.2 : Int) else
    wd lens ((lenS x.2).1 : Int) ++ bitsOf (lenS x.2).2.1 (lenS x.2).2.2 ++ wd dist ((disS x.1).1 : Int) ++ bitsOf (disS x.1).2.1 (disS x.1).2.2
/-- A symbol that has words. -/
def SymIn (lens dist : List Int) (x : Nat × Nat) : Prop :=
  (x.1 = 0 ∧ okS lens (x.2 : Int)) ∨ (x.1 ≠ 0 ∧ (3 ≤ x.2 ∧ x.2 ≤ 258 ∧ 1 ≤ x.1 ∧ x.1 ≤ 32768) ∧ okS lens ((lenS x.2).1 : Int) ∧ okS dist ((disS x.1).1 : Int))
def symsW (lens dist : List Int) (xs : List (Nat × Nat)) : List Bool := xs.flatMap (symW lens dist)
theorem symsW_snoc (lens dist : List Int) (xs : List (Nat × Nat)) (x : Nat × Nat) : symsW lens dist (xs ++ [x]) = symsW lens dist xs ++ symW lens dist x := by
  unfold symsW
  rw [List.flatMap_append, List.flatMap_cons, List.flatMap_nil, List.append_nil]
theorem lenS_bd {n : Nat} (h3 : 3 ≤ n) (h258 : n ≤ 258) : (257 ≤ (lenS n).1 ∧ (lenS n).1 ≤ 285) ∧ (lenS n).2.1 < 2 ^ (lenS n).2.2 ∧ (lenS n).2.2 ≤ 5 ∧ (RT.lenB (lenS n).1).2 = (lenS n).2.2 ∧ (RT.lenB (lenS n).1).1 + (lenS n).2.1 = n := by
  have := len_tab (n - 3) (by omega)
  rw [show n - 3 + 3 = n by omega] at this
  exact this
theorem symW_len {lens dist : List Int} (ho : okL lens = true) (hd : okL dist = true) {x : Nat × Nat} (h : SymIn lens dist x) : (symW lens dist x).length ≤ 48 := by
  unfold symW
  rcases h with ⟨h0, h1⟩ | ⟨h0, ⟨h3, h258, h1, h32⟩, h4, h5⟩
  · rw [if_pos h0]
    have := (wd_len ho h1).2
    omega
  · rw [if_neg h0]
    simp only [List.length_append, bitsOf_length]
    have := (wd_len ho h4).2
    have := (wd_len hd h5).2
    have := (lenS_bd h3 h258).2.2.1
    have := (dis_spec x.1 h1 h32).2.2.1
    omega
theorem symsW_len {lens dist : List Int} (ho : okL lens = true) (hd : okL dist = true) : ∀ xs : List (Nat × Nat), (∀ x ∈ xs, SymIn lens dist x) → (symsW lens dist xs).length ≤ 48 * xs.length
  | [], _ => Nat.le_refl _
  | x :: xs, h => by
    have h1 := symW_len ho hd (h x (List.mem_cons_self ..))
    have h2 := symsW_len ho hd xs (fun y hy => h y (List.mem_cons_of_mem _ hy))
    show (symW lens dist x ++ symsW lens dist xs).length ≤ _
    rw [List.length_append, List.length_cons]
    omega
end Go.Proofs.Ytaghmhcccighgaa.DF
end
section
/- A text's symbols are read as the text: plain. -/
namespace Go.Proofs.Ytaghmhcccighgaa.DF
open Go.RowKit Go.Proofs.YtaghmhcccighgaaW.PrintWords Go.Proofs.Ytaghmhcccighgaa.MB Go.Proofs.Ytaghmhcccighgaa.Fn Go.Proofs.Ytaghmhcccighgaa.HF Go.Proofs.Ytaghmhcccighgaa.RT Go.Proofs.Ytaghmhcccighgaa.RT.Rd Go.Proofs.Ytaghmhcccighgaa.HP Go.Proofs.Ytaghmhcccighgaa.HI Go.Proofs.Ytaghmhcccighgaa.IW
/-- The first bytes of a text. -/
def pre (s : ByteArray) (a : Nat) : List Int := (bytesOf s).take a
theorem pre_len {s : ByteArray} {a : Nat} (h : a ≤ s.size) : (pre s a).length = a := by unfold pre; rw [List.length_take, bytesOf_length]; omega
theorem pre_all (s : ByteArray) : pre s s.size = bytesOf s := by unfold pre; rw [List.take_of_length_le (by rw [bytesOf_length]; exact Nat.le_refl _)]
theorem pre_snoc {s : ByteArray} {a : Nat} (h : a < s.size) : pre s (a + 1) = pre s a ++ [bt s (a : Int)] := by
  unfold pre
  rw [List.take_succ_eq_append_getElem (by rw [bytesOf_length]; exact h)]
  congr 2
  rw [← rd_get (bytesOf s) a (by rw [bytesOf_length]; exact h), rd_bytesOf]
theorem pre_at {s : ByteArray} {a i : Nat} (h : i < a) (ha : a ≤ s.size) : (pre s a).getD i 0 = bt s (i : Int) := by
  unfold pre
  rw [List.getD_eq_getElem?_getD, List.getElem?_take, if_pos h, List.getElem?_eq_getElem (by rw [bytesOf_length]; omega)]
  show (bytesOf s)[i]'_ = _
  rw [← rd_get (bytesOf s) i (by rw [bytesOf_length]; omega), rd_bytesOf]
/-- A true copy gives the text's bytes. -/
theorem copy_pre (s : ByteArray) (f : Nat) (hf : 1 ≤ f) : ∀ (n a : Nat), f ≤ a → a + n ≤ s.size → (∀ i, i < n → bt s (((a - f : Nat) : Int) + i) = bt s ((a : Int) + i)) → copyN f n (pre s a) = pre s (a + n)
  | 0, a, _, _, _ => rfl
  | n + 1, a, h1, h2, h3 => by
    have h0 := h3 0 (Nat.zero_lt_succ _)
    show copyN f n (pre s a ++ [(pre s a).getD ((pre s a).length - f) 0]) = _
    rw [pre_len (by omega), pre_at (by omega) (by omega)]
    have e : bt s ((a - f : Nat) : Int) = bt s (a : Int) := by
      have : ((a - f : Nat) : Int) + ((0 : Nat) : Int) = ((a - f : Nat) : Int) := by omega
      rw [this] at h0
      have : (a : Int) + ((0 : Nat) : Int) = (a : Int) := by omega
      rw [this] at h0
      exact h0
    rw [e, ← pre_snoc (by omega), copy_pre s f hf n (a + 1) (by omega) (by omega) (fun i hi => ?_), show a + 1 + n = a + (n + 1) by omega]
    have := h3 (i + 1) (by omega)
    rw [show ((a + 1 - f : Nat) : Int) + (i : Int) = ((a - f : Nat) : Int) + ((i + 1 : Nat) : Int) by omega, show ((a + 1 : Nat) : Int) + (i : Int) = (a : Int) + ((i + 1 : Nat) : Int) by omega]
    exact this
/-- Symbols lead from a place of a text to another one. -/
def TokTo (s : ByteArray) : Nat → List (Nat × Nat) → Nat → Prop
  | a, [], b => a = b
  | a, x :: r, b => a < s.size ∧ SymOk s a x ∧ TokTo s (a + stepOf x) r b
theorem tok_split (s : ByteArray) : ∀ (ys xs : List (Nat × Nat)) (a b : Nat), TokTo s a (ys ++ xs) b → ∃ m, TokTo s a ys m ∧ TokTo s m xs b
  | [], xs, a, b, h => ⟨a, rfl, h⟩
  | y :: ys, xs, a, b, h => by
    obtain ⟨h1, h2, h3⟩ := h
    obtain ⟨m, h4, h5⟩ := tok_split s ys xs _ b h3
    exact ⟨m, ⟨h1, h2, h4⟩, h5⟩
theorem symOk_step {s : ByteArray} {a : Nat} {x : Nat × Nat} (h : SymOk s a x) (ha : a < s.size) : a + stepOf x ≤ s.size := by
  unfold stepOf
  rcases h with h | h
  · rw [if_pos h.1]; omega
  · rw [if_neg (by omega)]; omega
theorem tok_le {s : ByteArray} : ∀ (xs : List (Nat × Nat)) (a b : Nat), a ≤ s.size → TokTo s a xs b → a ≤ b ∧ b ≤ s.size
  | [], a, b, h, h2 => by
    have h3 : a = b := h2
    omega
  | x :: r, a, b, h, h2 => by
    have h3 := symOk_step h2.2.1 h2.1
    have := tok_le r _ b h3 h2.2.2
    omega
theorem tok_symsF (s : ByteArray) : ∀ (f a : Nat), a ≤ s.size → s.size ≤ f + a → TokTo s a (symsF s f a) s.size
  | 0, a, h1, h2 => by
    show a = s.size
    omega
  | f + 1, a, h1, h2 => by
    unfold symsF
    by_cases h : a < s.size
    · rw [if_pos h]
      have hp := stepOf_pos (symAt_ok s a)
      exact ⟨h, symAt_ok s a, tok_symsF s f _ (symOk_step (symAt_ok s a) h) (by omega)⟩
    · rw [if_neg h]
      show a = s.size
      omega
theorem tok_syms (s : ByteArray) : TokTo s 0 (symsOf s) s.size := tok_symsF s s.size 0 (Nat.zero_le _) (Nat.le_refl _)
/-- A word is read as its symbol. -/
theorem read_wd {lens : List Int} (ho : okL lens = true) {z : ByteArray} {p : Nat} {x : Int} (hx : okS lens x) (h : BitsAt z p (wd lens x)) : (symT lens).run z p = .ok x (p + (wd lens x).length) := by
  obtain ⟨n, L, c, rfl, hn, hL, h0, h15, hc, hc15, e1, e2, e⟩ := okS_open ho hx
  rw [e] at h ⊢
  rw [wordB_len]
  exact read_sym ho hn hL h0 hc h
/-- One symbol is read. -/
theorem read_one {lens dist : List Int} (ho : okL lens = true) (hd : okL dist = true) (m F : Nat) {s z : ByteArray} {p a : Nat} {x : Nat × Nat} (ha : a < s.size) (hm : s.size ≤ m) (hx : SymIn lens dist x) (hs : SymOk s a x) (h : BitsAt z p (symW lens dist x)) :
    (packedT m lens (some dist) (F + 1) (pre s a)).run z p = (packedT m lens (some dist) F (pre s (a + stepOf x))).run z (p + (symW lens dist x).length) := by
  obtain ⟨f, n⟩ := x
  unfold symW at h ⊢
  rcases hx with ⟨h0, hw⟩ | ⟨h0, ⟨h3, h258, h1, h32⟩, hw1, hw2⟩
  · have h0' : f = 0 := h0
    subst h0'
    rw [if_pos rfl] at h ⊢
    have hs2 : (n : Int) = bt s (a : Int) ∧ n < 256 := by
      rcases hs with hs | hs
      · exact hs.2
      · exact absurd hs.1 (show ¬ 1 ≤ 0 by decide)
    have hst : stepOf (0, n) = 1 := rfl
    rw [packed_go m lens (some dist) F (pre s a) z p (read_wd ho hw h), if_neg (by show ¬ (n : Int) = 256; omega), if_neg (by show ¬ 256 < (n : Int); omega), if_neg (by rw [pre_len (by omega)]; omega), hst, pre_snoc ha, ← hs2.1]
  · have h0' : ¬ f = 0 := h0
    have h3' : 3 ≤ n := h3
    have h258' : n ≤ 258 := h258
    have h1' : 1 ≤ f := h1
    have h32' : f ≤ 32768 := h32
    have hs2 : f ≤ a ∧ a + n ≤ s.size ∧ ∀ i, i < n → bt s (((a - f : Nat) : Int) + i) = bt s ((a : Int) + i) := by
      rcases hs with hs | hs
      · exact absurd hs.1 h0'
      · exact ⟨hs.2.1, hs.2.2.2.2.2.1, hs.2.2.2.2.2.2⟩
    rw [if_neg h0'] at h ⊢
    have hst : stepOf (f, n) = n := if_neg h0'
    obtain ⟨l1, l2, l3, l4, l5⟩ := lenS_bd h3' h258'
    obtain ⟨d1, d2, d3, d4, d5⟩ := dis_spec f h1' h32'
    have a1 := h.left.left.left
    have a2 := h.left.left.right
    have a3 := h.left.right
    have a4 := h.right
    have r1 := read_wd ho hw1 a1
    have r2 := read_n l2 a2
    rw [List.length_append, bitsOf_length] at a3
    have r3 := read_wd hd hw2 a3
    rw [List.length_append, List.length_append, bitsOf_length] at a4
    have r4 := read_n d2 a4
    simp only at r1 r2 r3 r4
    have hcp : (copiesT m (pre s a) (lenS n).1 (some dist)).run z (p + (wd lens ((lenS n).1 : Int)).length) = .ok (pre s (a + n)) (p + (wd lens ((lenS n).1 : Int)).length + (lenS n).2.2 + (wd dist ((disS f).1 : Int)).length + (disS f).2.2) := by
      unfold copiesT
      rw [if_neg (by omega), l4, bind_run _ r2]
      simp only
      rw [bind_run _ (by rw [← Nat.add_assoc] at r3; exact r3), if_neg (by omega), Int.toNat_natCast, d4, bind_run _ (by rw [← Nat.add_assoc, ← Nat.add_assoc] at r4; exact r4), d5, l5, if_neg (by rw [pre_len (by omega)]; omega), if_neg (by rw [pre_len (by omega)]; omega), copy_pre s f h1' n a hs2.1 hs2.2.1 hs2.2.2]
      rfl
    rw [packed_go m lens (some dist) F (pre s a) z p r1, if_neg (by omega), if_pos (by omega), Int.toNat_natCast, bind_run _ hcp, hst]
    simp only [List.length_append, bitsOf_length]
    simp only [Nat.add_assoc]
/-- All symbols of a block are read. -/
theorem read_syms {lens dist : List Int} (ho : okL lens = true) (hd : okL dist = true) (m : Nat) {s z : ByteArray} (hm : s.size ≤ m) : ∀ (xs : List (Nat × Nat)) (F p a b : Nat), a ≤ s.size → TokTo s a xs b → (∀ x ∈ xs, SymIn lens dist x) → okS lens 256 → BitsAt z p (symsW lens dist xs ++ wd lens 256) →
    (packedT m lens (some dist) (F + xs.length + 1) (pre s a)).run z p = .ok (pre s b) (p + (symsW lens dist xs ++ wd lens 256).length)
  | [], F, p, a, b, _, ht, _, he, h => by
    have h1 : a = b := ht
    subst h1
    have h2 : BitsAt z p (wd lens 256) := h
    rw [packed_go m lens (some dist) _ (pre s a) z p (read_wd ho he h2), if_pos rfl]
    rfl
  | x :: r, F, p, a, b, ha, ht, hx, he, h => by
    have h2 : BitsAt z p (symW lens dist x ++ (symsW lens dist r ++ wd lens 256)) := by
      have e : symsW lens dist (x :: r) ++ wd lens 256 = symW lens dist x ++ (symsW lens dist r ++ wd lens 256) := by
        show (symW lens dist x ++ symsW lens dist r) ++ wd lens 256 = _
        rw [List.append_assoc]
      rw [← e]
      exact h
    have e : (symsW lens dist (x :: r) ++ wd lens 256).length = (symW lens dist x).length + (symsW lens dist r ++ wd lens 256).length := by
      show ((symW lens dist x ++ symsW lens dist r) ++ wd lens 256).length = _
      rw [List.append_assoc, List.length_append]
    rw [List.length_cons, show F + (r.length + 1) + 1 = (F + r.length + 1) + 1 by omega, read_one ho hd m (F + r.length + 1) ht.1 hm (hx x (List.mem_cons_self ..)) ht.2.1 h2.left, e, ← Nat.add_assoc]
    exact read_syms ho hd m hm r F _ _ b (symOk_step ht.2.1 ht.1) ht.2.2 (fun y hy => hx y (List.mem_cons_of_mem _ hy)) he h2.right
end Go.Proofs.Ytaghmhcccighgaa.DF
end
section
/- Blocks that are stored, one behind the other: plain. -/
namespace Go.Proofs.Ytaghmhcccighgaa.IW
open Go.RowKit Go.Proofs.YtaghmhcccighgaaW.PrintWords Go.Proofs.Ytaghmhcccighgaa.MB Go.Proofs.Ytaghmhcccighgaa.Fn Go.Proofs.Ytaghmhcccighgaa.HF Go.Proofs.Ytaghmhcccighgaa.RT Go.Proofs.Ytaghmhcccighgaa.RT.Rd Go.Proofs.Ytaghmhcccighgaa.HP Go.Proofs.Ytaghmhcccighgaa.HI
def blkL (lv : Int) (p : ByteArray) : List Int := [lv, ((p.size % 256 : Nat) : Int), ((p.size / 256 : Nat) : Int), ((255 - p.size % 256 : Nat) : Int), ((255 - p.size / 256 : Nat) : Int)] ++ bytesOf p
/-- Bytes stand at a place. -/
def StandsAt (s : ByteArray) (q : Nat) (l : List Int) : Prop := q + l.length ≤ s.size ∧ ∀ i x, l[i]? = some x → bt s ((q + i : Nat) : Int) = x
theorem StandsAt.left {s : ByteArray} {q : Nat} {l m : List Int} (h : StandsAt s q (l ++ m)) : StandsAt s q l := by
  refine ⟨by have := h.1; rw [List.length_append] at this; omega, fun i x hx => h.2 i x ?_⟩
  rw [List.getElem?_append_left (by have := (List.getElem?_eq_some_iff.1 hx).1; exact this)]
  exact hx
theorem StandsAt.right {s : ByteArray} {q : Nat} {l m : List Int} (h : StandsAt s q (l ++ m)) : StandsAt s (q + l.length) m := by
  refine ⟨by have := h.1; rw [List.length_append] at this; omega, fun i x hx => ?_⟩
  have := h.2 (l.length + i) x (by rw [List.getElem?_append_right (by omega), Nat.add_sub_cancel_left]; exact hx)
  rw [← Nat.add_assoc] at this
  exact this
theorem nb_add (f : Nat → Bool) (a m : Nat) : ∀ n, nb f a (m + n) = nb f a m + 2 ^ m * nb f (a + m) n
  | 0 => by simp [nb]
  | n + 1 => by
    show nb f a (m + n) + (if f (a + (m + n)) = true then 2 ^ (m + n) else 0) = nb f a m + 2 ^ m * (nb f (a + m) n + (if f (a + m + n) = true then 2 ^ n else 0))
    rw [nb_add f a m n, Nat.mul_add, Nat.add_assoc, show a + (m + n) = a + m + n by omega]
    congr 2
    split
    · rw [Nat.pow_add]
    · rfl
theorem nb16_bytes (s : ByteArray) (q : Nat) : nb (sbit s) (8 * q) 16 = (bt s (q : Int)).toNat + 256 * (bt s ((q + 1 : Nat) : Int)).toNat := by
  have h := nb_add (sbit s) (8 * q) 8 8
  rw [byte_nb, show 8 * q + 8 = 8 * (q + 1) by omega, byte_nb] at h
  exact h
theorem head_bits (s : ByteArray) (q lv : Nat) (hl : lv < 2) (h : bt s (q : Int) = (lv : Int)) : nb (sbit s) (8 * q) 1 = lv ∧ nb (sbit s) (8 * q + 1) 2 = 0 := by
  have h1 := nb_add (sbit s) (8 * q) 1 7
  have h2 := nb_add (sbit s) (8 * q + 1) 2 5
  have h3 := byte_nb s q
  rw [h, Int.toNat_natCast] at h3
  have h4 : nb (sbit s) (8 * q) (1 + 7) = nb (sbit s) (8 * q) 8 := rfl
  have h5 : nb (sbit s) (8 * q + 1) (2 + 5) = nb (sbit s) (8 * q + 1) 7 := rfl
  have h6 := nb_lt (sbit s) (8 * q) 1
  rw [h4, h3] at h1
  rw [h5] at h2
  omega
theorem bytes_ext {a b : ByteArray} {q n : Nat} (hn : b.size = n) (hq : q + n ≤ a.size) (h : ∀ i, i < n → bt a ((q + i : Nat) : Int) = bt b (i : Int)) : bytesOf (a.extract q (q + n)) = bytesOf b := by
  rw [bytesOf_extract]
  have hl : (((bytesOf a).drop q).take n).length = n := by rw [List.length_take, List.length_drop, bytesOf_length]; omega
  refine List.ext_getElem (by rw [hl, bytesOf_length, hn]) (fun i h1 h2 => ?_)
  have hi : i < n := by omega
  rw [List.getElem_take, List.getElem_drop]
  have e1 := rd_bytesOf a ((q + i : Nat) : Int)
  have e2 := rd_bytesOf b (i : Int)
  rw [rd_get (bytesOf a) (q + i) (by rw [bytesOf_length]; omega)] at e1
  rw [rd_get (bytesOf b) i h2] at e2
  rw [e1, e2]
  exact h i hi
theorem stored_block (most F f : Nat) (out : List Int) (s : ByteArray) (q lv : Nat) (hl : lv < 2) (p : ByteArray) (h : StandsAt s q (blkL (lv : Int) p)) (hp : p.size < 65536) (hm : out.length + p.size ≤ most) :
    (inflT most F (f + 1) out).run s (8 * q) = if lv = 1 then .ok (out ++ bytesOf p) (8 * (q + 5 + p.size)) else (inflT most F f (out ++ bytesOf p)).run s (8 * (q + 5 + p.size)) := by
  obtain ⟨h1, h2⟩ := h
  have hlen : (blkL (lv : Int) p).length = 5 + p.size := by unfold blkL; rw [List.length_append, bytesOf_length]; rfl
  rw [hlen] at h1
  have b0 := h2 0 _ rfl
  have b1 := h2 1 _ rfl
  have b2 := h2 2 _ rfl
  have b3 := h2 3 _ rfl
  have b4 := h2 4 _ rfl
  rw [Nat.add_zero] at b0
  obtain ⟨g1, g2⟩ := head_bits s q lv hl b0
  have r1 : (bitsN 1).run s (8 * q) = .ok lv (8 * q + 1) := by rw [run_bitsN s 1 _ (by omega), if_pos (by omega), g1]
  have r2 : (bitsN 2).run s (8 * q + 1) = .ok 0 (8 * q + 3) := by rw [run_bitsN s 2 _ (by omega), if_pos (by omega), g2]
  have n1 : nb (sbit s) (8 * (q + 1)) 16 = p.size := by
    rw [nb16_bytes, b1, b2, Int.toNat_natCast, Int.toNat_natCast]
    omega
  have n2 : nb (sbit s) (8 * (q + 1) + 16) 16 = 65535 - p.size := by
    rw [show 8 * (q + 1) + 16 = 8 * (q + 3) by omega, nb16_bytes, b3, b4, Int.toNat_natCast, Int.toNat_natCast]
    omega
  have r3 : (storedT most out).run s (8 * q + 3) = .ok (out ++ bytesOf p) (8 * (q + 5 + p.size)) := by
    rw [run_stored most out s (8 * q + 3) (8 * (q + 1)) (by omega) (by omega), n1, n2, if_pos (by omega), if_pos (by omega), if_pos (by omega), if_neg (by omega), show 8 * (q + 1) / 8 + 4 = q + 5 by omega, if_pos (by omega)]
    rw [bytes_ext rfl (by omega) (fun i hi => ?_), show 8 * (q + 1) + 32 + 8 * p.size = 8 * (q + 5 + p.size) by omega]
    have := h2 (5 + i) (bt p (i : Int)) (by
      unfold blkL
      rw [List.getElem?_append_right (by simp)]
      show (bytesOf p)[5 + i - 5]? = _
      rw [Nat.add_sub_cancel_left, List.getElem?_eq_getElem (by rw [bytesOf_length]; exact hi), ← rd_get (bytesOf p) i (by rw [bytesOf_length]; exact hi), rd_bytesOf])
    rw [← Nat.add_assoc] at this
    exact this
  rw [inflT_kind, bind_run _ r1, bind_run _ r2]
  show ((storedT most out).bind _).run s _ = _
  rw [bind_run _ r3]
  by_cases h1 : lv = 1
  · rw [if_pos h1, if_pos h1]
    rfl
  · rw [if_neg h1, if_neg h1]
end Go.Proofs.Ytaghmhcccighgaa.IW
end
