/- Readings as trees: what a reading of bits does, bit by bit; plain. DEFLATE as a tree of bits: what a reading comes to; plain. inflate's trees: what numbers they tell; plain. lengths that are few, lengths that are whole; plain. Bytes as readings of bits: plain. What a reader's Align and Bytes come to, and the document's Aligned. What the document's reader calls: Bits, Symbol, Codes, Full, Aligned. -/
import Derived.Test.YteffjbjhkaobfaaGA
import Derived.Test.YteffjbjhkaobfaaFMay
import Derived.Test.YteffjbjhkaobfaaFSym
import Derived.Test.YteffjbjhkaobfaaGB
namespace Go.Proofs.Yteffjbjhkaobfaa.RT
open Go.Proofs.Yteffjbjhkaobfaa.MB Go.Proofs.Yteffjbjhkaobfaa.HF
/-- A reading: told, ended for a reason, a bit asked, gone on to the next byte. -/
inductive Rd (α : Type) where
  | ret (v : α)
  | err (e : Int)
  | bit (k : Bool → Rd α)
  | align (k : Rd α)
namespace Rd
variable {α β γ : Type}
def bind : Rd α → (α → Rd β) → Rd β
  | ret v, f => f v
  | err e, _ => err e
  | bit k, f => bit fun b => (k b).bind f
  | align k, f => align (k.bind f)
/-- What it comes to. -/
inductive Res (α : Type) where
  | ok (v : α) (a : Nat)
  | no (e : Int)
def run : Rd α → ByteArray → Nat → Res α
  | ret v, _, a => .ok v a
  | err e, _, _ => .no e
  | bit k, s, a => if a < 8 * s.size then (k (sbit s a)).run s (a + 1) else .no 5
  | align k, s, a => k.run s ((a + 7) / 8 * 8)
theorem run_bind (f : α → Rd β) (s : ByteArray) : ∀ (t : Rd α) (a : Nat), (t.bind f).run s a = match t.run s a with | .ok v a' => (f v).run s a' | .no e => .no e
  | ret v, a => rfl
  | err e, a => rfl
  | bit k, a => by
    show (if a < 8 * s.size then ((k (sbit s a)).bind f).run s (a + 1) else .no 5) = match (if a < 8 * s.size then (k (sbit s a)).run s (a + 1) else .no 5 : Res α) with | .ok v a' => (f v).run s a' | .no e => .no e
    split
    · exact run_bind f s (k (sbit s a)) (a + 1)
    · rfl
  | align k, a => run_bind f s k ((a + 7) / 8 * 8)
theorem bind_assoc (f : α → Rd β) (g : β → Rd γ) : ∀ t : Rd α, (t.bind f).bind g = t.bind fun v => (f v).bind g
  | ret v => rfl
  | err e => rfl
  | bit k => by
    show bit (fun b => ((k b).bind f).bind g) = bit fun b => (k b).bind fun v => (f v).bind g
    congr 1
    funext b
    exact bind_assoc f g (k b)
  | align k => congrArg align (bind_assoc f g k)
/-- The place grows, and stays in the text. -/
theorem run_place (s : ByteArray) : ∀ (t : Rd α) (a : Nat) (v : α) (a' : Nat), a ≤ 8 * s.size → t.run s a = .ok v a' → a ≤ a' ∧ a' ≤ 8 * s.size
  | ret v, a, _, _, h, e => by
    injection e with _ e2
    omega
  | err _, _, _, _, _, e => by cases e
  | bit k, a, v, a', h, e => by
    unfold run at e
    split at e
    · have := run_place s (k (sbit s a)) (a + 1) v a' (by omega) e
      omega
    · cases e
  | align k, a, v, a', h, e => by
    have := run_place s k ((a + 7) / 8 * 8) v a' (by omega) e
    omega
/-- What stands behind the place is not looked at. -/
theorem run_same (s s' : ByteArray) : ∀ (t : Rd α) (a : Nat) (v : α) (a' : Nat), a ≤ 8 * s.size → t.run s a = .ok v a' → (∀ i, i < a' → sbit s' i = sbit s i) → a' ≤ 8 * s'.size → t.run s' a = .ok v a'
  | ret _, _, _, _, _, e, _, _ => e
  | err _, _, _, _, _, e, _, _ => by cases e
  | bit k, a, v, a', h, e, hs, hl => by
    unfold run at e ⊢
    split at e
    · rename_i ha
      have hp := run_place s (k (sbit s a)) (a + 1) v a' (by omega) e
      rw [if_pos (by omega), hs a (by omega)]
      exact run_same s s' (k (sbit s a)) (a + 1) v a' (by omega) e hs hl
    · cases e
  | align k, a, v, a', h, e, hs, hl => run_same s s' k ((a + 7) / 8 * 8) v a' (by omega) e hs hl
/-- What lacks bytes is too short. -/
theorem run_cut (s s' : ByteArray) (hs : ∀ i, i < 8 * s'.size → sbit s' i = sbit s i) : ∀ (t : Rd α) (a : Nat) (v : α) (a' : Nat), a ≤ 8 * s'.size → t.run s a = .ok v a' → 8 * s'.size < a' → t.run s' a = .no 5
  | ret _, a, _, a', h, e, hl => by
    injection e with _ e2
    omega
  | err _, _, _, _, _, e, _ => by cases e
  | bit k, a, v, a', h, e, hl => by
    unfold run at e ⊢
    split at e
    · by_cases ha : a < 8 * s'.size
      · rw [if_pos ha, hs a ha]
        exact run_cut s s' hs (k (sbit s a)) (a + 1) v a' (by omega) e hl
      · rw [if_neg ha]
    · cases e
  | align k, a, v, a', h, e, hl => run_cut s s' hs k ((a + 7) / 8 * 8) v a' (by omega) e hl
/-- A number of so many bits, the lowest first. -/
def bitsN : Nat → Rd Nat
  | 0 => ret 0
  | n + 1 => bit fun b => (bitsN n).bind fun x => ret ((if b then 1 else 0) + 2 * x)
theorem nb_front (f : Nat → Bool) : ∀ (n a : Nat), nb f a (n + 1) = (if f a then 1 else 0) + 2 * nb f (a + 1) n
  | 0, a => by
    show nb f a 0 + (if f (a + 0) = true then 2 ^ 0 else 0) = _
    simp [nb]
  | n + 1, a => by
    have ih := nb_front f n a
    show nb f a (n + 1) + (if f (a + (n + 1)) = true then 2 ^ (n + 1) else 0) = (if f a = true then 1 else 0) + 2 * (nb f (a + 1) n + (if f (a + 1 + n) = true then 2 ^ n else 0))
    rw [ih, show a + (n + 1) = a + 1 + n by omega, Nat.mul_add, Nat.add_assoc]
    congr 2
    split
    · rw [Nat.pow_succ]; omega
    · rfl
theorem run_bitsN (s : ByteArray) : ∀ (n a : Nat), a ≤ 8 * s.size → (bitsN n).run s a = if a + n ≤ 8 * s.size then .ok (nb (sbit s) a n) (a + n) else .no 5
  | 0, a, h => by
    rw [if_pos (by omega)]
    rfl
  | n + 1, a, h => by
    unfold bitsN run
    by_cases ha : a < 8 * s.size
    · rw [if_pos ha, run_bind, run_bitsN s n (a + 1) (by omega)]
      by_cases hn : a + (n + 1) ≤ 8 * s.size
      · rw [if_pos (by omega), if_pos hn, nb_front]
        simp only [run]
        rw [show a + 1 + n = a + (n + 1) by omega]
      · rw [if_neg (by omega), if_neg hn]
    · rw [if_neg ha, if_neg (by omega)]
end Rd
end Go.Proofs.Yteffjbjhkaobfaa.RT
namespace Go.Proofs.Yteffjbjhkaobfaa.RT
open Go.Proofs.Yteffjbjhkaobfaa.MB Go.Proofs.Yteffjbjhkaobfaa.HF Go.Proofs.YteffjbjhkaobfaaW.PrintWords
open Rd
/-- A symbol by a code. -/
def symG (lens : List Int) : Nat → Nat → Int → Rd Int
  | 0, _, _ => err 40
  | d + 1, l, w => bit fun b =>
    if 2 * w + (if b then 1 else 0) < eT (cF lens) l then ret ((symsT lens 15).getD ((symsT lens (l - 1)).length + (2 * w + (if b then 1 else 0) - 2 * eT (cF lens) (l - 1)).toNat) 0) else
    if l < lngT lens 15 ∧ (2 * w + (if b then 1 else 0)) * 2 ^ (lngT lens 15 - l) < eT (cF lens) (lngT lens 15) then symG lens d (l + 1) (2 * w + (if b then 1 else 0)) else err 40
def symT (lens : List Int) : Rd Int := symG lens 15 1 0
/-- What Symbol's answer is to a reading. -/
def symQ (r : Int × Int × Nat) : Res Int := if r.2.1 = 0 then .ok r.1 r.2.2 else .no (if r.2.1 = 30 then 40 else r.2.1)
theorem symQ_ok (v : Int) (a : Nat) : symQ (v, 0, a) = .ok v a := if_pos rfl
theorem symQ_30 (v : Int) (a : Nat) : symQ (v, 30, a) = .no 40 := by
  unfold symQ
  rw [if_neg (show ¬ (30 : Int) = 0 by decide), if_pos rfl]
theorem symQ_5 (v : Int) (a : Nat) : symQ (v, 5, a) = .no 5 := by
  unfold symQ
  rw [if_neg (show ¬ (5 : Int) = 0 by decide), if_neg (show ¬ (5 : Int) = 30 by decide)]
theorem bitI_if (s : ByteArray) (a : Nat) : bitI s a = if sbit s a = true then 1 else 0 := by
  show ((nb (sbit s) a 0 + (if sbit s (a + 0) = true then 2 ^ 0 else 0) : Nat) : Int) = _
  rw [Nat.add_zero]
  unfold nb
  split <;> rfl
theorem run_symG (lens : List Int) (s : ByteArray) : ∀ (d l : Nat) (w : Int) (a : Nat), (symG lens d l w).run s a = symQ (symS lens s d l w a)
  | 0, _, _, _ => rfl
  | d + 1, l, w, a => by
    unfold symG symS run
    rw [bitI_if]
    by_cases ha : a < 8 * s.size
    · rw [if_pos ha, if_neg (by omega)]
      simp only
      generalize (if sbit s a = true then (1 : Int) else 0) = b
      by_cases h1 : 2 * w + b < eT (cF lens) l
      · rw [if_pos h1, if_pos h1, symQ_ok, run]
      · rw [if_neg h1, if_neg h1]
        by_cases h2 : l < lngT lens 15 ∧ (2 * w + b) * 2 ^ (lngT lens 15 - l) < eT (cF lens) (lngT lens 15)
        · rw [if_pos h2, if_pos h2]
          exact run_symG lens s d (l + 1) _ (a + 1)
        · rw [if_neg h2, if_neg h2, symQ_30, run]
    · rw [if_neg ha, if_pos (by omega), symQ_5]
theorem run_symT (lens : List Int) (s : ByteArray) (a : Nat) : (symT lens).run s a = symQ (symF lens s a) := run_symG lens s 15 1 0 a
/-- Symbol's place stays in the text; its errors. -/
theorem symS_place (lens : List Int) (s : ByteArray) : ∀ (d l : Nat) (w : Int) (a : Nat), a ≤ 8 * s.size → (symS lens s d l w a).2.2 ≤ 8 * s.size ∧ ((symS lens s d l w a).2.1 = 0 ∨ (symS lens s d l w a).2.1 = 5 ∨ (symS lens s d l w a).2.1 = 30)
  | 0, _, _, _, h => ⟨h, Or.inr (Or.inr rfl)⟩
  | d + 1, l, w, a, h => by
    unfold symS
    by_cases h1 : 8 * s.size < a + 1
    · rw [if_pos h1]; exact ⟨h, Or.inr (Or.inl rfl)⟩
    · rw [if_neg h1]
      by_cases h2 : 2 * w + bitI s a < eT (cF lens) l
      · rw [if_pos h2]; exact ⟨by show a + 1 ≤ _; omega, Or.inl rfl⟩
      · rw [if_neg h2]
        by_cases h3 : l < lngT lens 15 ∧ (2 * w + bitI s a) * 2 ^ (lngT lens 15 - l) < eT (cF lens) (lngT lens 15)
        · rw [if_pos h3]; exact symS_place lens s d (l + 1) _ (a + 1) (by omega)
        · rw [if_neg h3]; exact ⟨by show a + 1 ≤ _; omega, Or.inr (Or.inr rfl)⟩
theorem symF_place (lens : List Int) (s : ByteArray) (a : Nat) (h : a ≤ 8 * s.size) : (symF lens s a).2.2 ≤ 8 * s.size ∧ ((symF lens s a).2.1 = 0 ∨ (symF lens s a).2.1 = 5 ∨ (symF lens s a).2.1 = 30) := symS_place lens s 15 1 0 a h
/-- So many bytes. -/
def bytesN : Nat → Rd (List Int)
  | 0 => ret []
  | n + 1 => (bitsN 8).bind fun b => (bytesN n).bind fun r => ret ((b : Int) :: r)
/-- A block of kind 0. -/
def storedT (most : Nat) (out : List Int) : Rd (List Int) :=
  align ((bitsN 16).bind fun n => (bitsN 16).bind fun m =>
    if m + n = 65535 then (if most < out.length + n then err 4 else (bytesN n).bind fun bs => ret (out ++ bs)) else err 40)
/-- A copy's length, its distance: the least, and how many bits besides. -/
def lenB (k : Nat) : Nat × Nat := if k = 285 then (258, 0) else if k < 265 then (k - 254, 0) else (3 + (4 + (k - 257) % 4) * 2 ^ ((k - 257) / 4 - 1), (k - 257) / 4 - 1)
def distB (j : Nat) : Nat × Nat := if j < 4 then (1 + j, 0) else (1 + (2 + j % 2) * 2 ^ (j / 2 - 1), j / 2 - 1)
/-- So many bytes from so far back. -/
def copyN (far : Nat) : Nat → List Int → List Int
  | 0, out => out
  | n + 1, out => copyN far n (out ++ [out.getD (out.length - far) 0])
/-- A copy, whose length's symbol was read. -/
def copiesT (most : Nat) (out : List Int) (k : Nat) (dist : Option (List Int)) : Rd (List Int) :=
  if 285 < k then err 40 else
  (bitsN (lenB k).2).bind fun x =>
  match dist with
  | none => err 40
  | some dl => (symT dl).bind fun j =>
    if 30 ≤ j then err 40 else
    (bitsN (distB j.toNat).2).bind fun y =>
    if out.length < (distB j.toNat).1 + y then err 40 else
    if most < out.length + ((lenB k).1 + x) then err 4 else ret (copyN ((distB j.toNat).1 + y) ((lenB k).1 + x) out)
/-- The symbols of a block. -/
def packedT (most : Nat) (lens : List Int) (dist : Option (List Int)) : Nat → List Int → Rd (List Int)
  | 0, _ => err 99
  | f + 1, out => (symT lens).bind fun k =>
    if k = 256 then ret out else
    if 256 < k then (copiesT most out k.toNat dist).bind fun o => packedT most lens dist f o else
    if most < out.length + 1 then err 4 else packedT most lens dist f (out ++ [k])
/-- The lengths of the fixed code. -/
def fixL : List Int := List.replicate 144 8 ++ (List.replicate 112 9 ++ (List.replicate 24 7 ++ List.replicate 8 8))
def fixD : List Int := List.replicate 32 5
/-- A table; none: there are no words. -/
def tableO (lens : List Int) : Option (List Int) := if lens.all (fun l => decide (l = 0)) then none else some lens
def orderL : List Nat := [16, 17, 18, 0, 8, 7, 9, 6, 10, 5, 11, 4, 12, 3, 13, 2, 14, 1, 15]
/-- The lengths of the lengths' code. -/
def firstT : List Nat → List Int → Rd (List Int)
  | [], l => ret l
  | k :: r, l => (bitsN 3).bind fun x => firstT r (l.set k (x : Int))
/-- So many lengths, by a code. -/
def lengthsT (first : List Int) (n : Nat) : Nat → List Int → Rd (List Int)
  | 0, l => if l.length < n then err 99 else ret l
  | f + 1, l => if l.length < n then
      (symT first).bind fun k =>
      (if k = 16 then (if l.length = 0 then err 40 else (bitsN 2).bind fun x => ret (l.getD (l.length - 1) 0, 3 + x))
        else if k = 17 then (bitsN 3).bind fun x => ret (0, 3 + x)
        else if k = 18 then (bitsN 7).bind fun x => ret (0, 11 + x)
        else ret (k, 1)).bind fun (v, many) =>
      if l.length + many ≤ n then lengthsT first n f (l ++ List.replicate many v) else err 40
    else ret l
def isWhole (l : List Int) : Bool := okL l && wholeL l
/-- The tables of a block of kind 2. -/
def dynamicT : Rd (List Int × List Int) :=
  (bitsN 5).bind fun a => (bitsN 5).bind fun b => (bitsN 4).bind fun c =>
  if 257 + a ≤ 286 ∧ 1 + b ≤ 30 then
    (firstT (orderL.take (4 + c)) (List.replicate 19 0)).bind fun first =>
    if isWhole first = true then
      (lengthsT first (257 + a + (1 + b)) (257 + a + (1 + b)) []).bind fun all =>
      if 0 < (all.take (257 + a)).getD 256 0 ∧ isWhole (all.take (257 + a)) = true ∧ (isWhole (all.drop (257 + a)) = true ∨ (all.drop (257 + a)).sum ≤ 1) then ret (all.take (257 + a), all.drop (257 + a)) else err 40
    else err 40
  else err 40
/-- A block: was it the last one, and the bytes. -/
def blockT (most F : Nat) (out : List Int) : Rd (Bool × List Int) :=
  (bitsN 1).bind fun last => (bitsN 2).bind fun kind =>
  (if kind = 0 then storedT most out
    else if kind = 1 then packedT most fixL (some fixD) F out
    else if kind = 2 then dynamicT.bind fun (lens, dist) => packedT most lens (tableO dist) F out
    else err 40).bind fun o => ret (decide (last = 1), o)
/-- All blocks. -/
def inflT (most F : Nat) : Nat → List Int → Rd (List Int)
  | 0, _ => err 99
  | f + 1, out => (blockT most F out).bind fun (last, o) => if last = true then ret o else inflT most F f o
/-- More rounds than there can be bits. -/
def manyF : Nat := 10000000000000000
def infl (most : Nat) (s : ByteArray) : Res (List Int) := (inflT most manyF manyF []).run s 0
end Go.Proofs.Yteffjbjhkaobfaa.RT
namespace Go.Proofs.Yteffjbjhkaobfaa.RT
open Go.Proofs.Yteffjbjhkaobfaa.MB Go.Proofs.Yteffjbjhkaobfaa.HF Go.Proofs.YteffjbjhkaobfaaW.PrintWords
open Rd
theorem symsT_rng (lens : List Int) : ∀ (l : Nat) (x : Int), x ∈ symsT lens l → 0 ≤ x ∧ x < lens.length
  | 0, x, h => by cases h
  | l + 1, x, h => by
    unfold symsT at h
    rcases List.mem_append.1 h with h | h
    · exact symsT_rng lens l x h
    · unfold idxL at h
      obtain ⟨j, hj, rfl⟩ := List.mem_map.1 h
      have := List.mem_range.1 (List.mem_filter.1 hj).1
      omega
theorem getD_rng (lens : List Int) (i : Nat) (h0 : 0 < lens.length) : 0 ≤ (symsT lens 15).getD i 0 ∧ (symsT lens 15).getD i 0 < lens.length := by
  by_cases h : i < (symsT lens 15).length
  · rw [List.getD_eq_getElem?_getD, List.getElem?_eq_getElem h]
    exact symsT_rng lens 15 _ (List.getElem_mem h)
  · rw [List.getD_eq_getElem?_getD, List.getElem?_eq_none (by omega)]
    exact ⟨Int.le_refl _, by show (0 : Int) < _; omega⟩
theorem symG_rng (lens : List Int) (s : ByteArray) (h0 : 0 < lens.length) : ∀ (d l : Nat) (w : Int) (a : Nat) (v : Int) (a' : Nat), (symG lens d l w).run s a = .ok v a' → 0 ≤ v ∧ v < lens.length
  | 0, _, _, _, _, _, h => by cases h
  | d + 1, l, w, a, v, a', h => by
    unfold symG run at h
    split at h
    · simp only at h
      generalize (if sbit s a = true then (1 : Int) else 0) = b at h
      split at h
      · injection h with h1 _
        rw [← h1]
        exact getD_rng lens _ h0
      · split at h
        · exact symG_rng lens s h0 d (l + 1) _ (a + 1) v a' h
        · cases h
    · cases h
theorem symT_rng {lens : List Int} {s : ByteArray} (h0 : 0 < lens.length) {a : Nat} {v : Int} {a' : Nat} (h : (symT lens).run s a = .ok v a') : 0 ≤ v ∧ v < lens.length := symG_rng lens s h0 15 1 0 a v a' h
/-- A number of n bits. -/
theorem bitsN_lt {s : ByteArray} : ∀ (n a : Nat) {x a' : Nat}, (bitsN n).run s a = .ok x a' → x < 2 ^ n
  | 0, a, x, a', h => by injection h with h1 _; rw [← h1]; exact Nat.one_pos
  | n + 1, a, x, a', h => by
    unfold bitsN run at h
    split at h
    · rw [run_bind] at h
      cases h2 : (bitsN n).run s (a + 1) with
      | no e => rw [h2] at h; cases h
      | ok y a2 =>
        rw [h2] at h
        have := bitsN_lt n (a + 1) h2
        injection h with h1 _
        rw [Nat.pow_succ]
        split at h1 <;> omega
    · cases h
/-- The symbol of a length: what it stands for, so many times. -/
def manyT (first : List Int) (l : List Int) : Rd (Int × Nat) := (symT first).bind fun k =>
  if k = 16 then (if l.length = 0 then err 40 else (bitsN 2).bind fun x => ret (l.getD (l.length - 1) 0, 3 + x))
  else if k = 17 then (bitsN 3).bind fun x => ret (0, 3 + x)
  else if k = 18 then (bitsN 7).bind fun x => ret (0, 11 + x)
  else ret (k, 1)
theorem lengthsT_step (first : List Int) (n f : Nat) (l : List Int) (h : l.length < n) : lengthsT first n (f + 1) l = (manyT first l).bind fun p => if l.length + p.2 ≤ n then lengthsT first n f (l ++ List.replicate p.2 p.1) else err 40 := by
  unfold manyT
  rw [bind_assoc]
  show (if l.length < n then _ else _) = _
  rw [if_pos h]
theorem lengthsT_end (first : List Int) (n f : Nat) (l : List Int) (h : ¬ l.length < n) : lengthsT first n f l = ret l := by
  cases f with
  | zero => exact if_neg h
  | succ f => exact if_neg h
theorem manyT_rng {first : List Int} {s : ByteArray} (h0 : 0 < first.length) {l : List Int} (hl : ∀ x ∈ l, 0 ≤ x ∧ x < first.length) {a : Nat} {p : Int × Nat} {a' : Nat} (h : (manyT first l).run s a = .ok p a') : (0 ≤ p.1 ∧ p.1 < first.length) ∧ 1 ≤ p.2 ∧ p.2 ≤ 138 := by
  unfold manyT at h
  rw [run_bind] at h
  cases h2 : (symT first).run s a with
  | no e => rw [h2] at h; cases h
  | ok k a2 =>
    rw [h2] at h
    have hk := symT_rng h0 h2
    simp only at h
    split at h
    · split at h
      · cases h
      · rw [run_bind] at h
        cases h3 : (bitsN 2).run s a2 with
        | no e => rw [h3] at h; cases h
        | ok x a3 =>
          rw [h3] at h
          injection h with h1 _
          have := bitsN_lt 2 a2 h3
          rw [← h1]
          refine ⟨?_, by show 1 ≤ 3 + x; omega, by show 3 + x ≤ 138; omega⟩
          show 0 ≤ l.getD (l.length - 1) 0 ∧ l.getD (l.length - 1) 0 < _
          rw [List.getD_eq_getElem?_getD, List.getElem?_eq_getElem (by omega)]
          exact hl _ (List.getElem_mem _)
    · split at h
      · rw [run_bind] at h
        cases h3 : (bitsN 3).run s a2 with
        | no e => rw [h3] at h; cases h
        | ok x a3 =>
          rw [h3] at h
          injection h with h1 _
          have := bitsN_lt 3 a2 h3
          rw [← h1]
          exact ⟨⟨Int.le_refl _, by show (0 : Int) < _; omega⟩, by show 1 ≤ 3 + x; omega, by show 3 + x ≤ 138; omega⟩
      · split at h
        · rw [run_bind] at h
          cases h3 : (bitsN 7).run s a2 with
          | no e => rw [h3] at h; cases h
          | ok x a3 =>
            rw [h3] at h
            injection h with h1 _
            have := bitsN_lt 7 a2 h3
            rw [← h1]
            exact ⟨⟨Int.le_refl _, by show (0 : Int) < _; omega⟩, by show 1 ≤ 11 + x; omega, by show 11 + x ≤ 138; omega⟩
        · injection h with h1 _
          rw [← h1]
          exact ⟨hk, Nat.le_refl _, by show 1 ≤ 138; omega⟩
/-- So many lengths, none too great. -/
theorem lengthsT_rng {first : List Int} {s : ByteArray} (h0 : 0 < first.length) (n : Nat) : ∀ (f : Nat) (l : List Int), l.length ≤ n → (∀ x ∈ l, 0 ≤ x ∧ x < first.length) → ∀ (a : Nat) (v : List Int) (a' : Nat), (lengthsT first n f l).run s a = .ok v a' → v.length = n ∧ ∀ x ∈ v, 0 ≤ x ∧ x < first.length
  | f, l, hn, hl, a, v, a', h => by
    by_cases hlt : l.length < n
    · cases f with
      | zero =>
        unfold lengthsT at h
        rw [if_pos hlt] at h
        cases h
      | succ f =>
        rw [lengthsT_step first n f l hlt, run_bind] at h
        cases h2 : (manyT first l).run s a with
        | no e => rw [h2] at h; cases h
        | ok p a2 =>
          rw [h2] at h
          have hp := manyT_rng h0 hl h2
          simp only at h
          split at h
          · rename_i hle
            refine lengthsT_rng h0 n f _ (by rw [List.length_append, List.length_replicate]; exact hle) ?_ a2 v a' h
            intro x hx
            rcases List.mem_append.1 hx with hx | hx
            · exact hl x hx
            · rw [List.eq_of_mem_replicate hx]
              exact hp.1
          · cases h
    · rw [lengthsT_end first n f l hlt] at h
      injection h with h1 _
      subst h1
      exact ⟨by omega, hl⟩
theorem firstT_rng {s : ByteArray} : ∀ (o : List Nat) (l : List Int), (∀ x ∈ l, 0 ≤ x ∧ x ≤ 7) → ∀ (a : Nat) (v : List Int) (a' : Nat), (firstT o l).run s a = .ok v a' → v.length = l.length ∧ ∀ x ∈ v, 0 ≤ x ∧ x ≤ 7
  | [], l, hl, a, v, a', h => by
    injection h with h1 _
    subst h1
    exact ⟨rfl, hl⟩
  | k :: r, l, hl, a, v, a', h => by
    unfold firstT at h
    rw [run_bind] at h
    cases h3 : (bitsN 3).run s a with
    | no e => rw [h3] at h; cases h
    | ok x a3 =>
      rw [h3] at h
      have hx := bitsN_lt 3 a h3
      have := firstT_rng r (l.set k (x : Int)) (fun y hy => by
        rcases List.mem_or_eq_of_mem_set hy with hy | hy
        · exact hl y hy
        · rw [hy]; omega) a3 v a' h
      rw [List.length_set] at this
      exact this
end Go.Proofs.Yteffjbjhkaobfaa.RT
namespace Go.Proofs.Yteffjbjhkaobfaa.RT
open Go.Proofs.Yteffjbjhkaobfaa.MB Go.Proofs.Yteffjbjhkaobfaa.HF Go.Proofs.YteffjbjhkaobfaaW.PrintWords
open Rd Go.Proofs.Yteffjbjhkaobfaa.HP
theorem sum_nn : ∀ (l : List Int), (∀ x ∈ l, 0 ≤ x) → 0 ≤ l.sum
  | [], _ => Int.le_refl _
  | x :: r, h => by
    rw [List.sum_cons]
    have := h x (List.mem_cons_self ..)
    have := sum_nn r (fun y hy => h y (List.mem_cons_of_mem _ hy))
    omega
theorem share_few : ∀ (l : List Int), (∀ x ∈ l, 0 ≤ x) → l.sum ≤ 1 → shareS l ≤ 16384 * l.sum
  | [], _, _ => Int.le_refl _
  | x :: r, h, hs => by
    rw [List.sum_cons] at hs
    have hx := h x (List.mem_cons_self ..)
    have hr := sum_nn r (fun y hy => h y (List.mem_cons_of_mem _ hy))
    have ih := share_few r (fun y hy => h y (List.mem_cons_of_mem _ hy)) (by omega)
    rw [shareS_cons, List.sum_cons]
    by_cases h0 : 0 < x
    · have hx1 : x = 1 := by omega
      subst hx1
      rw [if_pos (by decide)]
      have : ((2 ^ (15 - (1 : Int).toNat) : Nat) : Int) = 16384 := rfl
      rw [this]
      omega
    · rw [if_neg h0]
      omega
theorem sum_all : ∀ (l : List Int), (∀ x ∈ l, 0 ≤ x) → ∀ x ∈ l, x ≤ l.sum
  | [], _, x, h => by cases h
  | y :: r, h, x, hx => by
    have hr := sum_nn r (fun z hz => h z (List.mem_cons_of_mem _ hz))
    have hy := h y (List.mem_cons_self ..)
    rw [List.sum_cons]
    rcases List.mem_cons.1 hx with rfl | hx
    · omega
    · have := sum_all r (fun z hz => h z (List.mem_cons_of_mem _ hz)) x hx
      omega
theorem okL_few {l : List Int} (h : ∀ x ∈ l, 0 ≤ x) (hs : l.sum ≤ 1) (hl : l.length ≤ 288) : okL l = true := by
  have ha : l.all lenOk = true := List.all_eq_true.2 (fun x hx => decide_eq_true (by have := h x hx; have := sum_all l h x hx; omega))
  unfold okL
  rw [Bool.and_eq_true, Bool.and_eq_true]
  refine ⟨decide_eq_true hl, ha, decide_eq_true ?_⟩
  rw [rooms_share l ha]
  have := share_few l h hs
  omega
theorem share_zero : ∀ (l : List Int), l.all (fun x => decide (x = 0)) = true → shareS l = 0
  | [], _ => rfl
  | x :: r, h => by
    rw [List.all_cons, Bool.and_eq_true] at h
    have hx : x = 0 := of_decide_eq_true h.1
    subst hx
    rw [shareS_cons, if_neg (by decide), share_zero r h.2]
    rfl
theorem isWhole_ok {l : List Int} (h : isWhole l = true) : okL l = true := by
  unfold isWhole at h
  rw [Bool.and_eq_true] at h
  exact h.1
theorem isWhole_some {l : List Int} (h : isWhole l = true) : l.all (fun x => decide (x = 0)) = false := by
  have ho := isWhole_ok h
  unfold isWhole at h
  rw [Bool.and_eq_true] at h
  have hw : rooms (fun k => cntL l k) 15 = 0 := of_decide_eq_true h.2
  unfold okL at ho
  rw [Bool.and_eq_true, Bool.and_eq_true] at ho
  rw [rooms_share l ho.2.1] at hw
  cases he : l.all (fun x => decide (x = 0)) with
  | false => rfl
  | true =>
    rw [share_zero l he] at hw
    omega
theorem sum_take (l : List Int) (i : Nat) (h : i < l.length) : (l.take (i + 1)).sum = (l.take i).sum + l.getD i 0 := by
  rw [List.take_add_one, List.sum_append, List.getD_eq_getElem?_getD, List.getElem?_eq_getElem h]
  simp
theorem sum_le (l : List Int) (m : Int) (h : ∀ x ∈ l, x ≤ m) : l.sum ≤ l.length * m := by
  induction l with
  | nil => simp
  | cons x r ih =>
    rw [List.sum_cons, List.length_cons]
    have h1 := h x (List.mem_cons_self ..)
    have h2 := ih (fun y hy => h y (List.mem_cons_of_mem _ hy))
    have h3 : ((r.length + 1 : Nat) : Int) * m = r.length * m + m := by rw [Int.natCast_add, Int.add_mul]; simp
    omega
end Go.Proofs.Yteffjbjhkaobfaa.RT
namespace Go.Proofs.Yteffjbjhkaobfaa.RT
open Go.Proofs.Yteffjbjhkaobfaa.MB Go.Proofs.Yteffjbjhkaobfaa.HF Go.Proofs.YteffjbjhkaobfaaW.PrintWords
open Rd
theorem data_list (s : ByteArray) (i j : Nat) : (s.extract i j).data.toList = (s.data.toList.drop i).take (j - i) := by
  rw [ByteArray.data_extract, Array.toList_extract, List.extract_eq_take_drop]
theorem bytesOf_extract (s : ByteArray) (i n : Nat) : bytesOf (s.extract i (i + n)) = ((bytesOf s).drop i).take n := by
  unfold bytesOf
  rw [data_list, Nat.add_sub_cancel_left, List.map_take, List.map_drop]
theorem byte_nb (s : ByteArray) (q : Nat) : nb (sbit s) (8 * q) 8 = (bt s (q : Int)).toNat := by
  obtain ⟨b, hb, h256⟩ := bt_nat s (q : Int)
  rw [hb, Int.toNat_natCast]
  refine (nb_unique (x := b) (by omega) (fun i hi => ?_)).symm
  unfold sbit
  rw [show (8 * q + i) / 8 = q by omega, show (8 * q + i) % 8 = i by omega, hb, Int.toNat_natCast]
theorem bytes_at (s : ByteArray) (q : Nat) (h : q < s.size) : (bytesOf s)[q]'(by rw [bytesOf_length]; exact h) = ((nb (sbit s) (8 * q) 8 : Nat) : Int) := by
  have h1 := rd_bytesOf s (q : Int)
  obtain ⟨b, hb, _⟩ := bt_nat s (q : Int)
  rw [byte_nb, hb, Int.toNat_natCast, ← hb, ← h1]
  unfold rd
  rw [Int.toNat_natCast, List.getD_eq_getElem?_getD, List.getElem?_eq_getElem (by rw [bytesOf_length]; exact h)]
  rfl
theorem run_bytesN (s : ByteArray) : ∀ (n a : Nat), a % 8 = 0 → a ≤ 8 * s.size → (bytesN n).run s a = if a / 8 + n ≤ s.size then .ok (bytesOf (s.extract (a / 8) (a / 8 + n))) (a + 8 * n) else .no 5
  | 0, a, h8, h => by
    rw [if_pos (by omega), bytesOf_extract]
    rfl
  | n + 1, a, h8, h => by
    unfold bytesN
    rw [run_bind, run_bitsN s 8 a h]
    by_cases h1 : a + 8 ≤ 8 * s.size
    · rw [if_pos h1]
      simp only
      rw [run_bind, run_bytesN s n (a + 8) (by omega) (by omega)]
      by_cases h2 : a / 8 + (n + 1) ≤ s.size
      · rw [if_pos (by omega), if_pos h2]
        simp only [run]
        rw [show a + 8 + 8 * n = a + 8 * (n + 1) by omega, bytesOf_extract, bytesOf_extract, show (a + 8) / 8 = a / 8 + 1 by omega]
        congr 1
        have hq : a / 8 < (bytesOf s).length := by rw [bytesOf_length]; omega
        rw [List.drop_eq_getElem_cons hq, List.take_succ_cons, bytes_at s (a / 8) (by omega), show 8 * (a / 8) = a by omega]
      · rw [if_neg (by omega), if_neg h2]
    · rw [if_neg h1, if_neg (by omega)]
/-- What a stored block comes to, step by step. -/
theorem run_stored (most : Nat) (out : List Int) (s : ByteArray) (a al : Nat) (ha : a ≤ 8 * s.size) (hal : (a + 7) / 8 * 8 = al) :
    (storedT most out).run s a = if al + 16 ≤ 8 * s.size then (if al + 32 ≤ 8 * s.size then (if nb (sbit s) (al + 16) 16 + nb (sbit s) al 16 = 65535 then (if most < out.length + nb (sbit s) al 16 then .no 4 else
      (if al / 8 + 4 + nb (sbit s) al 16 ≤ s.size then .ok (out ++ bytesOf (s.extract (al / 8 + 4) (al / 8 + 4 + nb (sbit s) al 16))) (al + 32 + 8 * nb (sbit s) al 16) else .no 5)) else .no 40) else .no 5) else .no 5 := by
  unfold storedT
  rw [run, hal, run_bind, run_bitsN s 16 al (by omega)]
  by_cases h1 : al + 16 ≤ 8 * s.size
  · rw [if_pos h1, if_pos h1]
    simp only
    rw [run_bind, run_bitsN s 16 (al + 16) (by omega), show al + 16 + 16 = al + 32 by omega]
    by_cases h2 : al + 32 ≤ 8 * s.size
    · rw [if_pos h2, if_pos h2]
      simp only
      generalize nb (sbit s) al 16 = n
      generalize nb (sbit s) (al + 16) 16 = m
      by_cases h3 : m + n = 65535
      · rw [if_pos h3, if_pos h3]
        by_cases h4 : most < out.length + n
        · rw [if_pos h4, if_pos h4]; rfl
        · rw [if_neg h4, if_neg h4, run_bind, run_bytesN s n (al + 32) (by omega) (by omega), show (al + 32) / 8 = al / 8 + 4 by omega]
          by_cases h5 : al / 8 + 4 + n ≤ s.size
          · rw [if_pos h5, if_pos h5]
            rfl
          · rw [if_neg h5, if_neg h5]
      · rw [if_neg h3, if_neg h3]; rfl
    · rw [if_neg h2, if_neg h2]
  · rw [if_neg h1, if_neg h1]
end Go.Proofs.Yteffjbjhkaobfaa.RT
namespace Go.Proofs.Yteffjbjhkaobfaa.PR
open Go.RowKit Go.Proofs.YteffjbjhkaobfaaW.PrintWords Go.Proofs.YteffjbjhkaobfaaW.PrintLast Go.Proofs.YteffjbjhkaobfaaW.PrintMore Go.Proofs.Yteffjbjhkaobfaa.MB Go.Proofs.Yteffjbjhkaobfaa.Fn
theorem and_not7 (m : Nat) (h : m < 2 ^ 64) : m &&& (2 ^ 64 - (7 + 1)) = m / 8 * 8 := by
  refine Nat.eq_of_testBit_eq fun i => ?_
  have e : m / 8 * 8 = (m >>> 3) <<< 3 := by rw [Nat.shiftRight_eq_div_pow, Nat.shiftLeft_eq]
  rw [e, Nat.testBit_and, Nat.testBit_two_pow_sub_succ (by decide), show (7 : Nat) = 2 ^ 3 - 1 from rfl, Nat.testBit_two_pow_sub_one, Nat.testBit_shiftLeft, Nat.testBit_shiftRight]
  by_cases h3 : 3 ≤ i
  · have e2 : 3 + (i - 3) = i := by omega
    have h4 : ¬ i < 3 := by omega
    rw [e2]
    by_cases h5 : i < 64
    · simp [h3, h4, h5]
    · simp [h3, testBit_high h (by omega : 64 ≤ i)]
  · have h4 : i < 3 := by omega
    simp [h3, h4]
theorem andNot7 (m : Nat) (h : m < 2 ^ 62) : Go.bits .andNot .i64 (m : Int) 7 = ((m / 8 * 8 : Nat) : Int) := by
  have hm : m % 2 ^ 64 = m := Nat.mod_eq_of_lt (by omega)
  have e1 : (BitVec.ofInt 64 (m : Int) &&& ~~~ BitVec.ofInt 64 7).toNat = m / 8 * 8 := by
    rw [BitVec.toNat_and, BitVec.toNat_not, BitVec.ofInt_natCast, BitVec.toNat_ofNat, hm, show (BitVec.ofInt 64 7).toNat = 7 from by decide, show 2 ^ 64 - 1 - 7 = 2 ^ 64 - (7 + 1) from rfl, and_not7 m (by omega)]
  show IntKind.i64.wrap ((BitVec.ofInt 64 (m : Int) &&& ~~~ BitVec.ofInt 64 7).toNat : Int) = _
  rw [e1]
  exact wraps_i64 _ (Int.natCast_nonneg _) (cast_lt_two_pow (by omega))
theorem aligned_f (a : Nat) (h : a < 2 ^ 62) : postroadref01_Aligned.f (a : Int) = some (((a + 7) / 8 * 8 : Nat) : Int) := by
  unfold postroadref01_Aligned.f
  rw [show (a : Int) + 7 = ((a + 7 : Nat) : Int) from rfl, w64c _ (by omega), tdiv_cast, w64c _ (by omega)]
  have e : (((a + 7) / 8 : Nat) : Int) * 8 = (((a + 7) / 8 * 8 : Nat) : Int) := by omega
  rw [e, w64c _ (by omega)]
theorem align_f (s : ByteArray) (a : Nat) (h : a < 2 ^ 61) : bits_Reader_Align.f true s (a : Int) = some (0, true, s, (((a + 7) / 8 * 8 : Nat) : Int)) := by
  unfold bits_Reader_Align.f bits_Reader_given.f
  simp only [Option.bind_some, if_true]
  rw [show (a : Int) + 7 = ((a + 7 : Nat) : Int) from rfl, w64c _ (by omega), andNot7 _ (by omega)]
theorem nil_list : (⟨#[]⟩ : ByteArray).toList = ([] : List UInt8) := by simp
/-- What Bytes of a reader comes to. -/
def rby (s : ByteArray) (a : Nat) (n : Int) : ByteArray × Int × Bool × ByteArray × Int :=
  if n < 0 then (⟨#[]⟩, 1, true, s, (a : Int)) else if a % 8 ≠ 0 then (⟨#[]⟩, 10, true, s, (a : Int)) else if (s.size : Int) - (a / 8 : Nat) < n then (⟨#[]⟩, 5, true, s, (a : Int))
  else (s.extract (a / 8) (a / 8 + n.toNat), 0, true, s, ((a + 8 * n.toNat : Nat) : Int))
theorem reader_bytes (s : ByteArray) (hs : s.size ≤ 1000000000000000) (a : Nat) (ha : a ≤ 8 * s.size) (n : Int) (hn : n ≤ 9223372036854775807) (k : Nat) (hk : 2 ≤ k) : bits_Reader_Bytes.f k true s (a : Int) n = some (rby s a n) := by
  obtain ⟨k, rfl⟩ : ∃ m, k = m + 1 := ⟨k - 1, by omega⟩
  unfold bits_Reader_Bytes.f bits_Reader_given.f rby
  simp only [Option.bind_some, if_true]
  rw [bits_Reader_Bytes.j0, tdiv_cast, tmod_cast]
  by_cases h1 : n < 0
  · rw [if_pos (by simpa using h1), if_pos h1]
  · rw [if_neg (by simpa using h1), if_neg h1]
    by_cases h2 : a % 8 = 0
    · rw [if_pos (show ((a % 8 : Nat) : Int) = 0 by omega), if_neg (show ¬ (a % 8 ≠ 0) by omega), w64c _ (by omega)]
      have e1 : wrap64 ((s.size : Int) - ((a / 8 : Nat) : Int)) = (s.size : Int) - (a / 8 : Nat) := by unfold wrap64; omega
      rw [e1]
      clear e1
      by_cases h3 : (s.size : Int) - (a / 8 : Nat) < n
      · rw [if_pos h3, if_pos h3]
      · rw [if_neg h3, if_neg h3]
        obtain ⟨m, rfl⟩ := Int.eq_ofNat_of_zero_le (by omega : 0 ≤ n)
        have e2 : wrap64 (((a / 8 : Nat) : Int) + (m : Int)) = ((a / 8 + m : Nat) : Int) := by unfold wrap64; omega
        have e3 : wrap64 (8 * (m : Int)) = ((8 * m : Nat) : Int) := by unfold wrap64; omega
        rw [e2, e3]
        clear e2 e3
        rw [if_pos (by omega), if_pos (by omega), if_pos (by omega), ← Int.natCast_add, w64c _ (by omega)]
        simp only [Int.toNat_natCast]
    · rw [if_neg (by omega), if_pos h2]
end Go.Proofs.Yteffjbjhkaobfaa.PR
namespace Go.Proofs.Yteffjbjhkaobfaa.HF
open Go.RowKit Go.Proofs.YteffjbjhkaobfaaW.PrintWords Go.Proofs.YteffjbjhkaobfaaW.PrintLast Go.Proofs.YteffjbjhkaobfaaW.PrintMore Go.Proofs.Yteffjbjhkaobfaa.HW Go.Proofs.Yteffjbjhkaobfaa.MB Go.Proofs.Yteffjbjhkaobfaa.Fn Go.Proofs.Yteffjbjhkaobfaa.HP Go.Proofs.Yteffjbjhkaobfaa.PR
theorem refCodes_any (A : Option Addr) (c : Nat) (l : List Int) (W : World) (hr : Kd.C (Kd.int .i64) W A l.length l) (hc : l.length ≤ c) : Calls Try.prog 12 #[.slice A l.length c] W fun e w' => ∃ v z, e = .returned (.tuple #[v, .int .i64 z]) ∧ Kd.R (Kd.int .i64) 3 w' W.heap.size (fun _ => True) v (if okL l = true then codesL l else []) ∧ Below W.heap.size W w' := by
  obtain ⟨k, hk⟩ := PC.refcodes_ok l
  cases ho : okL l with
  | true =>
    rw [ho] at hk
    exact (postroadref03_Codes.calls k A c l _ _ W hr hc hk).mono (fun _ _ ⟨v, h1, h2, h3⟩ => ⟨v, _, h1, h2, h3⟩)
  | false =>
    rw [ho] at hk
    exact (postroadref03_Codes.calls k A c l _ _ W hr hc hk).mono (fun _ _ ⟨v, h1, h2, h3⟩ => ⟨v, _, h1, h2, h3⟩)
theorem refBits_any (s : ByteArray) (hs : s.size ≤ 1000000000000000) (a n : Nat) (ha : a ≤ 8 * s.size) (hn : n ≤ 57) (W : World) : Calls Try.prog 37 #[.string s, .int .i64 a, .int .i64 n] W fun e w' => e = .returned (.tuple #[.int .i64 (if 8 * s.size < a + n then 0 else (nb (sbit s) a n : Int)), .bool (decide (a + n ≤ 8 * s.size))]) ∧ Below W.heap.size W w' := by
  have h := rbits_f s hs a ha (n : Int) (by omega) (by omega) 60 (Nat.le_refl _)
  rw [Int.toNat_natCast] at h
  by_cases hf : 8 * s.size < a + n
  · rw [if_pos (by omega)] at h
    have := postroadref01_Bits.calls 60 s a n _ _ W h
    rw [if_pos hf, decide_eq_false (by omega)]
    exact this.mono (fun _ _ h => ⟨h.1, h.2.below⟩)
  · rw [if_neg (by omega)] at h
    have := postroadref01_Bits.calls 60 s a n _ _ W h
    rw [if_neg hf, decide_eq_true (by omega)]
    exact this.mono (fun _ _ h => ⟨h.1, h.2.below⟩)
theorem refSym_any (A : Option Addr) (c : Nat) (l : List Int) (A2 : Option Addr) (c2 : Nat) (s : ByteArray) (a : Nat) (W : World) (hr : Kd.C (Kd.int .i64) W A l.length l) (hc : l.length ≤ c) (hr2 : Kd.C (Kd.int .i64) W A2 l.length (codesL l)) (hc2 : l.length ≤ c2) (ho : okL l = true) (hs : s.size ≤ 1000000000000000) (ha : a ≤ 8 * s.size) :
    Calls Try.prog 55 #[.slice A l.length c, .slice A2 l.length c2, .string s, .int .i64 a] W fun e w' => e = .returned (.tuple #[.int .i64 (symR (symF l s a)).1, .int .i64 (symR (symF l s a)).2.1, .int .i64 (symR (symF l s a)).2.2]) ∧ Below W.heap.size W w' := by
  obtain ⟨k, hk⟩ := refsym_ok ho s hs a ha
  have h := fun hr2 hc2 => postroadref03_Symbol.calls k A c l A2 c2 (codesL l) s a _ _ _ W hr hc hr2 hc2 hk
  rw [codesL_len] at h
  exact (h hr2 hc2).mono (fun _ _ h => ⟨h.1, h.2.below⟩)
theorem aligned_any (a : Nat) (ha : a ≤ 8000000000000000) (W : World) : Calls Try.prog 28 #[.int .i64 a] W fun e w' => e = .returned (.int .i64 (((a + 7) / 8 * 8 : Nat) : Int)) ∧ Below W.heap.size W w' := by
  have h : postroadref01_Aligned.f (a : Int) = some (((a + 7) / 8 * 8 : Nat) : Int) := by
    unfold postroadref01_Aligned.f
    rw [wrap64_id ((a : Int) + 7) (by omega) (by omega), show Int.tdiv ((a : Int) + 7) 8 = (((a + 7) / 8 : Nat) : Int) by rw [Int.tdiv_eq_ediv_of_nonneg (by omega)]; omega, wrap64_id (((a + 7) / 8 : Nat) : Int) (by omega) (by omega), wrap64_id ((((a + 7) / 8 : Nat) : Int) * 8) (by omega) (by omega)]
    congr 1
  exact (postroadref01_Aligned.calls a _ W h).mono (fun _ _ h => ⟨h.1, h.2.below⟩)
theorem full_all (l : List Int) : ∃ k, postroadref03_Full.f k l = some (RT.isWhole l) := by
  cases ho : okL l with
  | true =>
    obtain ⟨k, hk⟩ := full_ok l ho
    refine ⟨k, hk.trans ?_⟩
    unfold RT.isWhole
    rw [ho, Bool.true_and]
  | false =>
    obtain ⟨k, hk⟩ := share_ok l
    refine ⟨k, ?_⟩
    unfold postroadref03_Full.f RT.isWhole
    rw [hk, ho, Bool.false_and]
    simp only [Option.bind_some]
    congr 1
    rw [beq_eq_false_iff_ne]
    intro e
    rw [okL_share, e] at ho
    exact absurd ho (by decide)
theorem refFull_any (A : Option Addr) (c : Nat) (l : List Int) (W : World) (hr : Kd.C (Kd.int .i64) W A l.length l) (hc : l.length ≤ c) : Calls Try.prog 42 #[.slice A l.length c] W fun e w' => e = .returned (.bool (RT.isWhole l)) ∧ Below W.heap.size W w' := by
  obtain ⟨k, hk⟩ := full_all l
  exact (postroadref03_Full.calls k A c l _ W hr hc hk).mono (fun _ _ h => ⟨h.1, h.2.below⟩)
end Go.Proofs.Yteffjbjhkaobfaa.HF
