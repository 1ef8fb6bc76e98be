/- What a block of the fixed code says: plain. -/
import Derived.Test.YteffjbjhkaobfaaPLawS
import Derived.Test.YteffjbjhkaobfaaFLD
import Derived.Test.YteffjbjhkaobfaaPWord
import Derived.Test.YteffjbjhkaobfaaPTextS
namespace Go.Proofs.Yteffjbjhkaobfaa.IW
open Go.RowKit Go.Proofs.YteffjbjhkaobfaaW.PrintWords Go.Proofs.Yteffjbjhkaobfaa.MB Go.Proofs.Yteffjbjhkaobfaa.Fn Go.Proofs.Yteffjbjhkaobfaa.HF Go.Proofs.Yteffjbjhkaobfaa.RT Go.Proofs.Yteffjbjhkaobfaa.RT.Rd Go.Proofs.Yteffjbjhkaobfaa.HP Go.Proofs.Yteffjbjhkaobfaa.HI
theorem getD_wordB (c : Nat) : ∀ (q i : Nat), (wordB c q).getD i false = (decide (i < q) && c.testBit (q - 1 - i))
  | 0, i => by simp [wordB]
  | q + 1, 0 => by simp [wordB]
  | q + 1, i + 1 => by
    show (wordB c q).getD i false = _
    rw [getD_wordB c q i, show q + 1 - 1 - (i + 1) = q - 1 - i by omega]
    congr 1
    rw [decide_eq_decide]
    omega
/-- Bits stand at a place. -/
def BitsAt (s : ByteArray) (p : Nat) (l : List Bool) : Prop := p + l.length ≤ 8 * s.size ∧ ∀ i, i < l.length → sbit s (p + i) = l.getD i false
theorem told_at {s : ByteArray} {l m r : List Bool} (h : STold s (l ++ (m ++ r))) : BitsAt s l.length m := by
  refine ⟨?_, fun i hi => ?_⟩
  · have := h.1
    rw [List.length_append, List.length_append] at this
    omega
  · rw [h.2, getD_append, if_neg (by omega), Nat.add_sub_cancel_left, getD_append, if_pos hi]
theorem BitsAt.left {s : ByteArray} {p : Nat} {l m : List Bool} (h : BitsAt s p (l ++ m)) : BitsAt s p l := by
  refine ⟨by have := h.1; rw [List.length_append] at this; omega, fun i hi => ?_⟩
  rw [h.2 i (by rw [List.length_append]; omega), getD_append, if_pos hi]
theorem BitsAt.right {s : ByteArray} {p : Nat} {l m : List Bool} (h : BitsAt s p (l ++ m)) : BitsAt s (p + l.length) m := by
  refine ⟨by have := h.1; rw [List.length_append] at this; omega, fun i hi => ?_⟩
  rw [Nat.add_assoc, h.2 (l.length + i) (by rw [List.length_append]; omega), getD_append, if_neg (by omega), Nat.add_sub_cancel_left]
theorem read_n {s : ByteArray} {p x n : Nat} (hx : x < 2 ^ n) (h : BitsAt s p (bitsOf x n)) : (bitsN n).run s p = .ok x (p + n) := by
  have h1 := h.1
  rw [bitsOf_length] at h1
  rw [run_bitsN s n p (by omega), if_pos h1]
  congr 1
  refine (nb_unique hx (fun i hi => ?_)).symm
  rw [h.2 i (by rw [bitsOf_length]; exact hi), getD_bitsOf, decide_eq_true hi, Bool.true_and]
theorem read_sym {lens : List Int} (ho : okL lens = true) {s : ByteArray} {p x L c : Nat} (hx : x < lens.length) (hL : lens[x] = (L : Int)) (h0 : 0 < L) (hc : codeAt lens x = (c : Int)) (h : BitsAt s p (wordB c L)) : (symT lens).run s p = .ok (x : Int) (p + L) := by
  have h1 := h.1
  rw [wordB_len] at h1
  rw [run_symT, symF_word ho s x L c p hx hL h0 hc h1 (fun i hi => by rw [h.2 i (by rw [wordB_len]; exact hi), getD_wordB, decide_eq_true hi, Bool.true_and])]
  exact symQ_ok _ _
/-- A symbol's word, in the fixed code. -/
def fixC (k : Nat) : Nat := (codeAt fixL k).toNat
def fixN (k : Nat) : Nat := (fixL.getD k 0).toNat
def symB (k : Nat) : List Bool := wordB (fixC k) (fixN k)
theorem fixL_len : fixL.length = 288 := by decide +kernel
theorem fix_tab : ∀ k : Nat, k < 288 → (7 ≤ fixN k ∧ fixN k ≤ 9 ∧ fixC k < 512) ∧ fixL.getD k 0 = (fixN k : Int) ∧ codeAt fixL k = (fixC k : Int) := by decide +kernel
theorem dist_tab : ∀ j : Nat, j < 32 → codeAt fixD j = (j : Int) := by decide +kernel
theorem symB_len (k : Nat) : (symB k).length = fixN k := wordB_len _ _
theorem read_lit {s : ByteArray} {p k : Nat} (hk : k < 288) (h : BitsAt s p (symB k)) : (symT fixL).run s p = .ok (k : Int) (p + (symB k).length) := by
  have ht := fix_tab k hk
  rw [symB_len]
  refine read_sym fixL_ok (by rw [fixL_len]; exact hk) ?_ (by omega) ht.2.2 h
  rw [← ht.2.1, List.getD_eq_getElem?_getD, List.getElem?_eq_getElem (by rw [fixL_len]; exact hk)]
  rfl
theorem read_dist {s : ByteArray} {p j : Nat} (hj : j < 30) (h : BitsAt s p (wordB j 5)) : (symT fixD).run s p = .ok (j : Int) (p + 5) := by
  refine read_sym fixD_ok (by show j < 32; omega) ?_ (by decide) (dist_tab j (by omega)) h
  show (List.replicate 32 (5 : Int))[j]'_ = _
  rw [List.getElem_replicate]
  rfl
/-- What was said so far is read as it was meant. -/
def SayI (B : List Bool) (w : List Int) (st : Nat) : Prop := ∀ s m F, STold s (B ++ m) → (packedT 1048576 fixL (some fixD) (F + st) []).run s 3 = (packedT 1048576 fixL (some fixD) F w).run s B.length
def headB : List Bool := [true, true, false]
theorem SayI.start : SayI headB [] 0 := fun _ _ _ _ => rfl
theorem packed_go (most : Nat) (lens : List Int) (d : Option (List Int)) (F : Nat) (w : List Int) (s : ByteArray) (p : Nat) {k : Int} {p1 : Nat} (h : (symT lens).run s p = .ok k p1) :
    (packedT most lens d (F + 1) w).run s p = (if k = 256 then ret w else if 256 < k then (copiesT most w k.toNat d).bind fun o => packedT most lens d F o else if most < w.length + 1 then err 4 else packedT most lens d F (w ++ [k])).run s p1 := bind_run _ h
theorem SayI.lit {B : List Bool} {w : List Int} {st k : Nat} (h : SayI B w st) (hk : k < 256) (hw : w.length + 1 ≤ 1048576) : SayI (B ++ symB k) (w ++ [(k : Int)]) (st + 1) := by
  intro s m F hs
  rw [List.append_assoc] at hs
  have hg := packed_go 1048576 fixL (some fixD) F w s B.length (read_lit (k := k) (by omega) (told_at hs))
  rw [show F + (st + 1) = (F + 1) + st by omega, h s (symB k ++ m) (F + 1) hs, hg, if_neg (by omega), if_neg (by omega), if_neg (by omega), List.length_append]
theorem SayI.copy {B : List Bool} {w : List Int} {st k x b j y c n far : Nat} (h : SayI B w st) (hk : 257 ≤ k ∧ k ≤ 285) (hx : x < 2 ^ b) (hb : (lenB k).2 = b) (hn : (lenB k).1 + x = n) (hj : j < 30) (hy : y < 2 ^ c) (hc : (distB j).2 = c) (hf : (distB j).1 + y = far) (hfw : far ≤ w.length) (hw : w.length + n ≤ 1048576) :
    SayI (B ++ symB k ++ bitsOf x b ++ wordB j 5 ++ bitsOf y c) (copyN far n w) (st + 1) := by
  intro s m F hs
  have hs1 : STold s (B ++ (symB k ++ (bitsOf x b ++ (wordB j 5 ++ (bitsOf y c ++ m))))) := by
    simp only [List.append_assoc] at hs
    exact hs
  have hs2 : STold s (B ++ ((symB k ++ (bitsOf x b ++ (wordB j 5 ++ bitsOf y c))) ++ m)) := by
    simp only [List.append_assoc] at hs ⊢
    exact hs
  have ha := told_at hs2
  have a1 := ha.left
  have a2 := ha.right
  have a3 := a2.left
  have a4 := a2.right
  have a5 := a4.left
  have a6 := a4.right
  have hg := packed_go 1048576 fixL (some fixD) F w s B.length (read_lit (k := k) (by omega) a1)
  have r1 := read_n hx a3
  rw [bitsOf_length] at a5
  have r2 := read_dist hj a5
  rw [bitsOf_length, wordB_len] at a6
  have r3 := read_n hy a6
  have hcp : (copiesT 1048576 w k (some fixD)).run s (B.length + (symB k).length) = .ok (copyN far n w) (B.length + (symB k).length + b + 5 + c) := by
    unfold copiesT
    rw [if_neg (by omega), hb, bind_run _ r1]
    simp only
    rw [bind_run _ r2, if_neg (by omega), Int.toNat_natCast, hc, bind_run _ r3, hf, hn, if_neg (by omega), if_neg (by omega)]
    rfl
  rw [show F + (st + 1) = (F + 1) + st by omega, h s _ (F + 1) hs1, hg, if_neg (by omega), if_pos (by omega), Int.toNat_natCast, bind_run _ hcp]
  simp only [List.length_append, bitsOf_length, wordB_len]
theorem say_law {B B' : List Bool} {w : List Int} {st : Nat} {s : ByteArray} (h : SayI B w st) (hst : st ≤ 10000) (hB : B = headB ++ B') (hs : STold s (B ++ symB 256)) : inflR s 1048576 = (strOfNums w, (s.size : Int), 0) := by
  have hsz := hs.1
  have hs1 : STold s (B ++ (symB 256 ++ [])) := by rw [List.append_nil]; exact hs
  obtain ⟨f, hf⟩ : ∃ f, manyF = (f + 1) + st := ⟨manyF - st - 1, by unfold manyF; omega⟩
  have hpk : (packedT 1048576 fixL (some fixD) manyF []).run s 3 = .ok w (B.length + (symB 256).length) := by
    rw [hf, h s (symB 256) (f + 1) hs, packed_go 1048576 fixL (some fixD) f w s B.length (read_lit (k := 256) (by decide) (told_at hs1)), if_pos (by rfl)]
    rfl
  have hs2 : STold s ([] ++ (bitsOf 1 1 ++ (bitsOf 1 2 ++ (B' ++ symB 256)))) := by
    have : [] ++ (bitsOf 1 1 ++ (bitsOf 1 2 ++ (B' ++ symB 256))) = B ++ symB 256 := by rw [hB]; rfl
    rw [this]
    exact hs
  have r1 : (bitsN 1).run s 0 = .ok 1 1 := read_n (x := 1) (n := 1) (by decide) (told_at hs2)
  have hs3 : STold s (bitsOf 1 1 ++ (bitsOf 1 2 ++ (B' ++ symB 256))) := hs2
  have r2 : (bitsN 2).run s 1 = .ok 1 3 := read_n (x := 1) (n := 2) (by decide) (told_at hs3)
  have hrun : (inflT 1048576 manyF manyF []).run s 0 = .ok w (B.length + (symB 256).length) := by
    rw [show inflT 1048576 manyF manyF [] = inflT 1048576 manyF (9999999999999999 + 1) [] from rfl, inflT_kind, bind_run _ r1]
    show ((bitsN 2).bind _).run s 1 = _
    rw [bind_run _ r2]
    show ((packedT 1048576 fixL (some fixD) manyF []).bind _).run s 3 = _
    rw [bind_run _ hpk]
    rfl
  have hr := infl_shut (m := 1048576) (Nat.le_refl _) hrun
  rw [show ((B.length + (symB 256).length + 7) / 8 : Nat) = s.size by rw [hsz, List.length_append]] at hr
  exact hr
/-- Lengths, distances: their symbols and bits. -/
def lenT (n : Nat) : Nat × Nat × Nat := match postroadlaw04_length.f 12 (n : Int) with
  | some (k, x, b) => (k.toNat, x.toNat, b.toNat)
  | none => (0, 0, 0)
def disT (n : Nat) : Nat × Nat × Nat := match postroadlaw04_distance.f 20 (n : Int) with
  | some (k, x, b) => (k.toNat, x.toNat, b.toNat)
  | none => (0, 0, 0)
theorem length_tab : ∀ m : Nat, m < 256 → postroadlaw04_length.f 12 ((m + 3 : Nat) : Int) = some (((lenT (m + 3)).1 : Int), ((lenT (m + 3)).2.1 : Int), ((lenT (m + 3)).2.2 : Int)) ∧ (257 ≤ (lenT (m + 3)).1 ∧ (lenT (m + 3)).1 ≤ 285) ∧ (lenT (m + 3)).2.1 < 2 ^ (lenT (m + 3)).2.2 ∧ (lenT (m + 3)).2.2 ≤ 13 ∧ (lenB (lenT (m + 3)).1).2 = (lenT (m + 3)).2.2 ∧ (lenB (lenT (m + 3)).1).1 + (lenT (m + 3)).2.1 = m + 3 := by decide +kernel
theorem distance_tab0 : ∀ a : Nat, a < 69 → ∀ b : Nat, b < 64 → postroadlaw04_distance.f 20 (((64 * a + b) + 1 : Nat) : Int) = some (((disT ((64 * a + b) + 1)).1 : Int), ((disT ((64 * a + b) + 1)).2.1 : Int), ((disT ((64 * a + b) + 1)).2.2 : Int)) ∧ (disT ((64 * a + b) + 1)).1 < 30 ∧ (disT ((64 * a + b) + 1)).2.1 < 2 ^ (disT ((64 * a + b) + 1)).2.2 ∧ (disT ((64 * a + b) + 1)).2.2 ≤ 13 ∧ (distB (disT ((64 * a + b) + 1)).1).2 = (disT ((64 * a + b) + 1)).2.2 ∧ (distB (disT ((64 * a + b) + 1)).1).1 + (disT ((64 * a + b) + 1)).2.1 = (64 * a + b) + 1 := by decide +kernel
theorem distance_tab (m : Nat) (h : m < 4400) : postroadlaw04_distance.f 20 ((m + 1 : Nat) : Int) = some (((disT (m + 1)).1 : Int), ((disT (m + 1)).2.1 : Int), ((disT (m + 1)).2.2 : Int)) ∧ (disT (m + 1)).1 < 30 ∧ (disT (m + 1)).2.1 < 2 ^ (disT (m + 1)).2.2 ∧ (disT (m + 1)).2.2 ≤ 13 ∧ (distB (disT (m + 1)).1).2 = (disT (m + 1)).2.2 ∧ (distB (disT (m + 1)).1).1 + (disT (m + 1)).2.1 = m + 1 := by
  have h1 := distance_tab0 (m / 64) (by omega) (m % 64) (by omega)
  rw [show 64 * (m / 64) + m % 64 = m by omega] at h1
  exact h1
end Go.Proofs.Yteffjbjhkaobfaa.IW
