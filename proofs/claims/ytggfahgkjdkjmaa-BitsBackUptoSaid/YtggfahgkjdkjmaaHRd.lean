/- A reader's methods, each as what it does to the reader's block alone. -/
import Derived.Test.YtggfahgkjdkjmaaHFr
import Derived.Test.YtggfahgkjdkjmaaPReads
namespace Go.Proofs.Ytggfahgkjdkjmaa.HW
open Go.RowKit Go.Proofs.YtggfahgkjdkjmaaW.PrintWords Go.Proofs.YtggfahgkjdkjmaaW.PrintLast Go.Proofs.YtggfahgkjdkjmaaW.PrintMore Go.Proofs.Ytggfahgkjdkjmaa.MB Go.Proofs.Ytggfahgkjdkjmaa.Fn Go.Proofs.Ytggfahgkjdkjmaa.PR

/-- Block g: a reader of s that stands at a. -/
def IsR (W : World) (g : Nat) (s : ByteArray) (a : Nat) : Prop := W.heap[g]? = some (.cells #[.bool true, .string s, .int .i64 a] 58 (0, 0))
/-- No memory at all. -/
def bare (W : World) : World := { W with heap := #[] }
theorem bare_below (W : World) : Below (bare W).heap.size (bare W) W := ⟨rfl, rfl, rfl, Nat.zero_le _, fun k hk => absurd hk (Nat.not_lt_zero k)⟩
theorem IsR.is {W : World} {g : Nat} {s : ByteArray} {a : Nat} (h : IsR W g s a) : IsS58 (bare W) W g true s a := ⟨h, Nat.zero_le _⟩
theorem fr_of_keep {W w' : World} {g : Nat} (hb : Below (bare W).heap.size (bare W) w') (hk : KeepBut W w' g none) : Fr (fun k => k = g) W w' :=
  ⟨hb.os, hb.tape, hb.output, hk.1, fun k h1 h2 => hk.2 k h1 h2 (by simp)⟩
theorem IsR.keep {W W1 : World} {S : Nat → Prop} {g : Nat} {s : ByteArray} {a : Nat} (h : IsR W g s a) (hf : Fr S W W1) (hg : ¬ S g) : IsR W1 g s a := hf.blk h hg
theorem IsR.lt {W : World} {g : Nat} {s : ByteArray} {a : Nat} (h : IsR W g s a) : g < W.heap.size := blk_lt h
theorem newReader (s : ByteArray) (W : World) : Calls Try.prog 15 #[.string s] W fun e w' => ∃ g, e = .returned (.pointer (some ⟨g, 0, none⟩)) ∧ W.heap.size ≤ g ∧ IsR w' g s 0 ∧ Below W.heap.size W w' :=
  (bits_NewReader.calls s _ _ _ W W (Below.refl _ _) rfl).mono (by
    rintro e w' ⟨g, rfl, hI, hb, _⟩
    exact ⟨g, rfl, hI.2, hI.1, hb⟩)
theorem r_ok (g : Nat) (s : ByteArray) (a n : Nat) (W : World) (h : IsR W g s a) (hs : s.size ≤ 1000000000000000) (h57 : n ≤ 57) (hfit : a + n ≤ 8 * s.size) :
    Calls Try.prog 16 #[.pointer (some ⟨g, 0, none⟩), .int .i64 n] W fun e w' => e = .returned (.tuple #[.int .i64 (nb (sbit s) a n), .int .i64 0]) ∧ IsR w' g s (a + n) ∧ Fr (fun k => k = g) W w' := by
  have hf := reader_bits s hs a (by omega) n 60 (by omega)
  unfold rb at hf
  rw [if_neg (by omega), if_neg (by omega), Int.toNat_natCast] at hf
  refine (bits_Reader_Bits.calls 60 g _ _ _ _ _ _ _ _ _ (bare W) W h.is (bare_below W) hf).mono ?_
  rintro e w' ⟨rfl, hI, hb, hk⟩
  exact ⟨rfl, hI.1, fr_of_keep hb hk⟩
theorem r_short (g : Nat) (s : ByteArray) (a n : Nat) (W : World) (h : IsR W g s a) (hs : s.size ≤ 1000000000000000) (h57 : n ≤ 57) (ha : a ≤ 8 * s.size) (hfit : 8 * s.size < a + n) :
    Calls Try.prog 16 #[.pointer (some ⟨g, 0, none⟩), .int .i64 n] W fun e w' => e = .returned (.tuple #[.int .i64 0, .int .i64 5]) ∧ IsR w' g s a ∧ Fr (fun k => k = g) W w' := by
  have hf := reader_bits s hs a (by omega) n 60 (by omega)
  unfold rb at hf
  rw [if_neg (by omega), if_pos (by omega)] at hf
  refine (bits_Reader_Bits.calls 60 g _ _ _ _ _ _ _ _ _ (bare W) W h.is (bare_below W) hf).mono ?_
  rintro e w' ⟨rfl, hI, hb, hk⟩
  exact ⟨rfl, hI.1, fr_of_keep hb hk⟩
theorem r_align (g : Nat) (s : ByteArray) (a : Nat) (W : World) (h : IsR W g s a) (ha : a < 2 ^ 61) :
    Calls Try.prog 33 #[.pointer (some ⟨g, 0, none⟩)] W fun e w' => e = .returned (.int .i64 0) ∧ IsR w' g s ((a + 7) / 8 * 8) ∧ Fr (fun k => k = g) W w' := by
  refine (bits_Reader_Align.calls g _ _ _ _ _ _ _ (bare W) W h.is (bare_below W) (align_f s a ha)).mono ?_
  rintro e w' ⟨rfl, hI, hb, hk⟩
  exact ⟨rfl, hI.1, fr_of_keep hb hk⟩
theorem r_bytes (g : Nat) (s : ByteArray) (a n : Nat) (W : World) (h : IsR W g s a) (hs : s.size ≤ 1000000000000000) (h8 : a % 8 = 0) (hfit : a / 8 + n ≤ s.size) :
    Calls Try.prog 34 #[.pointer (some ⟨g, 0, none⟩), .int .i64 n] W fun e w' => e = .returned (.tuple #[.string (s.extract (a / 8) (a / 8 + n)), .int .i64 0]) ∧ IsR w' g s (a + 8 * n) ∧ Fr (fun k => k = g) W w' := by
  have hf := reader_bytes s hs a (by omega) n (by omega) 60 (by omega)
  unfold rby at hf
  rw [if_neg (by omega), if_neg (by omega), if_neg (by omega), Int.toNat_natCast] at hf
  refine (bits_Reader_Bytes.calls 60 g _ _ _ _ _ _ _ _ _ (bare W) W h.is (bare_below W) hf).mono ?_
  rintro e w' ⟨rfl, hI, hb, hk⟩
  exact ⟨rfl, hI.1, fr_of_keep hb hk⟩
theorem r_place (g : Nat) (s : ByteArray) (a : Nat) (W : World) (h : IsR W g s a) :
    Calls Try.prog 18 #[.pointer (some ⟨g, 0, none⟩)] W fun e w' => e = .returned (.int .i64 a) ∧ IsR w' g s a ∧ Fr (fun k => k = g) W w' := by
  refine (bits_Reader_Place.calls g _ _ _ _ _ _ _ (bare W) W h.is (bare_below W) (reader_place s a)).mono ?_
  rintro e w' ⟨rfl, hI, hb, hk⟩
  exact ⟨rfl, hI.1, fr_of_keep hb hk⟩
theorem and_any (n : Int) (m : Nat) (hm : m < 2 ^ 63) : ∃ k : Nat, Go.bits .and .i64 n m = k ∧ k ≤ m := by
  refine ⟨(BitVec.ofInt 64 n).toNat &&& m, ?_, Nat.and_le_right⟩
  have hle : (BitVec.ofInt 64 n).toNat &&& m ≤ m := Nat.and_le_right
  have e1 : (BitVec.ofInt 64 n &&& BitVec.ofInt 64 (m : Int)).toNat = (BitVec.ofInt 64 n).toNat &&& m := by
    rw [BitVec.toNat_and, BitVec.ofInt_natCast, BitVec.toNat_ofNat, Nat.mod_eq_of_lt (by omega)]
  show IntKind.i64.wrap ((BitVec.ofInt 64 n &&& BitVec.ofInt 64 (m : Int)).toNat : Int) = _
  rw [e1]
  exact wraps_i64 _ (Int.natCast_nonneg _) (cast_lt_two_pow (by omega))
end Go.Proofs.Ytggfahgkjdkjmaa.HW
