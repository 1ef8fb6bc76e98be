/- What the laws of tables call: awake, May, Codes, a number's lowest bits. -/
import Derived.Test.YtmmoenleldcadaaFK
import Derived.Test.YtmmoenleldcadaaGP
import Derived.Test.YtmmoenleldcadaaGT
namespace Go.Proofs.Ytmmoenleldcadaa.HF
open Go.RowKit Go.Proofs.YtmmoenleldcadaaW.PrintWords Go.Proofs.YtmmoenleldcadaaW.PrintLast Go.Proofs.YtmmoenleldcadaaW.PrintMore Go.Proofs.Ytmmoenleldcadaa.HW Go.Proofs.Ytmmoenleldcadaa.MB Go.Proofs.Ytmmoenleldcadaa.Fn Go.Proofs.Ytmmoenleldcadaa.HP Go.Proofs.Ytmmoenleldcadaa.PR
theorem awake_any (W : World) : Calls Try.prog 13 #[] W fun e w' => e = .returned (.bool true) ∧ Below W.heap.size W w' := by
  obtain ⟨k, hk⟩ := awake_ok
  exact postroadlaw03_awake.calls k true W hk
theorem may_any (A : Option Addr) (c : Nat) (l : List Int) (W : World) (hr : Kd.C (Kd.int .i64) W A l.length l) (hc : l.length ≤ c) : Calls Try.prog 18 #[.slice A l.length c] W fun e w' => e = .returned (.bool (okL l)) ∧ Below W.heap.size W w' := by
  obtain ⟨k, hk⟩ := may_ok l
  exact (postroadref03_May.calls k A c l _ W hr hc hk).mono (fun _ _ h => ⟨h.1, h.2.below⟩)
theorem refCodes_any (A : Option Addr) (c : Nat) (l : List Int) (W : World) (hr : Kd.C (Kd.int .i64) W A l.length l) (hc : l.length ≤ c) (ho : okL l = true) : Calls Try.prog 19 #[.slice A l.length c] W fun e w' => ∃ v, e = .returned (.tuple #[v, .int .i64 0]) ∧ Kd.R (Kd.int .i64) 3 w' W.heap.size (fun _ => True) v (codesL l) ∧ Below W.heap.size W w' := by
  obtain ⟨k, hk⟩ := PC.refcodes_ok l
  rw [ho] at hk
  exact postroadref03_Codes.calls k A c l _ _ W hr hc hk
theorem refBits_any (s : ByteArray) (hs : s.size ≤ 1000000000000000) (a n : Nat) (ha : a ≤ 8 * s.size) (hn : n ≤ 57) (W : World) : Calls Try.prog 25 #[.string s, .int .i64 a, .int .i64 n] W fun e w' => e = .returned (.tuple #[.int .i64 (if 8 * s.size < a + n then 0 else (nb (sbit s) a n : Int)), .bool (decide (a + n ≤ 8 * s.size))]) ∧ Below W.heap.size W w' := by
  have h := rbits_f s hs a ha (n : Int) (by omega) (by omega) 60 (Nat.le_refl _)
  rw [Int.toNat_natCast] at h
  by_cases hf : 8 * s.size < a + n
  · rw [if_pos (by omega)] at h
    have := postroadref01_Bits.calls 60 s a n _ _ W h
    rw [if_pos hf, decide_eq_false (by omega)]
    exact this.mono (fun _ _ h => ⟨h.1, h.2.below⟩)
  · rw [if_neg (by omega)] at h
    have := postroadref01_Bits.calls 60 s a n _ _ W h
    rw [if_neg hf, decide_eq_true (by omega)]
    exact this.mono (fun _ _ h => ⟨h.1, h.2.below⟩)
theorem refSym_any (A : Option Addr) (c : Nat) (l : List Int) (A2 : Option Addr) (c2 : Nat) (s : ByteArray) (a : Nat) (W : World) (hr : Kd.C (Kd.int .i64) W A l.length l) (hc : l.length ≤ c) (hr2 : Kd.C (Kd.int .i64) W A2 l.length (codesL l)) (hc2 : l.length ≤ c2) (ho : okL l = true) (hs : s.size ≤ 1000000000000000) (ha : a ≤ 8 * s.size) :
    Calls Try.prog 28 #[.slice A l.length c, .slice A2 l.length c2, .string s, .int .i64 a] W fun e w' => e = .returned (.tuple #[.int .i64 (symR (symF l s a)).1, .int .i64 (symR (symF l s a)).2.1, .int .i64 (symR (symF l s a)).2.2]) ∧ Below W.heap.size W w' := by
  obtain ⟨k, hk⟩ := refsym_ok ho s hs a ha
  have h := fun hr2 hc2 => postroadref03_Symbol.calls k A c l A2 c2 (codesL l) s a _ _ _ W hr hc hr2 hc2 hk
  rw [codesL_len] at h
  exact (h hr2 hc2).mono (fun _ _ h => ⟨h.1, h.2.below⟩)
theorem and_any (n : Int) (m : Nat) (hm : m < 2 ^ 63) : ∃ k : Nat, Go.bits .and .i64 n m = k ∧ k ≤ m := by
  refine ⟨(BitVec.ofInt 64 n).toNat &&& m, ?_, Nat.and_le_right⟩
  have hle : (BitVec.ofInt 64 n).toNat &&& m ≤ m := Nat.and_le_right
  have e1 : (BitVec.ofInt 64 n &&& BitVec.ofInt 64 (m : Int)).toNat = (BitVec.ofInt 64 n).toNat &&& m := by
    rw [BitVec.toNat_and, BitVec.ofInt_natCast, BitVec.toNat_ofNat, Nat.mod_eq_of_lt (by omega)]
  show IntKind.i64.wrap ((BitVec.ofInt 64 n &&& BitVec.ofInt 64 (m : Int)).toNat : Int) = _
  rw [e1]
  exact wraps_i64 _ (Int.natCast_nonneg _) (cast_lt_two_pow (by omega))
/-- Symbol's place is one of the text. -/
theorem symS_le (lens : List Int) (s : ByteArray) : ∀ (d l : Nat) (w : Int) (a : Nat), a ≤ 8 * s.size → (symS lens s d l w a).2.2 ≤ 8 * s.size
  | 0, _, _, _, h => h
  | d + 1, l, w, a, h => by
    unfold symS
    split
    · exact h
    · split
      · show a + 1 ≤ _; omega
      · split
        · exact symS_le lens s d (l + 1) _ (a + 1) (by omega)
        · show a + 1 ≤ _; omega
theorem symF_le (lens : List Int) (s : ByteArray) (a : Nat) (h : a ≤ 8 * s.size) : (symF lens s a).2.2 ≤ 8 * s.size := symS_le lens s 15 1 0 a h
end Go.Proofs.Ytmmoenleldcadaa.HF
