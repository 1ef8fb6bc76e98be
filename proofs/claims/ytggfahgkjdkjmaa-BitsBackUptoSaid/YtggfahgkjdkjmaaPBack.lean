/- What was written is read: the plain part of BitsBack. -/
import Derived.Test.YtggfahgkjdkjmaaPText
namespace Go.Proofs.Ytggfahgkjdkjmaa.HW
open Go.RowKit Go.Proofs.YtggfahgkjdkjmaaW.PrintWords Go.Proofs.YtggfahgkjdkjmaaW.PrintLast Go.Proofs.YtggfahgkjdkjmaaW.PrintMore Go.Proofs.Ytggfahgkjdkjmaa.MB Go.Proofs.Ytggfahgkjdkjmaa.Fn
/-- A call that a writer takes. -/
def okOp (o : S44) (l : List Bool) : Prop := (o.f0 = 1 ∧ 0 ≤ o.f2 ∧ o.f2 ≤ 57 ∧ 0 ≤ o.f1 ∧ o.f1.toNat < 2 ^ o.f2.toNat) ∨ o.f0 = 2 ∨ (o.f0 = 3 ∧ l.length % 8 = 0 ∧ o.f3.size ≤ 4096)
/-- What a call adds. -/
def wadd (o : S44) (l : List Bool) : List Bool :=
  if o.f0 = 1 then bitsOf o.f1.toNat o.f2.toNat else if o.f0 = 2 then List.replicate (pad l.length) false else bitsS o.f3
def encs : List Bool → List S44 → List Bool
  | l, [] => l
  | l, o :: t => encs (l ++ wadd o l) t
def goodAll : List Bool → List S44 → Prop
  | _, [] => True
  | l, o :: t => okOp o l ∧ goodAll (l ++ wadd o l) t
theorem encs_app : ∀ (xs ys : List S44) (l : List Bool), encs l (xs ++ ys) = encs (encs l xs) ys
  | [], _, _ => rfl
  | o :: t, ys, l => encs_app t ys (l ++ wadd o l)
theorem good_snoc (o : S44) : ∀ (xs : List S44) (l : List Bool), goodAll l xs → okOp o (encs l xs) → goodAll l (xs ++ [o])
  | [], _, _, h => ⟨h, trivial⟩
  | x :: t, l, h, ho => ⟨h.1, good_snoc o t (l ++ wadd x l) h.2 ho⟩
theorem encs_ext : ∀ (xs : List S44) (l : List Bool), ∃ m, encs l xs = l ++ m
  | [], l => ⟨[], by simp [encs]⟩
  | x :: t, l => by
    obtain ⟨m, hm⟩ := encs_ext t (l ++ wadd x l)
    exact ⟨wadd x l ++ m, by rw [encs, hm, List.append_assoc]⟩
theorem wadd_len (o : S44) (l : List Bool) (h : okOp o l) : (wadd o l).length ≤ 40000 := by
  unfold wadd
  split
  · rw [bitsOf_length]
    rename_i h1
    rcases h with h | h | h <;> omega
  · split
    · rw [List.length_replicate]; unfold pad; omega
    · rw [bitsS_length]
      rename_i h1 h2
      rcases h with h | h | h <;> omega
theorem read_bits {s : ByteArray} {l m : List Bool} {x n : Nat} (hx : x < 2 ^ n) (h : STold s (l ++ bitsOf x n ++ m)) : nb (sbit s) l.length n = x ∧ l.length + n ≤ 8 * s.size := by
  refine ⟨(nb_unique hx (fun i hi => ?_)).symm, ?_⟩
  · rw [h.2, getD_append, if_pos (by rw [List.length_append, bitsOf_length]; omega), getD_append, if_neg (by omega), Nat.add_sub_cancel_left, getD_bitsOf, decide_eq_true hi, Bool.true_and]
  · have := h.1
    rw [List.length_append, List.length_append, bitsOf_length] at this
    omega
theorem bt_extract (s : ByteArray) (q e i : Nat) (he : e ≤ s.size) (hi : q + i < e) : bt (s.extract q e) (i : Int) = bt s ((q + i : Nat) : Int) := by
  rw [← rd_bytesOf, ← rd_bytesOf]
  have h : bytesOf (s.extract q e) = ((bytesOf s).drop q).take (e - q) := by
    unfold bytesOf
    rw [ByteArray.data_extract, Array.toList_extract, List.extract_eq_take_drop, List.map_take, List.map_drop]
  rw [h]
  unfold rd
  rw [Int.toNat_natCast, Int.toNat_natCast, List.getD_eq_getElem?_getD, List.getD_eq_getElem?_getD, List.getElem?_take, if_pos (by omega), List.getElem?_drop]
theorem told_self (t : ByteArray) : STold t (bitsS t) := ⟨by rw [bitsS_length]; omega, fun i => (getD_bitsS t i).symm⟩
theorem read_bytes {s t : ByteArray} {l m : List Bool} (h8 : l.length % 8 = 0) (h : STold s (l ++ bitsS t ++ m)) : s.extract (l.length / 8) (l.length / 8 + t.size) = t ∧ l.length / 8 + t.size ≤ s.size := by
  have hsz := h.1
  rw [List.length_append, List.length_append, bitsS_length] at hsz
  have hle : l.length / 8 + t.size ≤ s.size := by omega
  refine ⟨?_, hle⟩
  have hes : (s.extract (l.length / 8) (l.length / 8 + t.size)).size = t.size := by rw [ByteArray.size_extract]; omega
  refine told_unique (l := bitsS t) ⟨by rw [hes, bitsS_length]; omega, fun i => ?_⟩ (told_self t)
  rw [getD_bitsS]
  by_cases hi : i < 8 * t.size
  · have hh := h.2 (l.length + i)
    rw [getD_append, if_pos (by rw [List.length_append, bitsS_length]; omega), getD_append, if_neg (by omega), Nat.add_sub_cancel_left, getD_bitsS] at hh
    rw [← hh]
    unfold sbit
    rw [bt_extract s _ _ _ hle (by omega), show l.length / 8 + i / 8 = (l.length + i) / 8 from by omega, show i % 8 = (l.length + i) % 8 from by omega]
  · unfold sbit
    rw [bt_high _ _ (by omega), bt_high _ _ (by omega)]
end Go.Proofs.Ytggfahgkjdkjmaa.HW
