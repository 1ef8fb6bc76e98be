/- Bytes of numbers; a number's bytes with more behind. -/
import Derived.Test.YtjdicocmajjojaaPVar
namespace Go.Proofs.Ytjdicocmajjojaa.PV
open Go.RowKit Go.Proofs.Ytjdicocmajjojaa.Fn Go.Proofs.YtjdicocmajjojaaW.PrintWords Go.Proofs.YtjdicocmajjojaaW.PrintLast Go.Proofs.Ytjdicocmajjojaa.MB
theorem size_strOfNums (xs : List Int) : (strOfNums xs).size = xs.length := by simp [strOfNums, ByteArray.size]
theorem bt_append (s t : ByteArray) (i : Nat) : bt (s ++ t) (i : Int) = if i < s.size then bt s (i : Int) else bt t ((i - s.size : Nat) : Int) := by
  have h := rd_append (bytesOf s) (bytesOf t) i
  have e : bytesOf s ++ bytesOf t = bytesOf (s ++ t) := by simp [bytesOf]
  rw [e, rd_bytesOf, rd_bytesOf, rd_bytesOf, bytesOf_length] at h
  exact h
theorem bytesOf_strOfNums {bs : List Int} (h : ∀ b ∈ bs, 0 ≤ b ∧ b < 256) : bytesOf (strOfNums bs) = bs := by
  unfold bytesOf strOfNums
  simp only [List.map_map]
  conv => rhs; rw [← List.map_id bs]
  refine List.map_congr_left fun b hb => ?_
  have := h b hb
  simp only [Function.comp_apply, UInt8.toNat_ofNat', id_eq]
  omega
theorem bt_strOfNums {bs : List Int} (h : ∀ b ∈ bs, 0 ≤ b ∧ b < 256) (i : Nat) : bt (strOfNums bs) (i : Int) = bs.getD i 0 := by
  rw [← rd_bytesOf, bytesOf_strOfNums h]
  simp [rd]
theorem var_pv (n : Nat) (h : n < 2 ^ 63) (t : ByteArray) : var_ (strOfNums (pv n) ++ t) = ((n : Int), ((strOfNums (pv n)).size : Int), 0) := by
  have hl : (pv n).length ≤ 9 := pv_len 8 n (Nat.lt_of_lt_of_le h (by decide))
  unfold var_
  rw [vr_pv _ _ n 9 0 0 hl (by rw [ByteArray.size_append, size_strOfNums]; omega) (Or.inr rfl) (fun j hj => by
    rw [Nat.zero_add, bt_append, size_strOfNums, if_pos hj, bt_strOfNums (pv_rng n)]
    have := rd_mem (P := fun b => 0 ≤ b ∧ b < 256) (pv_rng n) ⟨by omega, by omega⟩ (j : Int)
    simp only [rd, Int.toNat_natCast] at this
    omega)]
  simp [size_strOfNums]

theorem strOfNums_bytesOf (s : ByteArray) : strOfNums (bytesOf s) = s := by
  unfold strOfNums bytesOf
  apply ByteArray.ext
  simp [List.map_map, Function.comp_def]
end Go.Proofs.Ytjdicocmajjojaa.PV
