/- Any number as groups of seven bits, the number of any bytes, there and back (BitsVars): for every input. -/
import Derived.Test.YtggfahgkjdkjmaaFnx2
import Derived.Test.YtggfahgkjdkjmaaPVar
import Derived.OpenShut
namespace Go.Proofs.Ytggfahgkjdkjmaa.Pure
open Go.RowKit Go.Proofs.Ytggfahgkjdkjmaa.Fn Go.Proofs.YtggfahgkjdkjmaaW.PrintWords Go.Proofs.YtggfahgkjdkjmaaW.PrintLast Go.Proofs.Ytggfahgkjdkjmaa.MB Go.Proofs.Ytggfahgkjdkjmaa.PV

theorem size_strOfNums (xs : List Int) : (strOfNums xs).size = xs.length := by simp [strOfNums, ByteArray.size]
theorem bt_append (s t : ByteArray) (i : Nat) : bt (s ++ t) (i : Int) = if i < s.size then bt s (i : Int) else bt t ((i - s.size : Nat) : Int) := by
  have h := rd_append (bytesOf s) (bytesOf t) i
  have e : bytesOf s ++ bytesOf t = bytesOf (s ++ t) := by simp [bytesOf]
  rw [e, rd_bytesOf, rd_bytesOf, rd_bytesOf, bytesOf_length] at h
  exact h
theorem bytesOf_strOfNums {bs : List Int} (h : ∀ b ∈ bs, 0 ≤ b ∧ b < 256) : bytesOf (strOfNums bs) = bs := by
  unfold bytesOf strOfNums
  simp only [List.map_map]
  conv => rhs; rw [← List.map_id bs]
  refine List.map_congr_left fun b hb => ?_
  have := h b hb
  simp only [Function.comp_apply, UInt8.toNat_ofNat', id_eq]
  omega
theorem bt_strOfNums {bs : List Int} (h : ∀ b ∈ bs, 0 ≤ b ∧ b < 256) (i : Nat) : bt (strOfNums bs) (i : Int) = bs.getD i 0 := by
  rw [← rd_bytesOf, bytesOf_strOfNums h]
  simp [rd]
theorem var_pv (n : Nat) (h : n < 2 ^ 63) (t : ByteArray) : var_ (strOfNums (pv n) ++ t) = ((n : Int), ((strOfNums (pv n)).size : Int), 0) := by
  have hl : (pv n).length ≤ 9 := pv_len 8 n (Nat.lt_of_lt_of_le h (by decide))
  unfold var_
  rw [vr_pv _ _ n 9 0 0 hl (by rw [ByteArray.size_append, size_strOfNums]; omega) (Or.inr rfl) (fun j hj => by
    rw [Nat.zero_add, bt_append, size_strOfNums, if_pos hj, bt_strOfNums (pv_rng n)]
    have := rd_mem (P := fun b => 0 ≤ b ∧ b < 256) (pv_rng n) ⟨by omega, by omega⟩ (j : Int)
    simp only [rd, Int.toNat_natCast] at this
    omega)]
  simp [size_strOfNums]

theorem awake_f : postroadlaw01_awake.f = some true := rfl
theorem BitsVars : postroadlaw01_BitsVars.Pure := by
  intro n s hn hs
  have hb := bounds_i64 hn
  refine ⟨11, ?_⟩
  have v1 := at_rounds (g := fun k => bits_Var.f k s) (bits_Var.mono s) (k' := 11) (by omega) (var_f s (by omega))
  have v2 := at_rounds (g := fun k => postroadref01_Var.f k s) (postroadref01_Var.mono s) (k' := 11) (by omega) (rvar_f s (by omega))
  unfold postroadlaw01_BitsVars.f
  by_cases h : n < 0
  · rw [putvar_neg 11 n h, rputvar_neg 11 n h, v1, v2]
    simp only [Option.bind_some, if_true, bne_self_eq_false]
    rw [postroadlaw01_BitsVars.j0, if_neg (by decide), if_pos (by show 0 + s.size ≤ _; omega), var_f _ (by rw [ByteArray.size_append]; show 0 + s.size ≤ _; omega)]
    simp only [Option.bind_some]
    rw [if_neg (by decide), awake_f]
    rfl
  · obtain ⟨m, rfl⟩ := Int.eq_ofNat_of_zero_le (by omega : 0 ≤ n)
    have hm : m < 2 ^ 63 := by omega
    have p1 := at_rounds (g := fun k => bits_PutVar.f k (m : Int)) (bits_PutVar.mono m) (k' := 11) (by omega) (putvar_nat m hm)
    have p2 := at_rounds (g := fun k => postroadref01_PutVar.f k (m : Int)) (postroadref01_PutVar.mono m) (k' := 11) (by omega) (rputvar_nat m hm)
    have hl : (pv m).length ≤ 9 := pv_len 8 m (Nat.lt_of_lt_of_le hm (by decide))
    have hsz := size_strOfNums (pv m)
    rw [p1, p2, v1, v2]
    simp only [Option.bind_some, if_true, bne_self_eq_false]
    rw [postroadlaw01_BitsVars.j0, if_neg (by decide), if_pos (by omega), var_f _ (by rw [ByteArray.size_append]; omega), var_pv m hm]
    simp only [Option.bind_some, if_true]
    rw [awake_f]
    rfl
end Go.Proofs.Ytggfahgkjdkjmaa.Pure
