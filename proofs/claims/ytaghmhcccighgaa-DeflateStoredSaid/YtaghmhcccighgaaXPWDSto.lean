/- What stands in blocks of kind 0, one behind the other; plain (DeflateStored). -/
import Derived.Test.YtaghmhcccighgaaXHBkD
namespace Go.Proofs.Ytaghmhcccighgaa.DF
open Go.RowKit Go.Proofs.YtaghmhcccighgaaW.PrintWords Go.Proofs.YtaghmhcccighgaaW.PrintLast Go.Proofs.YtaghmhcccighgaaW.PrintMore Go.Proofs.Ytaghmhcccighgaa.HW Go.Proofs.Ytaghmhcccighgaa.MB Go.Proofs.Ytaghmhcccighgaa.Fn Go.Proofs.Ytaghmhcccighgaa.HF Go.Proofs.Ytaghmhcccighgaa.RT Go.Proofs.Ytaghmhcccighgaa.RT.Rd Go.Proofs.Ytaghmhcccighgaa.HP Go.Proofs.Ytaghmhcccighgaa.HI Go.Proofs.Ytaghmhcccighgaa.IW
theorem bytes_cut (s : ByteArray) (i n : Nat) : bytesOf (s.extract i n) = ((bytesOf s).take n).drop i := by
  unfold bytesOf
  rw [ByteArray.data_extract, Array.toList_extract, List.map_take, List.map_drop, List.drop_take]
theorem bytes_two (s t : ByteArray) : bytesOf (s ++ t) = bytesOf s ++ bytesOf t := by
  unfold bytesOf
  rw [ByteArray.data_append, Array.toList_append, List.map_append]
/-- The five bytes ahead of a part. -/
def fiveB (lv lo hh : Nat) : List Int := [(lv : Int), (lo : Int), (hh : Int), 255 - (lo : Int), 255 - (hh : Int)]
theorem five_blk (lv : Nat) (p : ByteArray) (lo hh : Nat) (h : lo = p.size % 256) (h2 : hh = p.size / 256) (hp : p.size ≤ 65535) : fiveB lv lo hh ++ bytesOf p = blkL lv p := by
  unfold fiveB blkL
  subst h
  subst h2
  have e2 : (255 : Int) - ((p.size % 256 : Nat) : Int) = ((255 - p.size % 256 : Nat) : Int) := by omega
  have e3 : (255 : Int) - ((p.size / 256 : Nat) : Int) = ((255 - p.size / 256 : Nat) : Int) := by omega
  rw [e2, e3]
/-- What was put so far, of a text T: all ahead of p; or all. -/
def StoT (T : ByteArray) (p : Nat) (l : List Int) : Prop :=
  (∃ j, p = 65535 * j ∧ j ≤ 2 ∧ (p = 0 ∨ p < T.size) ∧ l ++ stoL (17 - j) (T.extract p T.size) = stoL 17 T) ∨ (0 < p ∧ T.size ≤ p ∧ l = stoL 17 T)
theorem sto_begin (T : ByteArray) : StoT T 0 [] := by
  refine Or.inl ⟨0, rfl, by decide, Or.inl rfl, ?_⟩
  rw [List.nil_append, ByteArray.extract_zero_size]
theorem sto_last {T : ByteArray} {p j r lo hh : Nat} {l : List Int} (hp : p = 65535 * j) (hj : j ≤ 2) (h : l ++ stoL (17 - j) (T.extract p T.size) = stoL 17 T) (hr : T.size - p = r) (hpT : p ≤ T.size) (hr2 : r ≤ 65535) (hlo : r % 256 = lo) (hhh : r / 256 = hh) :
    StoT T (p + 65535) (l ++ fiveB 1 lo hh ++ bytesOf (T.extract p T.size)) := by
  refine Or.inr ⟨by omega, by omega, ?_⟩
  have e1 : (T.extract p T.size).size = r := by rw [ByteArray.size_extract]; omega
  rw [List.append_assoc, five_blk 1 _ lo hh (by rw [e1]; exact hlo.symm) (by rw [e1]; exact hhh.symm) (by omega), ← h]
  congr 1
  obtain ⟨k, hk⟩ : ∃ k, 17 - j = k + 1 := ⟨16 - j, by omega⟩
  rw [hk]
  unfold stoL
  rw [if_pos (by omega)]
  rfl
theorem sto_more {T : ByteArray} {p j : Nat} {l : List Int} (hT : T.size ≤ 131071) (hp : p = 65535 * j) (hj : j ≤ 2) (h : l ++ stoL (17 - j) (T.extract p T.size) = stoL 17 T) (hr : 65535 < T.size - p) :
    StoT T (p + 65535) (l ++ fiveB 0 255 255 ++ bytesOf (T.extract p (p + 65535))) := by
  have hj1 : j ≤ 1 := by omega
  refine Or.inl ⟨j + 1, by omega, by omega, Or.inr (by omega), ?_⟩
  have e1 : (T.extract p T.size).size = T.size - p := by rw [ByteArray.size_extract]; omega
  have e2 : (T.extract p (p + 65535)).size = 65535 := by rw [ByteArray.size_extract]; omega
  rw [← h, List.append_assoc, List.append_assoc]
  congr 1
  obtain ⟨k, hk⟩ : ∃ k, 17 - j = k + 1 := ⟨16 - j, by omega⟩
  rw [hk, show 17 - (j + 1) = k by omega, ← List.append_assoc, five_blk 0 _ 255 255 (by rw [e2]) (by rw [e2]) (by omega)]
  rw [show stoL (k + 1) (T.extract p T.size) = if (T.extract p T.size).size ≤ 65535 then blkL 1 (T.extract p T.size) else blkL 0 ((T.extract p T.size).extract 0 65535) ++ stoL k ((T.extract p T.size).extract 65535 (T.extract p T.size).size) from rfl, if_neg (by omega), e1, ByteArray.extract_extract, ByteArray.extract_extract, Nat.add_zero, show min (p + 65535) T.size = p + 65535 by omega, show min (p + (T.size - p)) T.size = T.size by omega]
  rfl
/-- A round: kk bytes more, up to q; whether it is the last one. -/
theorem sto_round {T : ByteArray} {p : Nat} {l : List Int} (hT : T.size ≤ 131071) (h : ∃ j, p = 65535 * j ∧ j ≤ 2 ∧ (p = 0 ∨ p < T.size) ∧ l ++ stoL (17 - j) (T.extract p T.size) = stoL 17 T) :
    ∃ r kk q lo hh : Nat, ∃ b : Bool, T.size - p = r ∧ p + kk = q ∧ q ≤ T.size ∧ kk ≤ 65535 ∧ (kk = r ∧ r ≤ 65535 ∨ kk = 65535 ∧ 65535 < r) ∧ decide (q = T.size) = b ∧ kk % 256 = lo ∧ kk / 256 = hh ∧ p ≤ T.size ∧ StoT T (p + 65535) (l ++ fiveB (if b then 1 else 0) lo hh ++ bytesOf (T.extract p q)) := by
  obtain ⟨j, hp, hj, hgo, hr⟩ := h
  have hpT : p ≤ T.size := by omega
  by_cases hlast : T.size - p ≤ 65535
  · refine ⟨T.size - p, T.size - p, T.size, _, _, true, rfl, by omega, Nat.le_refl _, hlast, Or.inl ⟨rfl, hlast⟩, decide_eq_true rfl, rfl, rfl, hpT, ?_⟩
    exact sto_last hp hj hr rfl hpT hlast rfl rfl
  · refine ⟨T.size - p, 65535, p + 65535, 255, 255, false, rfl, rfl, by omega, Nat.le_refl _, Or.inr ⟨rfl, by omega⟩, decide_eq_false (by omega), rfl, rfl, hpT, ?_⟩
    exact sto_more hT hp hj hr (by omega)
/-- What stands in blocks is what Stored gives. -/
theorem sto_told {T z : ByteArray} (hz : STold z (stoF 17 T)) : strOfNums (stoL 17 T) = z := by
  rw [← sto_bytes hz, strOfNums_bytesOfD]
theorem stoT_len {T : ByteArray} {p : Nat} {l : List Int} (h : StoT T p l) (hT : T.size ≤ 131071) : l.length ≤ 131171 := by
  have h1 := (stoL_len 17 T (by decide) (by omega)).1
  rcases h with ⟨j, _, _, _, h⟩ | ⟨_, _, h⟩
  · have h2 := congrArg List.length h
    rw [List.length_append] at h2
    omega
  · rw [h]
    omega
end Go.Proofs.Ytaghmhcccighgaa.DF
