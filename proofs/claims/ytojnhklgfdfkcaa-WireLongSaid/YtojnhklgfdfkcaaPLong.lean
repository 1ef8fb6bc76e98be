/- WireLong, plain. -/
import Derived.Test.YtojnhklgfdfkcaaPLawW
import Derived.Test.YtojnhklgfdfkcaaFLong
import Derived.Test.YtojnhklgfdfkcaaGF
namespace Go.Proofs.Ytojnhklgfdfkcaa.WK
open Go.RowKit Go.Proofs.YtojnhklgfdfkcaaW.PrintWords Go.Proofs.YtojnhklgfdfkcaaW.PrintLast Go.Proofs.YtojnhklgfdfkcaaW.PrintMore Go.Proofs.Ytojnhklgfdfkcaa.MB Go.Proofs.Ytojnhklgfdfkcaa.HW Go.Proofs.Ytojnhklgfdfkcaa.Fn Go.Proofs.Ytojnhklgfdfkcaa.PV Go.Proofs.Ytojnhklgfdfkcaa.RB Go.Proofs.Ytojnhklgfdfkcaa.RO Go.Proofs.Ytojnhklgfdfkcaa.PZ
theorem vs_le (j n : Nat) (h : n < 128 ^ (j + 1)) : (vs n).size ≤ j + 1 := by
  have := pv_len j n h
  unfold vs
  rw [size_strOfNums]
  exact this
theorem logT_size (t : ByteArray) (ht : t.size ≤ 262143) : ∀ n, n * t.size ≤ (logT (List.replicate n t)).size ∧ (logT (List.replicate n t)).size ≤ n * (t.size + 3)
  | 0 => ⟨by rw [Nat.zero_mul]; exact Nat.zero_le _, by rw [List.replicate_zero, logT]; exact Nat.zero_le _⟩
  | n + 1 => by
    obtain ⟨h1, h2⟩ := logT_size t ht n
    have hv := vs_le 2 t.size (by have : (128 : Nat) ^ (2 + 1) = 2097152 := rfl; omega)
    rw [List.replicate_succ, logT, ByteArray.size_append, ByteArray.size_append, Nat.succ_mul, Nat.succ_mul]
    omega
theorem logB_fits : ∀ (l : List ByteArray) (acc : ByteArray), (acc ++ logT l).size ≤ 1048576 → logB l acc = some (acc ++ logT l)
  | [], acc, _ => by rw [logB, logT, ba_nil]
  | t :: r, acc, h => by
    rw [logT] at h
    have e : acc ++ (vs t.size ++ (t ++ logT r)) = acc ++ vs t.size ++ t ++ logT r := by simp only [ba_assoc]
    rw [e] at h
    have h2 := h
    rw [ByteArray.size_append] at h2
    rw [logB, if_neg (by omega), logB_fits r _ h, logT, e]
def n8 : List Int := [8, 0, 0, 0, 0, 0, 0, 0, 0, 0, 0]
theorem numsT_n8 : (numsT n8).size ≤ 11 := by
  have h0 : (vs 0).size ≤ 1 := vs_le 0 0 (by decide)
  have h8 : (vs 8).size ≤ 1 := vs_le 0 8 (by decide)
  show (vs 8 ++ (vs 0 ++ (vs 0 ++ (vs 0 ++ (vs 0 ++ (vs 0 ++ (vs 0 ++ (vs 0 ++ (vs 0 ++ (vs 0 ++ (vs 0 ++ ⟨#[]⟩))))))))))).size ≤ 11
  have hz : (⟨#[]⟩ : ByteArray).size = 0 := rfl
  simp only [ByteArray.size_append]
  omega
theorem okMsg_long (n : Nat) (hn : n ≤ 15) (t : ByteArray) (ht : t.size ≤ 262143) : okMsg n8 (List.replicate n t) [] = true := by
  unfold okMsg
  simp only [Bool.and_eq_true, decide_eq_true_iff]
  refine ⟨by decide, by decide, by rw [List.length_replicate]; omega, by decide, List.all_eq_true.2 (fun x hx => ?_), rfl⟩
  rw [(List.mem_replicate.1 hx).2]
  simp; omega
theorem wireB_or {ns : List Int} {log : List ByteArray} {body : List S63} (hok : okMsg ns log body = true) : (wireB ns log body).2 = 4 ∧ (wireB ns log body).1 = ⟨#[]⟩ ∨ (wireB ns log body).2 = 0 ∧ (wireB ns log body).1.size ≤ 1048576 := by
  unfold wireB
  rw [if_pos hok]
  cases logB log (numsB ns 11 ++ vs log.length) with
  | none => exact Or.inl ⟨rfl, rfl⟩
  | some a =>
    simp only
    by_cases hc : 1048576 < (a ++ vs body.length ++ (rgo 0 body 0 ⟨#[]⟩).1).size
    · rw [if_pos hc]; exact Or.inl ⟨rfl, rfl⟩
    · rw [if_neg hc]; exact Or.inr ⟨rfl, by simp only; omega⟩
theorem wireB_long (n : Nat) (hn : n ≤ 15) (t : ByteArray) (ht : t.size ≤ 262143) (hs : n * (t.size + 3) + 40 ≤ 1048576) : (wireB n8 (List.replicate n t) []).2 = 0 ∧ n * t.size ≤ (wireB n8 (List.replicate n t) []).1.size := by
  have hok := okMsg_long n hn t ht
  obtain ⟨h1, h2⟩ := logT_size t ht n
  have h8 := numsT_n8
  have e8 : numsB n8 11 = numsT n8 := numsB_T n8 11 (by decide)
  have hv : (vs n).size ≤ 1 := vs_le 0 n (by show n < 128; omega)
  have hv0 : (vs 0).size ≤ 1 := vs_le 0 0 (by decide)
  have hf := logB_fits (List.replicate n t) (numsB n8 11 ++ vs n) (by rw [e8]; simp only [ByteArray.size_append]; omega)
  unfold wireB
  rw [if_pos hok, List.length_replicate, hf]
  simp only
  have hr : (rgo 0 ([] : List S63) 0 ⟨#[]⟩).1 = ⟨#[]⟩ := rfl
  have hz : (⟨#[]⟩ : ByteArray).size = 0 := rfl
  rw [hr, if_neg (by rw [e8]; simp only [ByteArray.size_append, List.length_nil]; omega)]
  refine ⟨rfl, ?_⟩
  simp only [ByteArray.size_append]
  omega
theorem long_loop (n kk : Nat) (hn : n ≤ 15) (t : ByteArray) (htk : t.size = kk) (ht : kk ≤ 262143) : ∀ (d k i : Nat), d + i = n → d < k → postroadlaw14_WireLong.l0 k (n : Int) (kk : Int) t (i : Int) 8 0 0 0 0 0 0 0 0 0 0 (List.replicate i t) = some true := by
  intro d
  induction d with
  | succ d ih =>
    intro k i hd hk
    obtain ⟨k, rfl⟩ : ∃ j, k = j + 1 := ⟨k - 1, by omega⟩
    rw [postroadlaw14_WireLong.l0, if_pos (by omega), if_pos (by rw [List.length_replicate]; omega), w64n i (by omega)]
    have e : List.replicate i t ++ [t] = List.replicate (i + 1) t := (List.replicate_succ').symm
    rw [e]
    exact ih k (i + 1) (by omega) (by omega)
  | zero =>
    intro k i hd hk
    obtain ⟨k, rfl⟩ : ∃ j, k = j + 1 := ⟨k - 1, by omega⟩
    obtain rfl : i = n := by omega
    have hok := okMsg_long i hn t (by omega)
    have h1 := wireB_or hok
    have h2 := wireB_long i hn t (by omega)
    rw [htk] at h2
    have hlt : i * (kk + 3) ≤ 15 * 262146 := Nat.mul_le_mul hn (by omega)
    have hlt2 : i * kk ≤ 15 * 262143 := Nat.mul_le_mul hn (by omega)
    have w1 : wrap64 ((kk : Int) + 3) = ((kk + 3 : Nat) : Int) := by rw [wrap64_id _ (by omega) (by omega)]; rfl
    have w2 : wrap64 ((i : Int) * ((kk + 3 : Nat) : Int)) = ((i * (kk + 3) : Nat) : Int) := by
      rw [← Int.natCast_mul, wrap64_id _ (by omega) (by omega)]
    have w3 : wrap64 ((i : Int) * (kk : Int)) = ((i * kk : Nat) : Int) := by
      rw [← Int.natCast_mul, wrap64_id _ (by omega) (by omega)]
    have w4 : wrap64 (((i * (kk + 3) : Nat) : Int) + 40) = ((i * (kk + 3) + 40 : Nat) : Int) := by rw [wrap64_id _ (by omega) (by omega)]; rfl
    rw [postroadlaw14_WireLong.l0, if_neg (by omega)]
    unfold wire_Bytes.f
    rw [Option.bind_some, show [(8 : Int), 0, 0, 0, 0, 0, 0, 0, 0, 0, 0] = n8 from rfl, w1, w2, w3, w4]
    obtain ⟨⟨s, e⟩, hw⟩ : ∃ v, wireB n8 (List.replicate i t) [] = v := ⟨_, rfl⟩
    rw [hw] at h1 h2 ⊢
    simp only at h1 h2 ⊢
    generalize i * (kk + 3) = A at *
    generalize i * kk = B at *
    clear w1 w2 w3 w4
    have ha : (postroadlaw14_awake.f.bind fun t => some t) = some true := rfl
    by_cases hA : (A : Int) > 1048576
    · rw [if_pos hA]
      rcases h1 with ⟨rfl, rfl⟩ | ⟨rfl, hs⟩
      · rw [if_pos rfl, if_pos (by rw [Lib.toList_data])]; exact ha
      · rw [if_neg (by decide), if_pos rfl, if_pos (by omega)]; exact ha
    · rw [if_neg hA]
      by_cases h40 : (((A + 40 : Nat) : Int)) > 1048576
      · by_cases he : e = 0
        · rw [if_pos he]
          by_cases hB : (s.size : Int) ≥ (B : Int)
          · rw [if_pos hB]; exact ha
          · rw [if_neg hB, if_pos h40]; exact ha
        · rw [if_neg he, if_pos h40]; exact ha
      · obtain ⟨rfl, h3⟩ := h2 (by omega)
        rw [if_pos rfl, if_pos (by omega)]
        exact ha
theorem WireLong_f (a b : Int) : ∃ k, postroadlaw14_WireLong.f k a b = some true := by
  obtain ⟨n, hn, hn2⟩ := and_any a 15 (by decide)
  obtain ⟨kk, hk, hk2⟩ := and_any b 262143 (by decide)
  refine ⟨n + 1, ?_⟩
  unfold postroadlaw14_WireLong.f
  rw [show (262143 : Int) = ((262143 : Nat) : Int) from rfl, show (15 : Int) = ((15 : Nat) : Int) from rfl, hn, hk, if_pos (by omega), if_pos (by omega), Int.toNat_natCast]
  exact long_loop n kk hn2 _ (by rw [size_strOfNums, List.length_replicate]) hk2 n (n + 1) 0 rfl (Nat.lt_succ_self _)
end Go.Proofs.Ytojnhklgfdfkcaa.WK
