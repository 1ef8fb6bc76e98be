/- The document's bytes of a message are the program's. -/
import Derived.Test.YtojnhklgfdfkcaaFB2
import Derived.Test.YtojnhklgfdfkcaaGF
import Derived.Test.YtojnhklgfdfkcaaGA
namespace Go.Proofs.Ytojnhklgfdfkcaa.WK
open Go.RowKit Go.Proofs.YtojnhklgfdfkcaaW.PrintWords Go.Proofs.YtojnhklgfdfkcaaW.PrintLast Go.Proofs.YtojnhklgfdfkcaaW.PrintMore Go.Proofs.Ytojnhklgfdfkcaa.MB Go.Proofs.Ytojnhklgfdfkcaa.HW Go.Proofs.Ytojnhklgfdfkcaa.Fn Go.Proofs.Ytojnhklgfdfkcaa.PV Go.Proofs.Ytojnhklgfdfkcaa.RB Go.Proofs.Ytojnhklgfdfkcaa.RO Go.Proofs.Ytojnhklgfdfkcaa.PZ
theorem rput_f (acc : ByteArray) (n : Nat) (h : n < 2 ^ 63) (k : Nat) (hk : 10 ≤ k) (ha : acc.size ≤ 100000000000000) : postroadref14_put.f k (bytesOf acc) (n : Int) = some (bytesOf (acc ++ vs n)) := by
  have h1 := rnumber_f n h k hk
  unfold postroadref09_number.f at h1
  obtain ⟨⟨s, e⟩, hs, he⟩ := Option.bind_eq_some_iff.1 h1
  injection he with he
  simp only at he
  subst he
  have hv := vs_size n h
  unfold postroadref14_put.f
  rw [hs, Option.bind_some, if_pos (by rw [bytesOf_length]; simp only; omega), bytesOf_app]
theorem str_ba (s : ByteArray) : strOfNums (bytesOf s) = s := strOfNums_bytesOf s
def endB (body : List S63) (a : ByteArray) : ByteArray × Int := if 1048576 < (a ++ vs body.length ++ (rgo 0 body 0 ⟨#[]⟩).1).size then (⟨#[]⟩, 4) else (a ++ vs body.length ++ (rgo 0 body 0 ⟨#[]⟩).1, 0)
theorem rl1_f (a0 a1 a2 a3 a4 a5 a6 a7 a8 a9 a10 : Int) (log : List ByteArray) (body : List S63) (hl : log.length ≤ 4096) (hb : body.length ≤ 256) (ht : ∀ t ∈ log, t.size ≤ 262154) : ∀ (d k i : Nat) (acc : ByteArray), d + i = log.length → d + 600 < k → acc.size ≤ 2000000 →
    postroadref14_Bytes.l1 k (bytesOf acc) (i : Int) a0 a1 a2 a3 a4 a5 a6 a7 a8 a9 a10 log body = some (match logB (log.drop i) acc with | none => (⟨#[]⟩, 4) | some a => endB body a) := by
  intro d
  induction d with
  | zero =>
    intro k i acc hd hk ha
    obtain ⟨k, rfl⟩ : ∃ j, k = j + 1 := ⟨k - 1, by omega⟩
    obtain ⟨⟨rs, re⟩, hr⟩ : ∃ v, rgo 0 body 0 ⟨#[]⟩ = v := ⟨_, rfl⟩
    have hrb : postroadref09_Bytes.f k body 0 = some (rs, re) := by
      rw [rbytes_f body 0 (by omega) k (by omega)]
      unfold recBytes
      rw [if_neg (by decide), if_pos (by omega), hr]
    have hrs : rs.size ≤ 4200 * body.length := by
      have := rgo_size 0 (Int.le_refl _) body 0 ⟨#[]⟩
      rw [hr] at this
      have h2 : rs.size ≤ 0 + 4200 * body.length := this
      omega
    have hv := vs_size body.length (by omega)
    rw [postroadref14_Bytes.l1, if_neg (by omega), rput_f acc body.length (by omega) k (by omega) (by omega), Option.bind_some, hrb, Option.bind_some, List.drop_eq_nil_of_le (by omega), logB]
    simp only
    rw [if_pos (by rw [bytesOf_length, ByteArray.size_append]; omega), Option.bind_some]
    unfold endB
    rw [hr, ← bytesOf_app, bytesOf_length, str_ba]
    by_cases hc : 1048576 < (acc ++ vs body.length ++ rs).size
    · rw [if_pos (by omega), if_pos hc]
    · rw [if_neg (by omega), if_neg hc]
  | succ d ih =>
    intro k i acc hd hk ha
    obtain ⟨k, rfl⟩ : ∃ j, k = j + 1 := ⟨k - 1, by omega⟩
    have hlt : i < log.length := by omega
    obtain ⟨t, htt⟩ : ∃ t, rdOf ByteArray.empty log (i : Int) = t := ⟨_, rfl⟩
    have hdrop : log.drop i = t :: log.drop (i + 1) := by
      rw [List.drop_eq_getElem_cons hlt, ← htt]
      simp [rdOf, List.getD_eq_getElem?_getD, hlt]
    have hts : t.size ≤ 262154 := ht t (by
      have : t ∈ log.drop i := by rw [hdrop]; exact List.mem_cons_self
      exact List.mem_of_mem_drop this)
    have hv := vs_size t.size (by omega)
    rw [postroadref14_Bytes.l1, if_pos (by omega), if_pos (by omega), htt, rput_f acc t.size (by omega) k (by omega) (by omega), Option.bind_some, if_pos (by rw [bytesOf_length, ByteArray.size_append]; omega), Option.bind_some, ← bytesOf_app, bytesOf_length, hdrop, logB]
    by_cases hc : 1048576 < (acc ++ vs t.size ++ t).size
    · rw [if_pos (by omega), if_pos hc]
    · rw [if_neg (by omega), if_neg hc, w64n i (by omega), ih k (i + 1) (acc ++ vs t.size ++ t) (by omega) (by omega) (by omega)]
theorem rl0_f (a0 a1 a2 a3 a4 a5 a6 a7 a8 a9 a10 : Int) (ns : List Int) (hn : ns.length = 11) (hns : ∀ i, i < 11 → 0 ≤ ns.getD i 0 ∧ ns.getD i 0 ≤ mostOf i) (log : List ByteArray) (body : List S63) (hl : log.length ≤ 4096) (hb : body.length ≤ 256) (ht : ∀ t ∈ log, t.size ≤ 262154) : ∀ (d k i : Nat), d + i = 11 → d + log.length + 700 < k → (numsB ns i).size ≤ 9 * i →
    postroadref14_Bytes.l0 k (bytesOf (numsB ns i)) ns (i : Int) a0 a1 a2 a3 a4 a5 a6 a7 a8 a9 a10 log body = some (match logB log (numsB ns 11 ++ vs log.length) with | none => (⟨#[]⟩, 4) | some a => endB body a) := by
  intro d
  induction d with
  | zero =>
    intro k i hd hk ha
    obtain ⟨k, rfl⟩ : ∃ j, k = j + 1 := ⟨k - 1, by omega⟩
    obtain rfl : i = 11 := by omega
    have hv := vs_size log.length (by omega)
    rw [postroadref14_Bytes.l0, if_neg (by omega), rput_f (numsB ns 11) log.length (by omega) k (by omega) (by omega), Option.bind_some, show (0 : Int) = ((0 : Nat) : Int) from rfl, rl1_f a0 a1 a2 a3 a4 a5 a6 a7 a8 a9 a10 log body hl hb ht log.length k 0 _ (by omega) (by omega) (by rw [ByteArray.size_append]; omega), List.drop_zero]
  | succ d ih =>
    intro k i hd hk ha
    obtain ⟨k, rfl⟩ : ∃ j, k = j + 1 := ⟨k - 1, by omega⟩
    have hi := hns i (by omega)
    have hm : mostOf i ≤ 1099511627776 := by
      have hi11 : i < 11 := by omega
      match i, hi11 with
      | 0, _ | 1, _ | 2, _ | 3, _ | 4, _ | 5, _ | 6, _ | 7, _ | 8, _ | 9, _ | 10, _ => decide
    obtain ⟨m, hmm⟩ : ∃ m : Nat, ns.getD i 0 = m := ⟨(ns.getD i 0).toNat, by omega⟩
    have hrd : rd ns (i : Int) = (m : Int) := by unfold rd; rw [Int.toNat_natCast]; exact hmm
    have hnb : numsB ns (i + 1) = numsB ns i ++ vs m := by rw [numsB, hmm, Int.toNat_natCast]
    have hv := vs_size m (by omega)
    rw [postroadref14_Bytes.l0, if_pos (by omega), if_pos (by omega), hrd, rput_f (numsB ns i) m (by omega) k (by omega) (by omega), Option.bind_some, ← hnb, w64n i (by omega), ih k (i + 1) (by omega) (by omega) (by rw [hnb, ByteArray.size_append]; omega)]
theorem rbytes14_f (a0 a1 a2 a3 a4 a5 a6 a7 a8 a9 a10 : Int) (log : List ByteArray) (body : List S63) : postroadref14_Bytes.f 6000 a0 a1 a2 a3 a4 a5 a6 a7 a8 a9 a10 log body = some (wireB [a0, a1, a2, a3, a4, a5, a6, a7, a8, a9, a10] log body) := by
  unfold postroadref14_Bytes.f postroadref14_May.f wireB
  rw [Option.bind_some]
  by_cases hok : okMsg [a0, a1, a2, a3, a4, a5, a6, a7, a8, a9, a10] log body = true
  · rw [if_pos hok, if_pos hok]
    have h1 := hok
    unfold okMsg at h1
    simp only [Bool.and_eq_true, decide_eq_true_iff] at h1
    obtain ⟨h1, h2, h3, h4, h5, h6⟩ := h1
    unfold postroadref14_numbers.f
    rw [Option.bind_some]
    have := rl0_f a0 a1 a2 a3 a4 a5 a6 a7 a8 a9 a10 [a0, a1, a2, a3, a4, a5, a6, a7, a8, a9, a10] rfl ((okNums_iff _).1 h1) log body h3 h4 (fun t ht => by have := List.all_eq_true.1 h5 t ht; simpa using this) 11 6000 0 rfl (by omega) (Nat.le_refl _)
    exact this
  · rw [if_neg hok, if_neg hok]
end Go.Proofs.Ytojnhklgfdfkcaa.WK
