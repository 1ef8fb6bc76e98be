/- Numbers as groups of seven bits: what PutVar and Var come to, the program's and the document's. -/
import Derived.Test.YtllgaikgpfionaaFnx1
import Derived.Test.YtllgaikgpfionaaMBits
namespace Go.Proofs.Ytllgaikgpfionaa.PV
open Go.RowKit Go.Proofs.YtllgaikgpfionaaW.PrintWords Go.Proofs.YtllgaikgpfionaaW.PrintLast Go.Proofs.YtllgaikgpfionaaW.PrintMore Go.Proofs.Ytllgaikgpfionaa.MB Go.Proofs.Ytllgaikgpfionaa.Fn

def pv (n : Nat) : List Int := if n < 128 then [(n : Int)] else ((n % 128 + 128 : Nat) : Int) :: pv (n / 128)
termination_by n
theorem pv_lt {n : Nat} (h : n < 128) : pv n = [(n : Int)] := by rw [pv, if_pos h]
theorem pv_ge {n : Nat} (h : ¬ n < 128) : pv n = ((n % 128 + 128 : Nat) : Int) :: pv (n / 128) := by rw [pv, if_neg h]
theorem pv_pos (n : Nat) : 0 < (pv n).length := by
  by_cases h : n < 128
  · rw [pv_lt h]; simp
  · rw [pv_ge h]; simp
theorem pv_len : ∀ (k n : Nat), n < 128 ^ (k + 1) → (pv n).length ≤ k + 1
  | 0, n, h => by rw [pv_lt (by simpa using h)]; simp
  | k + 1, n, h => by
    by_cases h1 : n < 128
    · rw [pv_lt h1]; simp
    · rw [pv_ge h1, List.length_cons]
      have := pv_len k (n / 128) (by rw [Nat.div_lt_iff_lt_mul (by decide)]; rwa [Nat.pow_succ] at h)
      omega
theorem pv_rng (n : Nat) : ∀ b ∈ pv n, 0 ≤ b ∧ b < 256 := by
  induction n using Nat.strongRecOn with
  | ind n ih =>
    by_cases h : n < 128
    · rw [pv_lt h]; intro b hb; rw [List.mem_singleton.1 hb]; omega
    · rw [pv_ge h]; intro b hb
      rcases List.mem_cons.1 hb with rfl | hb
      · omega
      · exact ih (n / 128) (by omega) b hb
theorem or128 : ∀ m : Nat, m < 256 → (m ||| 128) = m % 128 + 128 := by decide +kernel
theorem u8_or_128 (n : Nat) : Go.bits .or .u8 ((n : Int) % 256) 128 = ((n % 128 + 128 : Nat) : Int) := by
  have e : ((n : Int) % 256) = ((n % 256 : Nat) : Int) := by omega
  rw [e, show (128 : Int) = ((128 : Nat) : Int) from rfl, or_u8 _ 128 (Nat.mod_lt _ (by decide)) (by decide), or128 _ (Nat.mod_lt _ (by decide))]
  congr 2
  omega
theorem putvar_loop : ∀ (k n : Nat) (acc : List Int), n < 128 ^ (k + 1) → acc.length + k ≤ 1000 → bits_PutVar.l0 (k + 1) acc (n : Int) = some (strOfNums (acc ++ pv n), 0) := by
  intro k
  induction k with
  | zero =>
    intro n acc h hl
    simp only [bits_PutVar.l0]
    rw [if_neg (by omega), if_pos (by omega), pv_lt (by omega), show (n : Int) % 256 = (n : Int) from by omega]
  | succ k ih =>
    intro n acc h hl
    rw [bits_PutVar.l0]
    by_cases h1 : n < 128
    · rw [if_neg (by omega), if_pos (by omega), pv_lt h1, show (n : Int) % 256 = (n : Int) from by omega]
    · rw [if_pos (by omega), if_pos (by omega), u8_or_128]
      have e : (n : Int) / 128 = ((n / 128 : Nat) : Int) := by omega
      rw [e, ih (n / 128) _ (by rw [Nat.div_lt_iff_lt_mul (by decide)]; rwa [Nat.pow_succ] at h) (by rw [List.length_append, List.length_singleton]; omega), pv_ge h1, List.append_assoc]
      rfl
theorem putvar_neg (k : Nat) (n : Int) (h : n < 0) : bits_PutVar.f k n = some (⟨#[]⟩, 1) := by unfold bits_PutVar.f; rw [if_pos h]
theorem putvar_nat (n : Nat) (h : n < 2 ^ 63) : bits_PutVar.f 10 (n : Int) = some (strOfNums (pv n), 0) := by
  unfold bits_PutVar.f
  rw [if_neg (by omega), wraps_u64 _ (by omega) (by omega)]
  exact putvar_loop 9 n [] (Nat.lt_of_lt_of_le h (by decide)) (by simp)
theorem wrap64_cast (n : Nat) (h : n < 9223372036854775808) : wrap64 (n : Int) = n := by unfold wrap64; omega
theorem rputvar_loop : ∀ (k n : Nat) (acc : List Int), n < 128 ^ (k + 1) → n < 2 ^ 63 → acc.length + k ≤ 1000 → postroadref01_PutVar.l0 (k + 1) (n : Int) acc = some (strOfNums (acc ++ pv n), 0) := by
  intro k
  induction k with
  | zero =>
    intro n acc h _ hl
    simp only [postroadref01_PutVar.l0]
    rw [if_neg (by omega), if_pos (by omega), pv_lt (by omega), show (n : Int) % 256 = (n : Int) from by omega]
  | succ k ih =>
    intro n acc h h63 hl
    rw [postroadref01_PutVar.l0]
    by_cases h1 : n < 128
    · rw [if_neg (by omega), if_pos (by omega), pv_lt h1, show (n : Int) % 256 = (n : Int) from by omega]
    · rw [if_pos (by omega), if_pos (by omega)]
      have e : Int.tdiv (n : Int) 128 = ((n / 128 : Nat) : Int) := by rw [Int.tdiv_eq_ediv_of_nonneg (by omega)]; omega
      have e2 : Int.tmod (n : Int) 128 = ((n % 128 : Nat) : Int) := by rw [Int.tmod_eq_emod_of_nonneg (by omega)]; omega
      have e3 : ((n % 128 : Nat) : Int) + 128 = ((n % 128 + 128 : Nat) : Int) := by omega
      have e4 : ((n % 128 + 128 : Nat) : Int) % 256 = ((n % 128 + 128 : Nat) : Int) := by omega
      rw [e, e2, wrap64_cast _ (by omega), e3, wrap64_cast _ (by omega), e4, ih (n / 128) _ (by rw [Nat.div_lt_iff_lt_mul (by decide)]; rwa [Nat.pow_succ] at h) (by omega) (by rw [List.length_append, List.length_singleton]; omega), pv_ge h1, List.append_assoc]
      rfl
theorem rputvar_neg (k : Nat) (n : Int) (h : n < 0) : postroadref01_PutVar.f k n = some (⟨#[]⟩, 1) := by unfold postroadref01_PutVar.f; rw [if_pos h]
theorem rputvar_nat (n : Nat) (h : n < 2 ^ 63) : postroadref01_PutVar.f 10 (n : Int) = some (strOfNums (pv n), 0) := by
  unfold postroadref01_PutVar.f
  rw [if_neg (by omega)]
  exact rputvar_loop 9 n [] (Nat.lt_of_lt_of_le h (by decide)) h (by simp)

end Go.Proofs.Ytllgaikgpfionaa.PV
