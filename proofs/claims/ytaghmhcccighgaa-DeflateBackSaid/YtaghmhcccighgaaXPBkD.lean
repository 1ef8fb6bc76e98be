/- How long the fixed words are at most; plain. -/
import Derived.Test.YtaghmhcccighgaaK21
namespace Go.Proofs.Ytaghmhcccighgaa.DF
open Go.RowKit Go.Proofs.YtaghmhcccighgaaW.PrintWords Go.Proofs.Ytaghmhcccighgaa.MB Go.Proofs.Ytaghmhcccighgaa.Fn Go.Proofs.Ytaghmhcccighgaa.HF Go.Proofs.Ytaghmhcccighgaa.RT Go.Proofs.Ytaghmhcccighgaa.RT.Rd Go.Proofs.Ytaghmhcccighgaa.HP Go.Proofs.Ytaghmhcccighgaa.HI Go.Proofs.Ytaghmhcccighgaa.IW
theorem fx_a : ∀ k : Nat, k < 288 → (rd fixL (k : Int)).toNat ≤ 9 := by decide +kernel
theorem fx_b : ∀ k : Nat, k < 29 → (rd fixL ((k + 257 : Nat) : Int)).toNat ≤ 8 := by decide +kernel
theorem fx_c : ∀ k : Nat, k < 30 → (rd fixD (k : Int)).toNat ≤ 5 := by decide +kernel
theorem fx_3 : (lenS 3).2.2 = 0 := by decide +kernel
theorem fx_l : fixL.length = 288 := by decide +kernel
theorem fix_symW {x : Nat × Nat} (h : SymV x) : (symW fixL fixD30 x).length ≤ 9 * stepOf x := by
  obtain ⟨hi, he⟩ := fix_in2 h
  rw [he]
  unfold symW stepOf
  rcases hi with ⟨h0, h1⟩ | ⟨h0, ⟨h3, h258, hf, h32⟩, h4, h5⟩
  · rw [if_pos h0, if_pos h0, (wd_len fixL_ok h1).1]
    have h2 := h1.2.1
    rw [fx_l] at h2
    have := fx_a x.2 (by omega)
    omega
  · rw [if_neg h0, if_neg h0]
    simp only [List.length_append, bitsOf_length]
    rw [(wd_len fixL_ok h4).1, (wd_len fixD_ok h5).1]
    have e1 := lenS_bd h3 h258
    have e2 := dis_spec x.1 hf h32
    have e3 := fx_b ((lenS x.2).1 - 257) (by omega)
    rw [show (lenS x.2).1 - 257 + 257 = (lenS x.2).1 by omega] at e3
    have e4 := fx_c (disS x.1).1 e2.1
    have e5 := e1.2.2.1
    have e6 := e2.2.2.1
    by_cases h33 : x.2 = 3
    · rw [h33] at e3 e5 ⊢
      have := fx_3
      omega
    · omega
theorem fix_all {s : ByteArray} : ∀ (xs : List (Nat × Nat)) (a b : Nat), a ≤ s.size → (∀ x ∈ xs, SymV x) → TokTo s a xs b → (symsW fixL fixD30 xs).length + 9 * a ≤ 9 * b
  | [], a, b, _, _, h => by
    have h1 : a = b := h
    subst h1
    show 0 + 9 * a ≤ 9 * a
    omega
  | x :: r, a, b, ha, hv, h => by
    have h1 := fix_all r _ b (symOk_step h.2.1 h.1) (fun y hy => hv y (List.mem_cons_of_mem _ hy)) h.2.2
    have h2 := fix_symW (hv x (List.mem_cons_self))
    unfold symsW at h1 ⊢
    rw [List.flatMap_cons, List.length_append]
    omega
/-- How long Fixed's text is at most. -/
theorem fix_size {s z : ByteArray} (h : STold z (FixB (symsOf s))) : 8 * z.size ≤ 9 * s.size + 17 := by
  have h1 := h.1
  have h2 := fix_all (symsOf s) 0 s.size (Nat.zero_le _) (syms_v s) (tok_syms s)
  have h3 : (wd fixL 256).length ≤ 7 := by decide +kernel
  unfold FixB at h1
  rw [List.length_append, List.length_append, bitsOf_length] at h1
  omega
end Go.Proofs.Ytaghmhcccighgaa.DF
