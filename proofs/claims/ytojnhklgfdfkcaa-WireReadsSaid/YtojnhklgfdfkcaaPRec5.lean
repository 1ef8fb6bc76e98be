/- RecordReads: the document's reading of any bytes is the program's. -/
import Derived.Test.YtojnhklgfdfkcaaGF
import Derived.Test.YtojnhklgfdfkcaaFO
namespace Go.Proofs.Ytojnhklgfdfkcaa.PZ
open Go.RowKit Go.Proofs.YtojnhklgfdfkcaaW.PrintWords Go.Proofs.YtojnhklgfdfkcaaW.PrintLast Go.Proofs.YtojnhklgfdfkcaaW.PrintMore Go.Proofs.Ytojnhklgfdfkcaa.MB Go.Proofs.Ytojnhklgfdfkcaa.Fn Go.Proofs.Ytojnhklgfdfkcaa.PV Go.Proofs.Ytojnhklgfdfkcaa.RB Go.Proofs.Ytojnhklgfdfkcaa.RO
theorem vr_lt (b : Nat → Nat) (sz : Nat) : ∀ (d i a : Nat), d + i = 9 → a < 2 ^ (7 * i) → (vr b sz d i a).1 < 9223372036854775808 := by
  intro d
  induction d with
  | zero => intro i a _ _; exact (by decide : (0 : Int) < 9223372036854775808)
  | succ d ih =>
    intro i a hi ha
    have hst := add_lt_step (c := b i % 128) ha (Nat.mod_lt _ (by decide))
    rw [vr]
    split
    · exact (by decide : (0 : Int) < 9223372036854775808)
    · split
      · split
        · exact (by decide : (0 : Int) < 9223372036854775808)
        · have := pow_le_63 (i := i) (by omega)
          show ((a + b i % 128 * 2 ^ (7 * i) : Nat) : Int) < _
          have h2 : a + b i % 128 * 2 ^ (7 * i) < 9223372036854775808 := Nat.lt_of_lt_of_le hst this
          omega
      · exact ih (i + 1) _ (by omega) hst
theorem var_lt (s : ByteArray) : (var_ s).1 < 9223372036854775808 := vr_lt _ _ 9 0 0 rfl (by decide)
theorem vr_zero (b : Nat → Nat) (sz : Nat) : ∀ (d i a : Nat), (vr b sz d i a).2.2 = 0 → (vr b sz d i a).1 = 0 → i = 0 ∧ b 0 = 0 ∧ 0 < sz := by
  intro d
  induction d with
  | zero => intro i a h; simp [vr] at h
  | succ d ih =>
    intro i a h h0
    rw [vr] at h h0
    by_cases h1 : sz ≤ i
    · rw [if_pos h1] at h; simp at h
    · rw [if_neg h1] at h h0
      by_cases h2 : b i < 128
      · rw [if_pos h2] at h h0
        by_cases h3 : b i = 0 ∧ 0 < i
        · rw [if_pos h3] at h; simp at h
        · rw [if_neg h3] at h h0
          have h4 : a + b i % 128 * 2 ^ (7 * i) = 0 := by
            have h0' : ((a + b i % 128 * 2 ^ (7 * i) : Nat) : Int) = 0 := h0
            exact_mod_cast h0'
          have h5 : b i % 128 * 2 ^ (7 * i) = 0 := by omega
          have h6 : b i % 128 = 0 := by
            rcases Nat.mul_eq_zero.1 h5 with h | h
            · exact h
            · exact absurd h (Nat.ne_of_gt (Nat.two_pow_pos _))
          have h7 : b i = 0 := by omega
          have h8 : i = 0 := by
            rcases Nat.eq_zero_or_pos i with h | h
            · exact h
            · exact absurd ⟨h7, h⟩ h3
          subst h8
          exact ⟨rfl, h7, by omega⟩
      · rw [if_neg h2] at h h0
        have := (ih (i + 1) _ h h0).1
        omega
theorem bt_extract (s : ByteArray) (q e i : Nat) (he : e ≤ s.size) (hi : q + i < e) : bt (s.extract q e) (i : Int) = bt s ((q + i : Nat) : Int) := by
  rw [← rd_bytesOf, ← rd_bytesOf]
  have h : bytesOf (s.extract q e) = ((bytesOf s).drop q).take (e - q) := by
    unfold bytesOf
    rw [ByteArray.data_extract, Array.toList_extract, List.extract_eq_take_drop, List.map_take, List.map_drop]
  rw [h]
  unfold rd
  rw [Int.toNat_natCast, Int.toNat_natCast, List.getD_eq_getElem?_getD, List.getD_eq_getElem?_getD, List.getElem?_take, if_pos (by omega), List.getElem?_drop]
theorem var_gone (s : ByteArray) (h0 : 0 < s.size) (h : bt s 0 = 0) : var_ s = (0, 1, 0) := by
  unfold var_
  rw [vr, if_neg (by omega)]
  have : bt s ((0 : Nat) : Int) = 0 := h
  rw [this]
  rfl
theorem var_gone' (s : ByteArray) (h : (var_ s).2.2 = 0) (h0 : (var_ s).1 = 0) : 0 < s.size ∧ bt s 0 = 0 := by
  obtain ⟨_, h2, h3⟩ := vr_zero _ _ 9 0 0 h h0
  obtain ⟨b, hb, _⟩ := bt_nat s ((0 : Nat) : Int)
  have hb' : bt s 0 = (b : Int) := hb
  have h2' : (bt s 0).toNat = 0 := h2
  rw [hb'] at h2' ⊢
  exact ⟨h3, by omega⟩
theorem ext_ext (S : ByteArray) (a k : Nat) (h : a + k ≤ S.size) : (S.extract a S.size).extract k (S.extract a S.size).size = S.extract (a + k) S.size := by
  apply ba_ext
  have e := extract_size S a S.size (Nat.le_refl _)
  rw [data_list, data_list, data_list, e]
  rw [List.take_of_length_le (l := List.drop a _) (by rw [List.length_drop, len_list]; omega), List.drop_drop, List.take_of_length_le (by rw [List.length_drop, len_list]; omega), List.take_of_length_le (by rw [List.length_drop, len_list]; omega)]
theorem ext_ext0 (S : ByteArray) (a n : Nat) (h : a + n ≤ S.size) : (S.extract a S.size).extract 0 n = S.extract a (a + n) := by
  apply ba_ext
  rw [data_list, data_list, data_list, List.drop_zero, Nat.sub_zero, Nat.add_sub_cancel_left, List.take_of_length_le (l := List.drop a _) (by rw [List.length_drop, len_list]; omega)]
/-- Every step of a record that is read went well. -/
theorem one_chain {base : Int} {s s' : ByteArray} {r : S63} (h : one base s = (r, s', true)) : ∃ d nk v s1 s2 key s3 s4, nm s true 1099511627776 = (d, s1, true) ∧ nm s1 true 64 = (nk, s2, true) ∧ tx s2 true nk = (key, s3, true) ∧ nm s3 true 4097 = (v, s4, true) ∧
    (v = 0 ∨ ∃ val, v ≠ 0 ∧ tx s4 true (v - 1) = (val, s', true)) ∧ r.f0 = base + d := by
  have hst := one_steps base s
  rw [h] at hst
  simp only at hst
  obtain ⟨o', ho'⟩ : ∃ o', o' = true := ⟨_, rfl⟩
  rw [← ho'] at hst
  cases hst with
  | @gone d n v a1 a2 a3 a4 key o1 o2 o3 o4 h1 h2 h3 h4 h5 =>
    subst ho'
    have e2 := nm_bd a1 o1 64 (by decide)
    rw [h2] at e2
    obtain ⟨rfl, _⟩ := nm_more (t := ⟨#[]⟩) h4
    obtain ⟨rfl, _⟩ := tx_more (t := ⟨#[]⟩) e2.1 h3
    obtain ⟨rfl, _⟩ := nm_more (t := ⟨#[]⟩) h2
    exact ⟨_, _, _, _, _, _, _, _, h1, h2, h3, h4, Or.inl h5, rfl⟩
  | @here d n v a1 a2 a3 a4 a5 key val o1 o2 o3 o4 o5 h1 h2 h3 h4 h5 h6 =>
    subst ho'
    have e2 := nm_bd a1 o1 64 (by decide)
    rw [h2] at e2
    have e4 := nm_bd a3 o3 4097 (by decide)
    rw [h4] at e4
    obtain ⟨rfl, _⟩ := tx_more (t := ⟨#[]⟩) (by have := e4.1; simp only at this; omega) h6
    obtain ⟨rfl, _⟩ := nm_more (t := ⟨#[]⟩) h4
    obtain ⟨rfl, _⟩ := tx_more (t := ⟨#[]⟩) e2.1 h3
    obtain ⟨rfl, _⟩ := nm_more (t := ⟨#[]⟩) h2
    exact ⟨_, _, _, _, _, _, _, _, h1, h2, h3, h4, Or.inr ⟨_, h5, h6⟩, rfl⟩
theorem nm_true {s s1 : ByteArray} {most x : Int} (h : nm s true most = (x, s1, true)) : (var_ s).2.2 = 0 ∧ (var_ s).1 ≤ most ∧ x = (var_ s).1 ∧ s1 = s.extract (var_ s).2.1.toNat s.size := by
  unfold nm at h
  by_cases hc : (var_ s).2.2 ≠ 0 ∨ most < (var_ s).1
  · rw [if_pos hc] at h; simp at h
  · rw [if_neg hc] at h
    simp only [Prod.mk.injEq] at h
    exact ⟨Classical.not_not.1 (fun e => hc (Or.inl e)), by have : ¬ most < (var_ s).1 := fun e => hc (Or.inr e); omega, h.1.symm, h.2.1.symm⟩
theorem nm_yes {s : ByteArray} {most d k : Int} (hv : var_ s = (d, k, 0)) (hm : d ≤ most) : nm s true most = (d, s.extract k.toNat s.size, true) := by
  unfold nm
  rw [hv, if_neg (by simp; omega)]
theorem tx_true {s s1 a : ByteArray} {n : Int} (h : tx s true n = (a, s1, true)) : n ≤ s.size := by
  unfold tx at h
  by_cases hc : true = false ∨ (s.size : Int) < n
  · rw [if_pos hc] at h; simp at h
  · have : ¬ (s.size : Int) < n := fun e => hc (Or.inr e)
    omega
theorem tx_yes {s : ByteArray} {n : Int} (h : n ≤ s.size) : tx s true n = (s.extract 0 n.toNat, s.extract n.toNat s.size, true) := by
  unfold tx
  rw [if_neg (by simp; omega)]
theorem rvar_k (s : ByteArray) (hs : s.size ≤ 1000000000000000) (k : Nat) (hk : 10 ≤ k) : postroadref01_Var.f k s = some (var_ s) := by
  have h0 := rvar_f s hs
  obtain ⟨d, rfl⟩ : ∃ d, k = 10 + d := ⟨k - 10, by omega⟩
  clear hk
  induction d with
  | zero => exact h0
  | succ d ih => exact postroadref01_Var.mono _ _ _ ih
/-- The document's text at a place. -/
theorem rtext_f (S : ByteArray) (hS : S.size ≤ 1000000000) (a : Nat) (ha : a ≤ S.size) (less : Int) (hl0 : 0 ≤ less) (hl1 : less ≤ 1) (k : Nat) (hk : 10 ≤ k) (n m e : Int) (hv : var_ (S.extract a S.size) = (n, m, e)) :
    postroadref09_text.f k S (a : Int) less = some (if e ≠ 0 ∨ n < less ∨ (S.size : Int) - a - m < n - less then ((⟨#[]⟩ : ByteArray), -1) else (S.extract (a + m.toNat) (a + m.toNat + (n - less).toNat), (a : Int) + m + (n - less))) := by
  have he := extract_size S a S.size (Nat.le_refl _)
  have hlt := var_lt (S.extract a S.size)
  have hok := var_ok (S.extract a S.size)
  rw [hv] at hlt hok
  simp only at hlt hok
  unfold postroadref09_text.f
  rw [if_pos (by omega), if_pos (by omega), Int.toNat_natCast, rvar_k _ (by omega) k hk, hv, Option.bind_some]
  by_cases he0 : e = 0
  · obtain ⟨q1, q2, q3⟩ := hok he0
    rw [if_pos he0]
    by_cases h1 : n < less
    · rw [if_pos h1, if_pos (Or.inr (Or.inl h1))]
    · rw [if_neg h1]
      have w1 : wrap64 (n - less) = n - less := wrap64_id _ (by omega) (by omega)
      have w2 : wrap64 ((S.size : Int) - a) = (S.size : Int) - a := wrap64_id _ (by omega) (by omega)
      have w3 : wrap64 ((S.size : Int) - a - m) = (S.size : Int) - a - m := wrap64_id _ (by omega) (by omega)
      simp only
      rw [w1, w2, w3]
      clear w1 w2 w3
      by_cases h2 : n - less > (S.size : Int) - a - m
      · rw [if_pos h2, if_pos (Or.inr (Or.inr h2))]
      · have w4 : wrap64 ((a : Int) + m) = (a : Int) + m := wrap64_id _ (by omega) (by omega)
        have w5 : wrap64 ((a : Int) + m + n) = (a : Int) + m + n := wrap64_id _ (by omega) (by omega)
        have w6 : wrap64 ((a : Int) + m + n - less) = (a : Int) + m + n - less := wrap64_id _ (by omega) (by omega)
        rw [if_neg h2, w4, w5, w6]
        clear w4 w5 w6
        rw [if_pos (by omega), if_pos (by omega), if_pos (by omega), if_neg (by omega)]
        congr 2
        · congr 1 <;> omega
        · omega
  · rw [if_neg he0, if_pos (Or.inl he0)]
theorem rise_snoc (b : Int) (out : List S63) (r : S63) (h : rise b out = true) : rise b (out ++ [r]) = (okRec r && decide (lst b out ≤ r.f0)) := by
  rw [Bool.eq_iff_iff, rise_app, Bool.and_eq_true, decide_eq_true_iff, rise_cons]
  exact ⟨fun e => ⟨e.2.1, e.2.2.1⟩, fun e => ⟨h, e.1, e.2, rfl⟩⟩
theorem lst_snoc (b : Int) (out : List S63) (r : S63) : lst b (out ++ [r]) = r.f0 + 1 := by
  induction out generalizing b with
  | nil => rfl
  | cons x t ih => rw [List.cons_append, lst]; exact ih _
theorem ofl_len (base n : Int) : ∀ (k : Nat) (next : Int) (out : List S63) (s : ByteArray), (ofl base n k next out s).1.length ≤ out.length + k := by
  intro k
  induction k with
  | zero => intro next out s; exact Nat.zero_le _
  | succ k ih =>
    intro next out s
    rw [ofl]
    split
    · split
      · have := ih ((one base s).1.f0 + 1) (out ++ [(one base s).1]) (one base s).2.1
        rw [List.length_append, List.length_singleton] at this
        omega
      · exact Nat.zero_le _
    · split
      · show out.length ≤ _; omega
      · exact Nat.zero_le _
end Go.Proofs.Ytojnhklgfdfkcaa.PZ
