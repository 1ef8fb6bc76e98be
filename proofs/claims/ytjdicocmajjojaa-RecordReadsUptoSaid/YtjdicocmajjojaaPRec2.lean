/- The document's bytes of records; one record read. -/
import Derived.Test.YtjdicocmajjojaaPRec
import Derived.Test.YtjdicocmajjojaaPVar2
namespace Go.Proofs.Ytjdicocmajjojaa.PZ
open Go.RowKit Go.Proofs.YtjdicocmajjojaaW.PrintWords Go.Proofs.YtjdicocmajjojaaW.PrintLast Go.Proofs.YtjdicocmajjojaaW.PrintMore Go.Proofs.Ytjdicocmajjojaa.MB Go.Proofs.Ytjdicocmajjojaa.Fn Go.Proofs.Ytjdicocmajjojaa.PV Go.Proofs.Ytjdicocmajjojaa.RB Go.Proofs.Ytjdicocmajjojaa.RO
theorem bytesOf_app (s t : ByteArray) : bytesOf (s ++ t) = bytesOf s ++ bytesOf t := by simp [bytesOf]
theorem bytesOf_vs0 : bytesOf (vs 0) = [0] := by
  unfold vs
  rw [pv_lt (by decide)]
  rfl
theorem rbytes_loop (base : Int) (l : List S28) (hl : l.length ≤ 1000000000) (hb : 0 ≤ base) : ∀ (d k i : Nat) (acc : List Int) (next : Int), d + i = l.length → d + 10 < k → rise next (l.drop i) = true → base ≤ next → acc.length ≤ 4200 * i →
    postroadref09_Bytes.l0 k l base acc (i : Int) = some (strOfNums (acc ++ bytesOf (recsB base (l.drop i))), 0) := by
  intro d
  induction d with
  | zero =>
    intro k i acc next hi hk hr hn ha
    obtain ⟨k, rfl⟩ : ∃ m, k = m + 1 := ⟨k - 1, by omega⟩
    rw [postroadref09_Bytes.l0, if_neg (by omega), List.drop_eq_nil_of_le (by omega), recsB]
    rw [show bytesOf (⟨#[]⟩ : ByteArray) = [] from rfl, List.append_nil]
  | succ d ih =>
    intro k i acc next hi hk hr hn ha
    obtain ⟨k, rfl⟩ : ∃ m, k = m + 1 := ⟨k - 1, by omega⟩
    rw [rd_at l i (by omega)] at hr ⊢
    rw [postroadref09_Bytes.l0, if_pos (by omega), if_pos (by omega)]
    obtain ⟨r, hrr⟩ : ∃ r, rd_T28 l (i : Int) = r := ⟨_, rfl⟩
    rw [hrr] at hr ⊢
    obtain ⟨h1, h2, h3⟩ := (rise_cons _ _ _).1 hr
    obtain ⟨m1, m2, m3, m4, m5⟩ := (okRec_iff r).1 h1
    have hw1 : Aside0 (wrap64 (r.f0 - base) = ((r.f0 - base).toNat : Int)) := ⟨by rw [wrap64_id _ (by omega) (by omega)]; omega⟩
    have hw2 : Aside0 (wrap64 ((r.f2.size : Int) + 1) = ((r.f2.size + 1 : Nat) : Int)) := ⟨by rw [wrap64_id _ (by omega) (by omega)]; omega⟩
    obtain ⟨dd, hdd⟩ : ∃ x, (r.f0 - base).toNat = x := ⟨_, rfl⟩
    have hdl : dd < 2 ^ 63 := by omega
    have z1 := vs_size dd hdl
    have z2 := vs_size r.f1.size (by omega)
    have z3 := vs_size (r.f2.size + 1) (by omega)
    rw [hw1.out, hdd, rnumber_f dd hdl k (by omega), Option.bind_some, if_pos (by omega), Option.bind_some, rnumber_f r.f1.size (by omega) k (by omega), Option.bind_some,
      if_pos (by rw [List.length_append, bytesOf_length]; omega), Option.bind_some, if_pos (by rw [List.length_append, List.length_append, bytesOf_length, bytesOf_length]; omega), Option.bind_some, recsB, hdd]
    by_cases hg : r.f3 = true
    · rw [if_pos hg, if_pos (by simp only [List.length_append, bytesOf_length]; omega), w64n i (by omega)]
      rw [ih k (i + 1) _ (r.f0 + 1) (by omega) (by omega) h3 (by omega) (by simp only [List.length_append, bytesOf_length, List.length_singleton]; omega)]
      have e : bytesOf (recB dd r) = bytesOf (vs dd) ++ bytesOf (vs r.f1.size) ++ bytesOf r.f1 ++ [0] := by
        unfold recB
        rw [if_pos hg, bytesOf_app, bytesOf_app, bytesOf_app, bytesOf_vs0]
      rw [bytesOf_app, e]
      simp only [List.append_assoc]
    · rw [if_neg hg, hw2.out, rnumber_f (r.f2.size + 1) (by omega) k (by omega), Option.bind_some, if_pos (by simp only [List.length_append, bytesOf_length]; omega), Option.bind_some,
        if_pos (by simp only [List.length_append, bytesOf_length]; omega), w64n i (by omega)]
      rw [ih k (i + 1) _ (r.f0 + 1) (by omega) (by omega) h3 (by omega) (by simp only [List.length_append, bytesOf_length]; omega)]
      have e : bytesOf (recB dd r) = bytesOf (vs dd) ++ bytesOf (vs r.f1.size) ++ bytesOf r.f1 ++ (bytesOf (vs (r.f2.size + 1)) ++ bytesOf r.f2) := by
        unfold recB
        rw [if_neg hg, bytesOf_app, bytesOf_app, bytesOf_app, bytesOf_app]
      rw [bytesOf_app, e]
      simp only [List.append_assoc]
theorem rbytes_f (l : List S28) (base : Int) (hl : l.length ≤ 1000000000) (k : Nat) (hk : l.length + 11 ≤ k) : postroadref09_Bytes.f k l base = recBytes l base := by
  rw [recBytes_eq l base hl]
  unfold postroadref09_Bytes.f
  rw [rise_f l base hl k (by omega), Option.bind_some]
  by_cases h : okBase base = true ∧ rise base l = true
  · rw [if_pos h, if_pos (by rw [h.1, h.2]; rfl)]
    have := rbytes_loop base l hl ((okBase_iff base).1 h.1).1 l.length k 0 [] base (by omega) (by omega) (by rw [List.drop_zero]; exact h.2) (Int.le_refl _) (Nat.zero_le _)
    rw [List.drop_zero, List.nil_append, strOfNums_bytesOf] at this
    exact this
  · rw [if_neg h, if_neg (fun e => h (by simpa using e))]
/-- What was read stays read with more behind. -/
theorem vr_more (b c : Nat → Nat) (sz sz2 : Nat) (hsz : sz ≤ sz2) (hbc : ∀ i, i < sz → b i = c i) : ∀ (d i a : Nat), (vr b sz d i a).2.2 = 0 → vr c sz2 d i a = vr b sz d i a := by
  intro d
  induction d with
  | zero => intro i a h; rfl
  | succ d ih =>
    intro i a h
    rw [vr] at h ⊢
    rw [vr]
    by_cases h1 : sz ≤ i
    · rw [if_pos h1] at h; simp at h
    · rw [if_neg h1] at h ⊢
      rw [if_neg (by omega), ← hbc i (by omega)]
      by_cases h2 : b i < 128
      · rw [if_pos h2, if_pos h2]
      · rw [if_neg h2] at h ⊢
        rw [if_neg h2]
        exact ih _ _ h
theorem var_more (s t : ByteArray) (h : (var_ s).2.2 = 0) : var_ (s ++ t) = var_ s := by
  unfold var_ at h ⊢
  refine vr_more _ _ s.size (s ++ t).size (by rw [ByteArray.size_append]; omega) (fun i hi => ?_) 9 0 0 h
  rw [bt_append, if_pos hi]
theorem ba_ext {a b : ByteArray} (h : a.data.toList = b.data.toList) : a = b := ByteArray.ext (Array.ext' h)
theorem data_list (s : ByteArray) (i j : Nat) : (s.extract i j).data.toList = (s.data.toList.drop i).take (j - i) := by
  rw [ByteArray.data_extract, Array.toList_extract, List.extract_eq_take_drop]
theorem app_list (s t : ByteArray) : (s ++ t).data.toList = s.data.toList ++ t.data.toList := by rw [ByteArray.data_append, Array.toList_append]
theorem len_list (s : ByteArray) : s.data.toList.length = s.size := by rw [Array.length_toList]; rfl
theorem extract_app (s t : ByteArray) (k : Nat) (h : k ≤ s.size) : (s ++ t).extract k (s ++ t).size = s.extract k s.size ++ t := by
  apply ba_ext
  rw [data_list, app_list, app_list, data_list, List.drop_append_of_le_length (by rw [len_list]; exact h), List.take_of_length_le (by rw [List.length_append, List.length_drop, len_list, len_list, ByteArray.size_append]; omega),
    List.take_of_length_le (by rw [List.length_drop, len_list]; omega)]
theorem extract_app0 (s t : ByteArray) (k : Nat) (h : k ≤ s.size) : (s ++ t).extract 0 k = s.extract 0 k := by
  apply ba_ext
  rw [data_list, data_list, app_list, List.drop_zero, List.drop_zero, List.take_append_of_le_length (by rw [len_list]; omega)]
theorem extract_all (s : ByteArray) : s.extract 0 s.size = s := by
  apply ba_ext
  rw [data_list, List.drop_zero, List.take_of_length_le (by rw [len_list]; omega)]
theorem extract_end (s : ByteArray) : s.extract s.size s.size = ⟨#[]⟩ := by
  apply ba_ext
  rw [data_list, Nat.sub_self, List.take_zero]
theorem extract_mid (a t : ByteArray) : (a ++ t).extract a.size (a ++ t).size = t := by
  rw [extract_app a t a.size (Nat.le_refl _), extract_end, nil_ba]
theorem extract_head (a t : ByteArray) : (a ++ t).extract 0 a.size = a := by rw [extract_app0 a t a.size (Nat.le_refl _), extract_all]
/-- A number that stands there is read. -/
theorem nm_at (n : Nat) (h : n < 2 ^ 63) (t : ByteArray) (ok : Bool) (most : Int) (hm : (n : Int) ≤ most) : nm (vs n ++ t) ok most = ((n : Int), t, ok) := by
  unfold nm
  have hv : var_ (vs n ++ t) = ((n : Int), ((vs n).size : Int), 0) := var_pv n h t
  rw [hv, if_neg (by simp; omega)]
  simp only [Int.toNat_natCast]
  rw [extract_mid]
theorem tx_at (a t : ByteArray) : tx (a ++ t) true (a.size : Int) = (a, t, true) := by
  unfold tx
  rw [if_neg (by rw [ByteArray.size_append]; simp; omega), Int.toNat_natCast, extract_head, extract_mid]
theorem one_at (base : Int) (r : S28) (t : ByteArray) (h : okRec r = true) (hb : 0 ≤ base) (hr : base ≤ r.f0) : one base (recB (r.f0 - base).toNat r ++ t) = (r, t, true) := by
  obtain ⟨m1, m2, m3, m4, m5⟩ := (okRec_iff r).1 h
  have hd : base + ((r.f0 - base).toNat : Int) = r.f0 := by omega
  obtain ⟨d, hdd⟩ : ∃ d, (r.f0 - base).toNat = d := ⟨_, rfl⟩
  rw [hdd] at hd ⊢
  have hd2 : d < 1099511627776 := by omega
  unfold one recB
  by_cases hg : r.f3 = true
  · rw [if_pos hg, ByteArray.append_assoc, ByteArray.append_assoc, ByteArray.append_assoc, nm_at d (by omega) _ _ _ (by omega)]
    simp only
    rw [nm_at r.f1.size (by omega) _ _ _ (by omega)]
    simp only
    rw [tx_at]
    simp only
    rw [nm_at 0 (by decide) _ _ _ (by decide)]
    simp only
    rw [if_pos (by rfl), hd]
    have e : r.f2 = ⟨#[]⟩ := by
      apply ba_ext
      exact List.eq_nil_of_length_eq_zero (by rw [len_list]; exact m5 hg)
    rw [← e, ← hg]
  · rw [if_neg hg, ByteArray.append_assoc, ByteArray.append_assoc, ByteArray.append_assoc, ByteArray.append_assoc, nm_at d (by omega) _ _ _ (by omega)]
    simp only
    rw [nm_at r.f1.size (by omega) _ _ _ (by omega)]
    simp only
    rw [tx_at]
    simp only
    rw [nm_at (r.f2.size + 1) (by omega) _ _ _ (by omega)]
    simp only
    rw [if_neg (by omega), show ((r.f2.size + 1 : Nat) : Int) - 1 = (r.f2.size : Int) from by omega, tx_at]
    simp only
    rw [hd, ← Bool.eq_false_iff.2 hg]
theorem nm_more {s t : ByteArray} {ok : Bool} {most x : Int} {s1 : ByteArray} (h : nm s ok most = (x, s1, true)) : ok = true ∧ nm (s ++ t) ok most = (x, s1 ++ t, true) := by
  unfold nm at h ⊢
  by_cases hc : (var_ s).2.2 ≠ 0 ∨ most < (var_ s).1
  · rw [if_pos hc] at h; simp at h
  · rw [if_neg hc] at h
    have h0 : (var_ s).2.2 = 0 := Classical.not_not.1 (fun e => hc (Or.inl e))
    obtain ⟨q1, q2, q3⟩ := var_ok s h0
    rw [var_more s t h0, if_neg hc, extract_app s t _ (by omega)]
    simp only [Prod.mk.injEq] at h ⊢
    exact ⟨h.2.2, h.1, by rw [h.2.1], h.2.2⟩
theorem tx_more {s t : ByteArray} {ok : Bool} {n : Int} {a s1 : ByteArray} (hn : 0 ≤ n) (h : tx s ok n = (a, s1, true)) : ok = true ∧ tx (s ++ t) ok n = (a, s1 ++ t, true) := by
  unfold tx at h ⊢
  by_cases hc : ok = false ∨ (s.size : Int) < n
  · rw [if_pos hc] at h; simp at h
  · rw [if_neg hc] at h
    have h1 : ¬ (s.size : Int) < n := fun e => hc (Or.inr e)
    have h0 : ¬ ok = false := fun e => hc (Or.inl e)
    rw [if_neg (by intro e; rcases e with e | e; exact h0 e; rw [ByteArray.size_append] at e; omega), extract_app s t _ (by omega), extract_app0 s t _ (by omega)]
    simp only [Prod.mk.injEq] at h ⊢
    exact ⟨h.2.2, h.1, by rw [h.2.1], h.2.2⟩
theorem one_more (base : Int) (s t s1 : ByteArray) (r : S28) (h : one base s = (r, s1, true)) : one base (s ++ t) = (r, s1 ++ t, true) := by
  have hst := one_steps base s
  rw [h] at hst
  simp only at hst
  unfold one
  obtain ⟨o', ho'⟩ : ∃ o', o' = true := ⟨_, rfl⟩
  rw [← ho'] at hst ⊢
  cases hst with
  | @gone d n v a1 a2 a3 a4 key o1 o2 o3 o4 h1 h2 h3 h4 h5 =>
    subst ho'
    have e2 := nm_bd a1 o1 64 (by decide)
    rw [h2] at e2
    obtain ⟨rfl, k4⟩ := nm_more (t := t) h4
    obtain ⟨rfl, k3⟩ := tx_more (t := t) e2.1 h3
    obtain ⟨rfl, k2⟩ := nm_more (t := t) h2
    obtain ⟨_, k1⟩ := nm_more (t := t) h1
    rw [k1]
    simp only
    rw [k2]
    simp only
    rw [k3]
    simp only
    rw [k4]
    simp only
    rw [if_pos h5]
  | @here d n v a1 a2 a3 a4 a5 key val o1 o2 o3 o4 o5 h1 h2 h3 h4 h5 h6 =>
    subst ho'
    have e2 := nm_bd a1 o1 64 (by decide)
    rw [h2] at e2
    have e4 := nm_bd a3 o3 4097 (by decide)
    rw [h4] at e4
    obtain ⟨rfl, k6⟩ := tx_more (t := t) (by have := e4.1; simp only at this; omega) h6
    obtain ⟨rfl, k4⟩ := nm_more (t := t) h4
    obtain ⟨rfl, k3⟩ := tx_more (t := t) e2.1 h3
    obtain ⟨rfl, k2⟩ := nm_more (t := t) h2
    obtain ⟨_, k1⟩ := nm_more (t := t) h1
    rw [k1]
    simp only
    rw [k2]
    simp only
    rw [k3]
    simp only
    rw [k4]
    simp only
    rw [if_neg h5, k6]
end Go.Proofs.Ytjdicocmajjojaa.PZ
