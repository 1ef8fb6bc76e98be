/- The record layer in plain Lean: what Bytes, Rise and Of come to. The document's bytes of records; one record read. Records read back; the laws of layer 9, but Reads. Joins, Shifts, Cuts. -/
import Derived.Test.YtojnhklgfdfkcaaFB
import Derived.Test.YtojnhklgfdfkcaaGE
import Derived.Test.YtojnhklgfdfkcaaGA
import Derived.Test.YtojnhklgfdfkcaaHShRec
namespace Go.Proofs.Ytojnhklgfdfkcaa.PZ
open Go.RowKit Go.Proofs.YtojnhklgfdfkcaaW.PrintWords Go.Proofs.YtojnhklgfdfkcaaW.PrintLast Go.Proofs.YtojnhklgfdfkcaaW.PrintMore Go.Proofs.Ytojnhklgfdfkcaa.MB Go.Proofs.Ytojnhklgfdfkcaa.Fn Go.Proofs.Ytojnhklgfdfkcaa.PV Go.Proofs.Ytojnhklgfdfkcaa.RB Go.Proofs.Ytojnhklgfdfkcaa.RO
def rise : Int → List S63 → Bool
  | _, [] => true
  | b, r :: t => okRec r && (decide (b ≤ r.f0) && rise (r.f0 + 1) t)
def okBase (b : Int) : Bool := decide (0 ≤ b) && decide (b < 1099511627776)
def recsB (base : Int) : List S63 → ByteArray
  | [] => ⟨#[]⟩
  | r :: t => recB (r.f0 - base).toNat r ++ recsB base t
theorem ba_nil (a : ByteArray) : a ++ (⟨#[]⟩ : ByteArray) = a := by
  apply ByteArray.ext
  simp
theorem nil_ba (a : ByteArray) : (⟨#[]⟩ : ByteArray) ++ a = a := by
  apply ByteArray.ext
  simp
theorem rise_cons (b : Int) (r : S63) (t : List S63) : rise b (r :: t) = true ↔ okRec r = true ∧ b ≤ r.f0 ∧ rise (r.f0 + 1) t = true := by simp [rise]
theorem rgo_eq (base : Int) : ∀ (l : List S63) (next : Int) (acc : ByteArray), rgo base l next acc = if rise next l = true then (acc ++ recsB base l, 0) else (⟨#[]⟩, 90) := by
  intro l
  induction l with
  | nil => intro next acc; rw [rgo, if_pos (show rise next [] = true from rfl), recsB, ba_nil]
  | cons r t ih =>
    intro next acc
    rw [rgo]
    by_cases h : okRec r = true ∧ next ≤ r.f0
    · rw [if_pos h, ih, recsB, ByteArray.append_assoc]
      by_cases h2 : rise (r.f0 + 1) t = true
      · rw [if_pos h2, if_pos ((rise_cons _ _ _).2 ⟨h.1, h.2, h2⟩)]
      · rw [if_neg h2, if_neg (fun e => h2 ((rise_cons _ _ _).1 e).2.2)]
    · rw [if_neg h, if_neg (fun e => h ⟨((rise_cons _ _ _).1 e).1, ((rise_cons _ _ _).1 e).2.1⟩)]
theorem okBase_iff (b : Int) : okBase b = true ↔ 0 ≤ b ∧ b < 1099511627776 := by simp [okBase]
theorem recBytes_eq (l : List S63) (base : Int) (hl : l.length ≤ 1000000000) : recBytes l base = some (if okBase base = true ∧ rise base l = true then (recsB base l, 0) else (⟨#[]⟩, 90)) := by
  unfold recBytes
  by_cases h : base < 0 ∨ 1099511627776 ≤ base
  · rw [if_pos h, if_neg (fun e => by have := (okBase_iff base).1 e.1; omega)]
  · rw [if_neg h, if_pos hl, rgo_eq, nil_ba]
    have hb : okBase base = true := (okBase_iff base).2 (by omega)
    by_cases h2 : rise base l = true
    · rw [if_pos h2, if_pos ⟨hb, h2⟩]
    · rw [if_neg h2, if_neg (fun e => h2 e.2)]
theorem rise_mono (b c : Int) (l : List S63) (h : rise c l = true) (hb : b ≤ c) : rise b l = true := by
  cases l with
  | nil => rfl
  | cons r t =>
    obtain ⟨h1, h2, h3⟩ := (rise_cons _ _ _).1 h
    exact (rise_cons _ _ _).2 ⟨h1, by omega, h3⟩
theorem may_f (r : S63) : postroadref09_May.f r.f0 r.f1 r.f2 r.f3 = some (okRec r) := by
  unfold postroadref09_May.f
  have hiff := okRec_iff r
  have hn := toList_nil_iff r.f2
  by_cases h1 : r.f0 ≥ 0
  · rw [if_pos h1]
    by_cases h2 : r.f0 < 1099511627776
    · rw [if_pos h2]
      by_cases h3 : (r.f1.size : Int) ≤ 64
      · rw [if_pos h3]
        by_cases h4 : (r.f2.size : Int) ≤ 4096
        · rw [if_pos h4]
          by_cases h5 : r.f3 = true
          · rw [if_pos h5]
            congr 1
            rw [Bool.eq_iff_iff, beq_iff_eq, hiff, hn]
            exact ⟨fun h => ⟨h1, h2, by omega, by omega, fun _ => h⟩, fun h => h.2.2.2.2 h5⟩
          · rw [if_neg h5]
            congr 1
            exact (hiff.2 ⟨h1, h2, by omega, by omega, fun e => absurd e h5⟩).symm
        · rw [if_neg h4]
          congr 1
          exact (Bool.eq_false_iff.2 (fun e => by have := hiff.1 e; omega)).symm
      · rw [if_neg h3]
        congr 1
        exact (Bool.eq_false_iff.2 (fun e => by have := hiff.1 e; omega)).symm
    · rw [if_neg h2]
      congr 1
      exact (Bool.eq_false_iff.2 (fun e => by have := hiff.1 e; omega)).symm
  · rw [if_neg h1]
    congr 1
    exact (Bool.eq_false_iff.2 (fun e => by have := hiff.1 e; omega)).symm
theorem rd_at (l : List S63) (i : Nat) (h : i < l.length) : l.drop i = rd_T63 l (i : Int) :: l.drop (i + 1) := by
  rw [List.drop_eq_getElem_cons h]
  simp [rd_T63, List.getD_eq_getElem?_getD, h]
theorem w64n (i : Nat) (h : i ≤ 4611686018427387904) : wrap64 ((i : Int) + 1) = ((i + 1 : Nat) : Int) := by rw [wrap64_id _ (by omega) (by omega)]; rfl
/-- What must come next, at place i. -/
def nxt (base : Int) (l : List S63) (i : Nat) : Int := if i = 0 then base else (rd_T63 l ((i - 1 : Nat) : Int)).f0 + 1
theorem rise_loop (base : Int) (l : List S63) (hl : l.length ≤ 1000000000) : ∀ (d k i : Nat), d + i = l.length → d < k → base ≤ nxt base l i → postroadref09_Rise.l0 k l base (i : Int) = some (rise (nxt base l i) (l.drop i)) := by
  intro d
  induction d with
  | zero =>
    intro k i hi hk hb
    obtain ⟨k, rfl⟩ : ∃ m, k = m + 1 := ⟨k - 1, by omega⟩
    rw [postroadref09_Rise.l0, if_neg (by omega), List.drop_eq_nil_of_le (by omega)]
    rfl
  | succ d ih =>
    intro k i hi hk hb
    obtain ⟨k, rfl⟩ : ∃ m, k = m + 1 := ⟨k - 1, by omega⟩
    rw [postroadref09_Rise.l0, if_pos (by omega), if_pos (by omega), rd_at l i (by omega), may_f]
    obtain ⟨r, hr⟩ : ∃ r, rd_T63 l (i : Int) = r := ⟨_, rfl⟩
    have hn1 : nxt base l (i + 1) = r.f0 + 1 := by unfold nxt; rw [if_neg (by omega), Nat.add_sub_cancel, hr]
    rw [hr, Option.bind_some, rise]
    by_cases h1 : okRec r = true
    · rw [if_pos h1, h1, Bool.true_and]
      by_cases h2 : r.f0 < base
      · rw [if_pos h2]
        have : decide (nxt base l i ≤ r.f0) = false := by simp; omega
        rw [this, Bool.false_and]
      · rw [if_neg h2]
        have hih := ih k (i + 1) (by omega) (by omega) (by rw [hn1]; omega)
        rw [hn1] at hih
        by_cases h3 : (i : Int) > 0
        · have hw : wrap64 ((i : Int) - 1) = ((i - 1 : Nat) : Int) := by rw [wrap64_id _ (by omega) (by omega)]; omega
          rw [if_pos h3, hw, if_pos (by omega), if_pos (by omega)]
          have hni : nxt base l i = (rd_T63 l ((i - 1 : Nat) : Int)).f0 + 1 := by unfold nxt; rw [if_neg (by omega)]
          rw [hni]
          by_cases h4 : (rd_T63 l ((i - 1 : Nat) : Int)).f0 ≥ r.f0
          · rw [if_pos h4]
            have : decide ((rd_T63 l ((i - 1 : Nat) : Int)).f0 + 1 ≤ r.f0) = false := by simp; omega
            rw [this, Bool.false_and]
          · rw [if_neg h4, w64n i (by omega), hih]
            have : decide ((rd_T63 l ((i - 1 : Nat) : Int)).f0 + 1 ≤ r.f0) = true := by simp; omega
            rw [this, Bool.true_and]
        · have hi0 : i = 0 := by omega
          have hni : nxt base l i = base := by unfold nxt; rw [if_pos hi0]
          rw [if_neg h3, w64n i (by omega), hih, hni]
          have : decide (base ≤ r.f0) = true := by simp; omega
          rw [this, Bool.true_and]
    · rw [if_neg h1, Bool.eq_false_iff.2 h1, Bool.false_and]
theorem rise_f (l : List S63) (base : Int) (hl : l.length ≤ 1000000000) (k : Nat) (hk : l.length + 2 ≤ k) : postroadref09_Rise.f k l base = some (okBase base && rise base l) := by
  obtain ⟨k, rfl⟩ : ∃ m, k = m + 1 := ⟨k - 1, by omega⟩
  unfold postroadref09_Rise.f okBase
  by_cases h1 : base < 0
  · rw [if_pos h1, postroadref09_Rise.j0, if_pos rfl]
    have : decide (0 ≤ base) = false := by simp; omega
    rw [this, Bool.false_and, Bool.false_and]
  · rw [if_neg h1, postroadref09_Rise.j0]
    have h0 : decide (0 ≤ base) = true := by simp; omega
    by_cases h2 : base ≥ 1099511627776
    · have : decide (base < 1099511627776) = false := by simp; omega
      rw [decide_eq_true h2, if_pos rfl, this, Bool.and_false, Bool.false_and]
    · have : decide (base < 1099511627776) = true := by simp; omega
      rw [decide_eq_false h2, if_neg (by decide), this, h0, Bool.and_self, Bool.true_and]
      have := rise_loop base l hl l.length k 0 (by omega) (by omega) (by unfold nxt; rw [if_pos rfl]; exact Int.le_refl _)
      rw [show nxt base l 0 = base from by unfold nxt; rw [if_pos rfl], List.drop_zero] at this
      exact this
/-- The document's number. -/
theorem rnumber_f (n : Nat) (h : n < 2 ^ 63) (k : Nat) (hk : 10 ≤ k) : postroadref09_number.f k (n : Int) = some (vs n) := by
  unfold postroadref09_number.f
  have h1 : postroadref01_PutVar.f k (n : Int) = some (vs n, 0) := by
    have h0 := rputvar_nat n h
    obtain ⟨d, rfl⟩ : ∃ d, k = 10 + d := ⟨k - 10, by omega⟩
    clear hk
    induction d with
    | zero => exact h0
    | succ d ih => exact postroadref01_PutVar.mono _ _ _ ih
  rw [h1]
  rfl
end Go.Proofs.Ytojnhklgfdfkcaa.PZ
namespace Go.Proofs.Ytojnhklgfdfkcaa.PZ
open Go.RowKit Go.Proofs.YtojnhklgfdfkcaaW.PrintWords Go.Proofs.YtojnhklgfdfkcaaW.PrintLast Go.Proofs.YtojnhklgfdfkcaaW.PrintMore Go.Proofs.Ytojnhklgfdfkcaa.MB Go.Proofs.Ytojnhklgfdfkcaa.Fn Go.Proofs.Ytojnhklgfdfkcaa.PV Go.Proofs.Ytojnhklgfdfkcaa.RB Go.Proofs.Ytojnhklgfdfkcaa.RO
theorem bytesOf_app (s t : ByteArray) : bytesOf (s ++ t) = bytesOf s ++ bytesOf t := by simp [bytesOf]
theorem bytesOf_vs0 : bytesOf (vs 0) = [0] := by
  unfold vs
  rw [pv_lt (by decide)]
  rfl
theorem rbytes_loop (base : Int) (l : List S63) (hl : l.length ≤ 1000000000) (hb : 0 ≤ base) : ∀ (d k i : Nat) (acc : List Int) (next : Int), d + i = l.length → d + 10 < k → rise next (l.drop i) = true → base ≤ next → acc.length ≤ 4200 * i →
    postroadref09_Bytes.l0 k l base acc (i : Int) = some (strOfNums (acc ++ bytesOf (recsB base (l.drop i))), 0) := by
  intro d
  induction d with
  | zero =>
    intro k i acc next hi hk hr hn ha
    obtain ⟨k, rfl⟩ : ∃ m, k = m + 1 := ⟨k - 1, by omega⟩
    rw [postroadref09_Bytes.l0, if_neg (by omega), List.drop_eq_nil_of_le (by omega), recsB]
    rw [show bytesOf (⟨#[]⟩ : ByteArray) = [] from rfl, List.append_nil]
  | succ d ih =>
    intro k i acc next hi hk hr hn ha
    obtain ⟨k, rfl⟩ : ∃ m, k = m + 1 := ⟨k - 1, by omega⟩
    rw [rd_at l i (by omega)] at hr ⊢
    rw [postroadref09_Bytes.l0, if_pos (by omega), if_pos (by omega)]
    obtain ⟨r, hrr⟩ : ∃ r, rd_T63 l (i : Int) = r := ⟨_, rfl⟩
    rw [hrr] at hr ⊢
    obtain ⟨h1, h2, h3⟩ := (rise_cons _ _ _).1 hr
    obtain ⟨m1, m2, m3, m4, m5⟩ := (okRec_iff r).1 h1
    have hw1 : Aside0 (wrap64 (r.f0 - base) = ((r.f0 - base).toNat : Int)) := ⟨by rw [wrap64_id _ (by omega) (by omega)]; omega⟩
    have hw2 : Aside0 (wrap64 ((r.f2.size : Int) + 1) = ((r.f2.size + 1 : Nat) : Int)) := ⟨by rw [wrap64_id _ (by omega) (by omega)]; omega⟩
    obtain ⟨dd, hdd⟩ : ∃ x, (r.f0 - base).toNat = x := ⟨_, rfl⟩
    have hdl : dd < 2 ^ 63 := by omega
    have z1 := vs_size dd hdl
    have z2 := vs_size r.f1.size (by omega)
    have z3 := vs_size (r.f2.size + 1) (by omega)
    rw [hw1.out, hdd, rnumber_f dd hdl k (by omega), Option.bind_some, if_pos (by omega), Option.bind_some, rnumber_f r.f1.size (by omega) k (by omega), Option.bind_some,
      if_pos (by rw [List.length_append, bytesOf_length]; omega), Option.bind_some, if_pos (by rw [List.length_append, List.length_append, bytesOf_length, bytesOf_length]; omega), Option.bind_some, recsB, hdd]
    by_cases hg : r.f3 = true
    · rw [if_pos hg, if_pos (by simp only [List.length_append, bytesOf_length]; omega), w64n i (by omega)]
      rw [ih k (i + 1) _ (r.f0 + 1) (by omega) (by omega) h3 (by omega) (by simp only [List.length_append, bytesOf_length, List.length_singleton]; omega)]
      have e : bytesOf (recB dd r) = bytesOf (vs dd) ++ bytesOf (vs r.f1.size) ++ bytesOf r.f1 ++ [0] := by
        unfold recB
        rw [if_pos hg, bytesOf_app, bytesOf_app, bytesOf_app, bytesOf_vs0]
      rw [bytesOf_app, e]
      simp only [List.append_assoc]
    · rw [if_neg hg, hw2.out, rnumber_f (r.f2.size + 1) (by omega) k (by omega), Option.bind_some, if_pos (by simp only [List.length_append, bytesOf_length]; omega), Option.bind_some,
        if_pos (by simp only [List.length_append, bytesOf_length]; omega), w64n i (by omega)]
      rw [ih k (i + 1) _ (r.f0 + 1) (by omega) (by omega) h3 (by omega) (by simp only [List.length_append, bytesOf_length]; omega)]
      have e : bytesOf (recB dd r) = bytesOf (vs dd) ++ bytesOf (vs r.f1.size) ++ bytesOf r.f1 ++ (bytesOf (vs (r.f2.size + 1)) ++ bytesOf r.f2) := by
        unfold recB
        rw [if_neg hg, bytesOf_app, bytesOf_app, bytesOf_app, bytesOf_app]
      rw [bytesOf_app, e]
      simp only [List.append_assoc]
theorem rbytes_f (l : List S63) (base : Int) (hl : l.length ≤ 1000000000) (k : Nat) (hk : l.length + 11 ≤ k) : postroadref09_Bytes.f k l base = recBytes l base := by
  rw [recBytes_eq l base hl]
  unfold postroadref09_Bytes.f
  rw [rise_f l base hl k (by omega), Option.bind_some]
  by_cases h : okBase base = true ∧ rise base l = true
  · rw [if_pos h, if_pos (by rw [h.1, h.2]; rfl)]
    have := rbytes_loop base l hl ((okBase_iff base).1 h.1).1 l.length k 0 [] base (by omega) (by omega) (by rw [List.drop_zero]; exact h.2) (Int.le_refl _) (Nat.zero_le _)
    rw [List.drop_zero, List.nil_append, strOfNums_bytesOf] at this
    exact this
  · rw [if_neg h, if_neg (fun e => h (by simpa using e))]
/-- What was read stays read with more behind. -/
theorem vr_more (b c : Nat → Nat) (sz sz2 : Nat) (hsz : sz ≤ sz2) (hbc : ∀ i, i < sz → b i = c i) : ∀ (d i a : Nat), (vr b sz d i a).2.2 = 0 → vr c sz2 d i a = vr b sz d i a := by
  intro d
  induction d with
  | zero => intro i a h; rfl
  | succ d ih =>
    intro i a h
    rw [vr] at h ⊢
    rw [vr]
    by_cases h1 : sz ≤ i
    · rw [if_pos h1] at h; simp at h
    · rw [if_neg h1] at h ⊢
      rw [if_neg (by omega), ← hbc i (by omega)]
      by_cases h2 : b i < 128
      · rw [if_pos h2, if_pos h2]
      · rw [if_neg h2] at h ⊢
        rw [if_neg h2]
        exact ih _ _ h
theorem var_more (s t : ByteArray) (h : (var_ s).2.2 = 0) : var_ (s ++ t) = var_ s := by
  unfold var_ at h ⊢
  refine vr_more _ _ s.size (s ++ t).size (by rw [ByteArray.size_append]; omega) (fun i hi => ?_) 9 0 0 h
  rw [bt_append, if_pos hi]
theorem ba_ext {a b : ByteArray} (h : a.data.toList = b.data.toList) : a = b := ByteArray.ext (Array.ext' h)
theorem data_list (s : ByteArray) (i j : Nat) : (s.extract i j).data.toList = (s.data.toList.drop i).take (j - i) := by
  rw [ByteArray.data_extract, Array.toList_extract, List.extract_eq_take_drop]
theorem app_list (s t : ByteArray) : (s ++ t).data.toList = s.data.toList ++ t.data.toList := by rw [ByteArray.data_append, Array.toList_append]
theorem len_list (s : ByteArray) : s.data.toList.length = s.size := by rw [Array.length_toList]; rfl
theorem extract_app (s t : ByteArray) (k : Nat) (h : k ≤ s.size) : (s ++ t).extract k (s ++ t).size = s.extract k s.size ++ t := by
  apply ba_ext
  rw [data_list, app_list, app_list, data_list, List.drop_append_of_le_length (by rw [len_list]; exact h), List.take_of_length_le (by rw [List.length_append, List.length_drop, len_list, len_list, ByteArray.size_append]; omega),
    List.take_of_length_le (by rw [List.length_drop, len_list]; omega)]
theorem extract_app0 (s t : ByteArray) (k : Nat) (h : k ≤ s.size) : (s ++ t).extract 0 k = s.extract 0 k := by
  apply ba_ext
  rw [data_list, data_list, app_list, List.drop_zero, List.drop_zero, List.take_append_of_le_length (by rw [len_list]; omega)]
theorem extract_all (s : ByteArray) : s.extract 0 s.size = s := by
  apply ba_ext
  rw [data_list, List.drop_zero, List.take_of_length_le (by rw [len_list]; omega)]
theorem extract_end (s : ByteArray) : s.extract s.size s.size = ⟨#[]⟩ := by
  apply ba_ext
  rw [data_list, Nat.sub_self, List.take_zero]
theorem extract_mid (a t : ByteArray) : (a ++ t).extract a.size (a ++ t).size = t := by
  rw [extract_app a t a.size (Nat.le_refl _), extract_end, nil_ba]
theorem extract_head (a t : ByteArray) : (a ++ t).extract 0 a.size = a := by rw [extract_app0 a t a.size (Nat.le_refl _), extract_all]
/-- A number that stands there is read. -/
theorem nm_at (n : Nat) (h : n < 2 ^ 63) (t : ByteArray) (ok : Bool) (most : Int) (hm : (n : Int) ≤ most) : nm (vs n ++ t) ok most = ((n : Int), t, ok) := by
  unfold nm
  have hv : var_ (vs n ++ t) = ((n : Int), ((vs n).size : Int), 0) := var_pv n h t
  rw [hv, if_neg (by simp; omega)]
  simp only [Int.toNat_natCast]
  rw [extract_mid]
theorem tx_at (a t : ByteArray) : tx (a ++ t) true (a.size : Int) = (a, t, true) := by
  unfold tx
  rw [if_neg (by rw [ByteArray.size_append]; simp; omega), Int.toNat_natCast, extract_head, extract_mid]
theorem one_at (base : Int) (r : S63) (t : ByteArray) (h : okRec r = true) (hb : 0 ≤ base) (hr : base ≤ r.f0) : one base (recB (r.f0 - base).toNat r ++ t) = (r, t, true) := by
  obtain ⟨m1, m2, m3, m4, m5⟩ := (okRec_iff r).1 h
  have hd : base + ((r.f0 - base).toNat : Int) = r.f0 := by omega
  obtain ⟨d, hdd⟩ : ∃ d, (r.f0 - base).toNat = d := ⟨_, rfl⟩
  rw [hdd] at hd ⊢
  have hd2 : d < 1099511627776 := by omega
  unfold one recB
  by_cases hg : r.f3 = true
  · rw [if_pos hg, ByteArray.append_assoc, ByteArray.append_assoc, ByteArray.append_assoc, nm_at d (by omega) _ _ _ (by omega)]
    simp only
    rw [nm_at r.f1.size (by omega) _ _ _ (by omega)]
    simp only
    rw [tx_at]
    simp only
    rw [nm_at 0 (by decide) _ _ _ (by decide)]
    simp only
    rw [if_pos (by rfl), hd]
    have e : r.f2 = ⟨#[]⟩ := by
      apply ba_ext
      exact List.eq_nil_of_length_eq_zero (by rw [len_list]; exact m5 hg)
    rw [← e, ← hg]
  · rw [if_neg hg, ByteArray.append_assoc, ByteArray.append_assoc, ByteArray.append_assoc, ByteArray.append_assoc, nm_at d (by omega) _ _ _ (by omega)]
    simp only
    rw [nm_at r.f1.size (by omega) _ _ _ (by omega)]
    simp only
    rw [tx_at]
    simp only
    rw [nm_at (r.f2.size + 1) (by omega) _ _ _ (by omega)]
    simp only
    rw [if_neg (by omega), show ((r.f2.size + 1 : Nat) : Int) - 1 = (r.f2.size : Int) from by omega, tx_at]
    simp only
    rw [hd, ← Bool.eq_false_iff.2 hg]
theorem nm_more {s t : ByteArray} {ok : Bool} {most x : Int} {s1 : ByteArray} (h : nm s ok most = (x, s1, true)) : ok = true ∧ nm (s ++ t) ok most = (x, s1 ++ t, true) := by
  unfold nm at h ⊢
  by_cases hc : (var_ s).2.2 ≠ 0 ∨ most < (var_ s).1
  · rw [if_pos hc] at h; simp at h
  · rw [if_neg hc] at h
    have h0 : (var_ s).2.2 = 0 := Classical.not_not.1 (fun e => hc (Or.inl e))
    obtain ⟨q1, q2, q3⟩ := var_ok s h0
    rw [var_more s t h0, if_neg hc, extract_app s t _ (by omega)]
    simp only [Prod.mk.injEq] at h ⊢
    exact ⟨h.2.2, h.1, by rw [h.2.1], h.2.2⟩
theorem tx_more {s t : ByteArray} {ok : Bool} {n : Int} {a s1 : ByteArray} (hn : 0 ≤ n) (h : tx s ok n = (a, s1, true)) : ok = true ∧ tx (s ++ t) ok n = (a, s1 ++ t, true) := by
  unfold tx at h ⊢
  by_cases hc : ok = false ∨ (s.size : Int) < n
  · rw [if_pos hc] at h; simp at h
  · rw [if_neg hc] at h
    have h1 : ¬ (s.size : Int) < n := fun e => hc (Or.inr e)
    have h0 : ¬ ok = false := fun e => hc (Or.inl e)
    rw [if_neg (by intro e; rcases e with e | e; exact h0 e; rw [ByteArray.size_append] at e; omega), extract_app s t _ (by omega), extract_app0 s t _ (by omega)]
    simp only [Prod.mk.injEq] at h ⊢
    exact ⟨h.2.2, h.1, by rw [h.2.1], h.2.2⟩
theorem one_more (base : Int) (s t s1 : ByteArray) (r : S63) (h : one base s = (r, s1, true)) : one base (s ++ t) = (r, s1 ++ t, true) := by
  have hst := one_steps base s
  rw [h] at hst
  simp only at hst
  unfold one
  obtain ⟨o', ho'⟩ : ∃ o', o' = true := ⟨_, rfl⟩
  rw [← ho'] at hst ⊢
  cases hst with
  | @gone d n v a1 a2 a3 a4 key o1 o2 o3 o4 h1 h2 h3 h4 h5 =>
    subst ho'
    have e2 := nm_bd a1 o1 64 (by decide)
    rw [h2] at e2
    obtain ⟨rfl, k4⟩ := nm_more (t := t) h4
    obtain ⟨rfl, k3⟩ := tx_more (t := t) e2.1 h3
    obtain ⟨rfl, k2⟩ := nm_more (t := t) h2
    obtain ⟨_, k1⟩ := nm_more (t := t) h1
    rw [k1]
    simp only
    rw [k2]
    simp only
    rw [k3]
    simp only
    rw [k4]
    simp only
    rw [if_pos h5]
  | @here d n v a1 a2 a3 a4 a5 key val o1 o2 o3 o4 o5 h1 h2 h3 h4 h5 h6 =>
    subst ho'
    have e2 := nm_bd a1 o1 64 (by decide)
    rw [h2] at e2
    have e4 := nm_bd a3 o3 4097 (by decide)
    rw [h4] at e4
    obtain ⟨rfl, k6⟩ := tx_more (t := t) (by have := e4.1; simp only at this; omega) h6
    obtain ⟨rfl, k4⟩ := nm_more (t := t) h4
    obtain ⟨rfl, k3⟩ := tx_more (t := t) e2.1 h3
    obtain ⟨rfl, k2⟩ := nm_more (t := t) h2
    obtain ⟨_, k1⟩ := nm_more (t := t) h1
    rw [k1]
    simp only
    rw [k2]
    simp only
    rw [k3]
    simp only
    rw [k4]
    simp only
    rw [if_neg h5, k6]
end Go.Proofs.Ytojnhklgfdfkcaa.PZ
namespace Go.Proofs.Ytojnhklgfdfkcaa.PZ
open Go.RowKit Go.Proofs.YtojnhklgfdfkcaaW.PrintWords Go.Proofs.YtojnhklgfdfkcaaW.PrintLast Go.Proofs.YtojnhklgfdfkcaaW.PrintMore Go.Proofs.Ytojnhklgfdfkcaa.MB Go.Proofs.Ytojnhklgfdfkcaa.Fn Go.Proofs.Ytojnhklgfdfkcaa.PV Go.Proofs.Ytojnhklgfdfkcaa.RB Go.Proofs.Ytojnhklgfdfkcaa.RO
def lst : Int → List S63 → Int
  | n, [] => n
  | _, r :: t => lst (r.f0 + 1) t
theorem ofl_run (base : Int) (hb : 0 ≤ base) : ∀ (l : List S63) (k : Nat) (next n : Int) (out : List S63) (x : ByteArray), rise next l = true → base ≤ next → ((out.length + l.length : Nat) : Int) ≤ n →
    ofl base n (l.length + k) next out (recsB base l ++ x) = ofl base n k (lst next l) (out ++ l) x := by
  intro l
  induction l with
  | nil => intro k next n out x h hn hl; rw [recsB, nil_ba, List.append_nil, lst, List.length_nil, Nat.zero_add]
  | cons r t ih =>
    intro k next n out x h hn hl
    obtain ⟨h1, h2, h3⟩ := (rise_cons _ _ _).1 h
    rw [List.length_cons] at hl
    rw [List.length_cons, show t.length + 1 + k = (t.length + k) + 1 from by omega, ofl, if_pos (by omega), recsB, ByteArray.append_assoc, one_at base r _ h1 hb (by omega)]
    simp only
    rw [if_pos ⟨trivial, h1, h2⟩, ih k (r.f0 + 1) n (out ++ [r]) x h3 (by omega) (by rw [List.length_append, List.length_singleton]; omega), lst, List.append_assoc]
    rfl
theorem ofl_cut (base : Int) (hb : 0 ≤ base) : ∀ (l : List S63) (k : Nat) (next n : Int) (out : List S63) (p rest : ByteArray), rise next l = true → base ≤ next → ((out.length + l.length : Nat) : Int) = n → p ++ rest = recsB base l → rest.size ≠ 0 →
    ofl base n k next out p = ([], 90) := by
  intro l
  induction l with
  | nil =>
    intro k next n out p rest h hn hl hp hr
    have := congrArg ByteArray.size hp
    rw [ByteArray.size_append, recsB] at this
    have : p.size + rest.size = 0 := this
    omega
  | cons r t ih =>
    intro k next n out p rest h hn hl hp hr
    obtain ⟨h1, h2, h3⟩ := (rise_cons _ _ _).1 h
    cases k with
    | zero => rfl
    | succ k =>
      rw [List.length_cons] at hl
      rw [ofl, if_pos (by omega)]
      obtain ⟨⟨r', s', o'⟩, ho⟩ : ∃ v, one base p = v := ⟨_, rfl⟩
      rw [ho]
      simp only
      by_cases hc : o' = true ∧ okRec r' = true ∧ next ≤ r'.f0
      · rw [if_pos hc]
        obtain ⟨hc1, _, _⟩ := hc
        subst hc1
        have hm := one_more base p rest s' r' ho
        rw [hp, recsB, one_at base r _ h1 hb (by omega)] at hm
        simp only [Prod.mk.injEq] at hm
        obtain ⟨rfl, hs, _⟩ := hm
        exact ih k (r.f0 + 1) n (out ++ [r]) s' rest h3 (by omega) (by rw [List.length_append, List.length_singleton]; omega) hs.symm hr
      · rw [if_neg hc]
theorem recB_bd (d : Nat) (r : S63) (hd : d < 2 ^ 63) (h : okRec r = true) : 1 ≤ (recB d r).size ∧ (recB d r).size ≤ 27 * HR.shRec.wt r := by
  obtain ⟨h1, h2, h3, h4, h5⟩ := (okRec_iff r).1 h
  have a := vs_size d hd
  have a1 : 1 ≤ (vs d).size := by unfold vs; rw [size_strOfNums]; exact pv_pos d
  have b := vs_size r.f1.size (by omega)
  have c := vs_size (r.f2.size + 1) (by omega)
  have c0 := vs_size 0 (by decide)
  rw [HR.shRec_wt]
  unfold recB
  rw [ByteArray.size_append, ByteArray.size_append, ByteArray.size_append]
  split
  · omega
  · rw [ByteArray.size_append]; omega
theorem recs_bd (base : Int) (hb : 0 ≤ base) : ∀ (l : List S63) (next : Int), rise next l = true → l.length ≤ (recsB base l).size ∧ (recsB base l).size ≤ 27 * HR.Sh.wts HR.shRec.wt l := by
  intro l
  induction l with
  | nil => intro next h; exact ⟨Nat.zero_le _, Nat.zero_le _⟩
  | cons r t ih =>
    intro next h
    obtain ⟨h1, h2, h3⟩ := (rise_cons _ _ _).1 h
    have hm := (okRec_iff r).1 h1
    obtain ⟨i1, i2⟩ := ih _ h3
    obtain ⟨j1, j2⟩ := recB_bd (r.f0 - base).toNat r (by omega) h1
    rw [recsB, ByteArray.size_append, HR.Sh.wts_cons, List.length_cons]
    omega
theorem one_nil (base : Int) : (one base ⟨#[]⟩).2.2 = false := by
  have hst := one_steps base ⟨#[]⟩
  obtain ⟨⟨r, s', o'⟩, ho⟩ : ∃ v, one base ⟨#[]⟩ = v := ⟨_, rfl⟩
  rw [ho] at hst ⊢
  simp only at hst ⊢
  cases ho' : o' with
  | false => rfl
  | true =>
    exfalso
    have hz : nm ⟨#[]⟩ true 1099511627776 = (0, ⟨#[]⟩, false) := by kernel_rfl
    have g : ∀ (s1 : ByteArray) (o1 : Bool) (d : Int), nm ⟨#[]⟩ true 1099511627776 = (d, s1, o1) → o1 = true → False := fun s1 o1 d e e2 => by
      rw [hz] at e
      simp only [Prod.mk.injEq] at e
      rw [← e.2.2] at e2
      cases e2
    cases hst with
    | @gone d n v a1 a2 a3 a4 key o1 o2 o3 o4 h1 h2 h3 h4 h5 =>
      subst ho'
      obtain ⟨rfl, k4⟩ := nm_more (t := ⟨#[]⟩) h4
      have e2 := nm_bd a1 o1 64 (by decide)
      rw [h2] at e2
      obtain ⟨rfl, k3⟩ := tx_more (t := ⟨#[]⟩) e2.1 h3
      obtain ⟨rfl, k2⟩ := nm_more (t := ⟨#[]⟩) h2
      exact g _ _ _ h1 rfl
    | @here d n v a1 a2 a3 a4 a5 key val o1 o2 o3 o4 o5 h1 h2 h3 h4 h5 h6 =>
      subst ho'
      have e4 := nm_bd a3 o3 4097 (by decide)
      rw [h4] at e4
      obtain ⟨rfl, k6⟩ := tx_more (t := ⟨#[]⟩) (by have := e4.1; simp only at this; omega) h6
      obtain ⟨rfl, k4⟩ := nm_more (t := ⟨#[]⟩) h4
      have e2 := nm_bd a1 o1 64 (by decide)
      rw [h2] at e2
      obtain ⟨rfl, k3⟩ := tx_more (t := ⟨#[]⟩) e2.1 h3
      obtain ⟨rfl, k2⟩ := nm_more (t := ⟨#[]⟩) h2
      exact g _ _ _ h1 rfl
/-- What records' bytes are read as: with so much behind. -/
theorem recOf_at (base : Int) (l : List S63) (x : ByteArray) (hb : okBase base = true) (hr : rise base l = true) (hs : (recsB base l).size + x.size ≤ 1000000000) :
    recOf (recsB base l ++ x) base (l.length : Int) = some (if x.size = 0 then (l, 0) else ([], 90)) := by
  obtain ⟨b0, b1⟩ := (okBase_iff base).1 hb
  have hl := (recs_bd base b0 l base hr).1
  unfold recOf
  rw [if_neg (by omega), if_pos (by rw [ByteArray.size_append]; exact hs)]
  obtain ⟨k, hk⟩ : ∃ k, (recsB base l ++ x).size + 1 = l.length + (k + 1) := ⟨(recsB base l ++ x).size - l.length, by rw [ByteArray.size_append]; omega⟩
  rw [hk, ofl_run base b0 l (k + 1) base _ [] x hr (Int.le_refl _) (by simp), List.nil_append, ofl, if_neg (by omega)]
theorem recOf_more (base : Int) (l : List S63) (hb : okBase base = true) (hr : rise base l = true) (hs : (recsB base l).size ≤ 1000000000) :
    recOf (recsB base l) base ((l.length : Int) + 1) = some ([], 90) := by
  obtain ⟨b0, b1⟩ := (okBase_iff base).1 hb
  have hl := (recs_bd base b0 l base hr).1
  unfold recOf
  rw [if_neg (by omega), if_pos hs]
  obtain ⟨k, hk⟩ : ∃ k, (recsB base l).size + 1 = l.length + (k + 1) := ⟨(recsB base l).size - l.length, by omega⟩
  have h := ofl_run base b0 l (k + 1) base ((l.length : Int) + 1) [] ⟨#[]⟩ hr (Int.le_refl _) (by simp; omega)
  rw [ba_nil] at h
  rw [hk, h, List.nil_append, ofl, if_pos (by omega), one_nil, if_neg (by simp)]
theorem recOf_cut (base : Int) (l : List S63) (k : Nat) (hb : okBase base = true) (hr : rise base l = true) (hs : (recsB base l).size ≤ 1000000000) (hk : k < (recsB base l).size) :
    recOf ((recsB base l).extract 0 k) base (l.length : Int) = some ([], 90) := by
  obtain ⟨b0, b1⟩ := (okBase_iff base).1 hb
  have e1 := extract_size (recsB base l) 0 k (by omega)
  have e2 := extract_size (recsB base l) k (recsB base l).size (by omega)
  unfold recOf
  rw [if_neg (by omega), if_pos (by omega)]
  have hp : (recsB base l).extract 0 k ++ (recsB base l).extract k (recsB base l).size = recsB base l := by
    apply ba_ext
    rw [app_list, data_list, data_list, List.drop_zero, Nat.sub_zero, List.take_of_length_le (l := List.drop _ _) (by rw [List.length_drop, len_list]; omega), List.take_append_drop]
  rw [ofl_cut base b0 l _ base _ [] _ _ hr (Int.le_refl _) (by simp) hp (by omega)]
theorem same_loop (l : List S63) (hl : l.length ≤ 1000000000) : ∀ (d k i : Nat), d + i = l.length → d < k → postroadref09_Same.l0 k l l (i : Int) = some true := by
  intro d
  induction d with
  | zero =>
    intro k i hi hk
    obtain ⟨k, rfl⟩ : ∃ m, k = m + 1 := ⟨k - 1, by omega⟩
    rw [postroadref09_Same.l0, if_neg (by omega)]
  | succ d ih =>
    intro k i hi hk
    obtain ⟨k, rfl⟩ : ∃ m, k = m + 1 := ⟨k - 1, by omega⟩
    rw [postroadref09_Same.l0, if_pos (by omega), if_pos (by omega), if_pos (by omega), if_neg (by simp), w64n i (by omega)]
    exact ih k (i + 1) (by omega) (by omega)
theorem same_f (l : List S63) (hl : l.length ≤ 1000000000) (k : Nat) (hk : l.length < k) : postroadref09_Same.f k l l = some true := by
  unfold postroadref09_Same.f
  rw [if_pos rfl]
  exact same_loop l hl l.length k 0 (by omega) hk
end Go.Proofs.Ytojnhklgfdfkcaa.PZ
namespace Go.Proofs.Ytojnhklgfdfkcaa.PZ
open Go.RowKit Go.Proofs.YtojnhklgfdfkcaaW.PrintWords Go.Proofs.YtojnhklgfdfkcaaW.PrintLast Go.Proofs.YtojnhklgfdfkcaaW.PrintMore Go.Proofs.Ytojnhklgfdfkcaa.MB Go.Proofs.Ytojnhklgfdfkcaa.Fn Go.Proofs.Ytojnhklgfdfkcaa.PV Go.Proofs.Ytojnhklgfdfkcaa.RB Go.Proofs.Ytojnhklgfdfkcaa.RO
theorem and_any (n : Int) (m : Nat) (hm : m < 2 ^ 63) : ∃ k : Nat, Go.bits .and .i64 n m = k ∧ k ≤ m := by
  refine ⟨(BitVec.ofInt 64 n).toNat &&& m, ?_, Nat.and_le_right⟩
  have hle : (BitVec.ofInt 64 n).toNat &&& m ≤ m := Nat.and_le_right
  have e1 : (BitVec.ofInt 64 n &&& BitVec.ofInt 64 (m : Int)).toNat = (BitVec.ofInt 64 n).toNat &&& m := by
    rw [BitVec.toNat_and, BitVec.ofInt_natCast, BitVec.toNat_ofNat, Nat.mod_eq_of_lt (by omega)]
  show IntKind.i64.wrap ((BitVec.ofInt 64 n &&& BitVec.ofInt 64 (m : Int)).toNat : Int) = _
  rw [e1]
  exact wraps_i64 _ (Int.natCast_nonneg _) (cast_lt_two_pow (by omega))
theorem rise_app (l m : List S63) : ∀ b, rise b (l ++ m) = true ↔ rise b l = true ∧ rise (lst b l) m = true := by
  induction l with
  | nil => intro b; simp [lst, rise]
  | cons r t ih =>
    intro b
    rw [List.cons_append, rise_cons, rise_cons, ih, lst]
    constructor
    · rintro ⟨h1, h2, h3, h4⟩; exact ⟨⟨h1, h2, h3⟩, h4⟩
    · rintro ⟨⟨h1, h2, h3⟩, h4⟩; exact ⟨h1, h2, h3, h4⟩
theorem lst_ge (l : List S63) : ∀ b, rise b l = true → b ≤ lst b l := by
  induction l with
  | nil => intro b _; exact Int.le_refl _
  | cons r t ih =>
    intro b h
    obtain ⟨h1, h2, h3⟩ := (rise_cons _ _ _).1 h
    have := ih _ h3
    rw [lst]
    omega
theorem recsB_app (base : Int) (l m : List S63) : recsB base (l ++ m) = recsB base l ++ recsB base m := by
  induction l with
  | nil => rw [List.nil_append, recsB, nil_ba]
  | cons r t ih => rw [List.cons_append, recsB, recsB, ih, ByteArray.append_assoc]
theorem lst_last : ∀ (l : List S63) (b : Int), 0 < l.length → lst b l = (rd_T63 l ((l.length - 1 : Nat) : Int)).f0 + 1 := by
  intro l
  induction l with
  | nil => intro b h; exact absurd h (by simp)
  | cons r t ih =>
    intro b h
    rw [lst]
    cases t with
    | nil => rfl
    | cons r2 t2 =>
      rw [ih _ (by simp)]
      rfl
theorem rd_zero (r : S63) (t : List S63) : rd_T63 (r :: t) 0 = r := rfl
/-! RecordJoins -/
end Go.Proofs.Ytojnhklgfdfkcaa.PZ
