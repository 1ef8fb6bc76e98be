/- The record layer in plain Lean: what Bytes, Rise and Of come to. -/
import Derived.Test.YtllgaikgpfionaaFL
import Derived.Test.YtllgaikgpfionaaPVar
namespace Go.Proofs.Ytllgaikgpfionaa.PZ
open Go.RowKit Go.Proofs.YtllgaikgpfionaaW.PrintWords Go.Proofs.YtllgaikgpfionaaW.PrintLast Go.Proofs.YtllgaikgpfionaaW.PrintMore Go.Proofs.Ytllgaikgpfionaa.MB Go.Proofs.Ytllgaikgpfionaa.Fn Go.Proofs.Ytllgaikgpfionaa.PV Go.Proofs.Ytllgaikgpfionaa.RB
def rise : Int → List S48 → Bool
  | _, [] => true
  | b, r :: t => okRec r && (decide (b ≤ r.f0) && rise (r.f0 + 1) t)
def okBase (b : Int) : Bool := decide (0 ≤ b) && decide (b < 1099511627776)
def recsB (base : Int) : List S48 → ByteArray
  | [] => ⟨#[]⟩
  | r :: t => recB (r.f0 - base).toNat r ++ recsB base t
theorem ba_nil (a : ByteArray) : a ++ (⟨#[]⟩ : ByteArray) = a := by
  apply ByteArray.ext
  simp
theorem nil_ba (a : ByteArray) : (⟨#[]⟩ : ByteArray) ++ a = a := by
  apply ByteArray.ext
  simp
theorem rise_cons (b : Int) (r : S48) (t : List S48) : rise b (r :: t) = true ↔ okRec r = true ∧ b ≤ r.f0 ∧ rise (r.f0 + 1) t = true := by simp [rise]
theorem rgo_eq (base : Int) : ∀ (l : List S48) (next : Int) (acc : ByteArray), rgo base l next acc = if rise next l = true then (acc ++ recsB base l, 0) else (⟨#[]⟩, 90) := by
  intro l
  induction l with
  | nil => intro next acc; rw [rgo, if_pos (show rise next [] = true from rfl), recsB, ba_nil]
  | cons r t ih =>
    intro next acc
    rw [rgo]
    by_cases h : okRec r = true ∧ next ≤ r.f0
    · rw [if_pos h, ih, recsB, ByteArray.append_assoc]
      by_cases h2 : rise (r.f0 + 1) t = true
      · rw [if_pos h2, if_pos ((rise_cons _ _ _).2 ⟨h.1, h.2, h2⟩)]
      · rw [if_neg h2, if_neg (fun e => h2 ((rise_cons _ _ _).1 e).2.2)]
    · rw [if_neg h, if_neg (fun e => h ⟨((rise_cons _ _ _).1 e).1, ((rise_cons _ _ _).1 e).2.1⟩)]
theorem okBase_iff (b : Int) : okBase b = true ↔ 0 ≤ b ∧ b < 1099511627776 := by simp [okBase]
theorem recBytes_eq (l : List S48) (base : Int) (hl : l.length ≤ 1000000000) : recBytes l base = some (if okBase base = true ∧ rise base l = true then (recsB base l, 0) else (⟨#[]⟩, 90)) := by
  unfold recBytes
  by_cases h : base < 0 ∨ 1099511627776 ≤ base
  · rw [if_pos h, if_neg (fun e => by have := (okBase_iff base).1 e.1; omega)]
  · rw [if_neg h, if_pos hl, rgo_eq, nil_ba]
    have hb : okBase base = true := (okBase_iff base).2 (by omega)
    by_cases h2 : rise base l = true
    · rw [if_pos h2, if_pos ⟨hb, h2⟩]
    · rw [if_neg h2, if_neg (fun e => h2 e.2)]
theorem rise_mono (b c : Int) (l : List S48) (h : rise c l = true) (hb : b ≤ c) : rise b l = true := by
  cases l with
  | nil => rfl
  | cons r t =>
    obtain ⟨h1, h2, h3⟩ := (rise_cons _ _ _).1 h
    exact (rise_cons _ _ _).2 ⟨h1, by omega, h3⟩
theorem may_f (r : S48) : postroadref09_May.f r.f0 r.f1 r.f2 r.f3 = some (okRec r) := by
  unfold postroadref09_May.f
  have hiff := okRec_iff r
  have hn := toList_nil_iff r.f2
  by_cases h1 : r.f0 ≥ 0
  · rw [if_pos h1]
    by_cases h2 : r.f0 < 1099511627776
    · rw [if_pos h2]
      by_cases h3 : (r.f1.size : Int) ≤ 64
      · rw [if_pos h3]
        by_cases h4 : (r.f2.size : Int) ≤ 4096
        · rw [if_pos h4]
          by_cases h5 : r.f3 = true
          · rw [if_pos h5]
            congr 1
            rw [Bool.eq_iff_iff, beq_iff_eq, hiff, hn]
            exact ⟨fun h => ⟨h1, h2, by omega, by omega, fun _ => h⟩, fun h => h.2.2.2.2 h5⟩
          · rw [if_neg h5]
            congr 1
            exact (hiff.2 ⟨h1, h2, by omega, by omega, fun e => absurd e h5⟩).symm
        · rw [if_neg h4]
          congr 1
          exact (Bool.eq_false_iff.2 (fun e => by have := hiff.1 e; omega)).symm
      · rw [if_neg h3]
        congr 1
        exact (Bool.eq_false_iff.2 (fun e => by have := hiff.1 e; omega)).symm
    · rw [if_neg h2]
      congr 1
      exact (Bool.eq_false_iff.2 (fun e => by have := hiff.1 e; omega)).symm
  · rw [if_neg h1]
    congr 1
    exact (Bool.eq_false_iff.2 (fun e => by have := hiff.1 e; omega)).symm
theorem rd_at (l : List S48) (i : Nat) (h : i < l.length) : l.drop i = rd_T48 l (i : Int) :: l.drop (i + 1) := by
  rw [List.drop_eq_getElem_cons h]
  simp [rd_T48, List.getD_eq_getElem?_getD, h]
theorem w64n (i : Nat) (h : i ≤ 4611686018427387904) : wrap64 ((i : Int) + 1) = ((i + 1 : Nat) : Int) := by rw [wrap64_id _ (by omega) (by omega)]; rfl
/-- What must come next, at place i. -/
def nxt (base : Int) (l : List S48) (i : Nat) : Int := if i = 0 then base else (rd_T48 l ((i - 1 : Nat) : Int)).f0 + 1
theorem rise_loop (base : Int) (l : List S48) (hl : l.length ≤ 1000000000) : ∀ (d k i : Nat), d + i = l.length → d < k → base ≤ nxt base l i → postroadref09_Rise.l0 k l base (i : Int) = some (rise (nxt base l i) (l.drop i)) := by
  intro d
  induction d with
  | zero =>
    intro k i hi hk hb
    obtain ⟨k, rfl⟩ : ∃ m, k = m + 1 := ⟨k - 1, by omega⟩
    rw [postroadref09_Rise.l0, if_neg (by omega), List.drop_eq_nil_of_le (by omega)]
    rfl
  | succ d ih =>
    intro k i hi hk hb
    obtain ⟨k, rfl⟩ : ∃ m, k = m + 1 := ⟨k - 1, by omega⟩
    rw [postroadref09_Rise.l0, if_pos (by omega), if_pos (by omega), rd_at l i (by omega), may_f]
    obtain ⟨r, hr⟩ : ∃ r, rd_T48 l (i : Int) = r := ⟨_, rfl⟩
    have hn1 : nxt base l (i + 1) = r.f0 + 1 := by unfold nxt; rw [if_neg (by omega), Nat.add_sub_cancel, hr]
    rw [hr, Option.bind_some, rise]
    by_cases h1 : okRec r = true
    · rw [if_pos h1, h1, Bool.true_and]
      by_cases h2 : r.f0 < base
      · rw [if_pos h2]
        have : decide (nxt base l i ≤ r.f0) = false := by simp; omega
        rw [this, Bool.false_and]
      · rw [if_neg h2]
        have hih := ih k (i + 1) (by omega) (by omega) (by rw [hn1]; omega)
        rw [hn1] at hih
        by_cases h3 : (i : Int) > 0
        · have hw : wrap64 ((i : Int) - 1) = ((i - 1 : Nat) : Int) := by rw [wrap64_id _ (by omega) (by omega)]; omega
          rw [if_pos h3, hw, if_pos (by omega), if_pos (by omega)]
          have hni : nxt base l i = (rd_T48 l ((i - 1 : Nat) : Int)).f0 + 1 := by unfold nxt; rw [if_neg (by omega)]
          rw [hni]
          by_cases h4 : (rd_T48 l ((i - 1 : Nat) : Int)).f0 ≥ r.f0
          · rw [if_pos h4]
            have : decide ((rd_T48 l ((i - 1 : Nat) : Int)).f0 + 1 ≤ r.f0) = false := by simp; omega
            rw [this, Bool.false_and]
          · rw [if_neg h4, w64n i (by omega), hih]
            have : decide ((rd_T48 l ((i - 1 : Nat) : Int)).f0 + 1 ≤ r.f0) = true := by simp; omega
            rw [this, Bool.true_and]
        · have hi0 : i = 0 := by omega
          have hni : nxt base l i = base := by unfold nxt; rw [if_pos hi0]
          rw [if_neg h3, w64n i (by omega), hih, hni]
          have : decide (base ≤ r.f0) = true := by simp; omega
          rw [this, Bool.true_and]
    · rw [if_neg h1, Bool.eq_false_iff.2 h1, Bool.false_and]
theorem rise_f (l : List S48) (base : Int) (hl : l.length ≤ 1000000000) (k : Nat) (hk : l.length + 2 ≤ k) : postroadref09_Rise.f k l base = some (okBase base && rise base l) := by
  obtain ⟨k, rfl⟩ : ∃ m, k = m + 1 := ⟨k - 1, by omega⟩
  unfold postroadref09_Rise.f okBase
  by_cases h1 : base < 0
  · rw [if_pos h1, postroadref09_Rise.j0, if_pos rfl]
    have : decide (0 ≤ base) = false := by simp; omega
    rw [this, Bool.false_and, Bool.false_and]
  · rw [if_neg h1, postroadref09_Rise.j0]
    have h0 : decide (0 ≤ base) = true := by simp; omega
    by_cases h2 : base ≥ 1099511627776
    · have : decide (base < 1099511627776) = false := by simp; omega
      rw [decide_eq_true h2, if_pos rfl, this, Bool.and_false, Bool.false_and]
    · have : decide (base < 1099511627776) = true := by simp; omega
      rw [decide_eq_false h2, if_neg (by decide), this, h0, Bool.and_self, Bool.true_and]
      have := rise_loop base l hl l.length k 0 (by omega) (by omega) (by unfold nxt; rw [if_pos rfl]; exact Int.le_refl _)
      rw [show nxt base l 0 = base from by unfold nxt; rw [if_pos rfl], List.drop_zero] at this
      exact this
/-- The document's number. -/
theorem rnumber_f (n : Nat) (h : n < 2 ^ 63) (k : Nat) (hk : 10 ≤ k) : postroadref09_number.f k (n : Int) = some (vs n) := by
  unfold postroadref09_number.f
  have h1 : postroadref01_PutVar.f k (n : Int) = some (vs n, 0) := by
    have h0 := rputvar_nat n h
    obtain ⟨d, rfl⟩ : ∃ d, k = 10 + d := ⟨k - 10, by omega⟩
    clear hk
    induction d with
    | zero => exact h0
    | succ d ih => exact postroadref01_PutVar.mono _ _ _ ih
  rw [h1]
  rfl
theorem strOfNums_bytesOf (s : ByteArray) : strOfNums (bytesOf s) = s := by
  unfold strOfNums bytesOf
  apply ByteArray.ext
  simp [List.map_map, Function.comp_def]
theorem bytesOf_app (s t : ByteArray) : bytesOf (s ++ t) = bytesOf s ++ bytesOf t := by simp [bytesOf]
theorem bytesOf_vs0 : bytesOf (vs 0) = [0] := by
  unfold vs
  rw [pv_lt (by decide)]
  rfl
theorem rbytes_loop (base : Int) (l : List S48) (hl : l.length ≤ 1000000000) (hb : 0 ≤ base) : ∀ (d k i : Nat) (acc : List Int) (next : Int), d + i = l.length → d + 10 < k → rise next (l.drop i) = true → base ≤ next → acc.length ≤ 4200 * i →
    postroadref09_Bytes.l0 k l base acc (i : Int) = some (strOfNums (acc ++ bytesOf (recsB base (l.drop i))), 0) := by
  intro d
  induction d with
  | zero =>
    intro k i acc next hi hk hr hn ha
    obtain ⟨k, rfl⟩ : ∃ m, k = m + 1 := ⟨k - 1, by omega⟩
    rw [postroadref09_Bytes.l0, if_neg (by omega), List.drop_eq_nil_of_le (by omega), recsB]
    rw [show bytesOf (⟨#[]⟩ : ByteArray) = [] from rfl, List.append_nil]
  | succ d ih =>
    intro k i acc next hi hk hr hn ha
    obtain ⟨k, rfl⟩ : ∃ m, k = m + 1 := ⟨k - 1, by omega⟩
    rw [rd_at l i (by omega)] at hr ⊢
    rw [postroadref09_Bytes.l0, if_pos (by omega), if_pos (by omega)]
    obtain ⟨r, hrr⟩ : ∃ r, rd_T48 l (i : Int) = r := ⟨_, rfl⟩
    rw [hrr] at hr ⊢
    obtain ⟨h1, h2, h3⟩ := (rise_cons _ _ _).1 hr
    obtain ⟨m1, m2, m3, m4, m5⟩ := (okRec_iff r).1 h1
    have hw1 : Aside0 (wrap64 (r.f0 - base) = ((r.f0 - base).toNat : Int)) := ⟨by rw [wrap64_id _ (by omega) (by omega)]; omega⟩
    have hw2 : Aside0 (wrap64 ((r.f2.size : Int) + 1) = ((r.f2.size + 1 : Nat) : Int)) := ⟨by rw [wrap64_id _ (by omega) (by omega)]; omega⟩
    obtain ⟨dd, hdd⟩ : ∃ x, (r.f0 - base).toNat = x := ⟨_, rfl⟩
    have hdl : dd < 2 ^ 63 := by omega
    have z1 := vs_size dd hdl
    have z2 := vs_size r.f1.size (by omega)
    have z3 := vs_size (r.f2.size + 1) (by omega)
    rw [hw1.out, hdd, rnumber_f dd hdl k (by omega), Option.bind_some, if_pos (by omega), Option.bind_some, rnumber_f r.f1.size (by omega) k (by omega), Option.bind_some,
      if_pos (by rw [List.length_append, bytesOf_length]; omega), Option.bind_some, if_pos (by rw [List.length_append, List.length_append, bytesOf_length, bytesOf_length]; omega), Option.bind_some, recsB, hdd]
    by_cases hg : r.f3 = true
    · rw [if_pos hg, if_pos (by simp only [List.length_append, bytesOf_length]; omega), w64n i (by omega)]
      rw [ih k (i + 1) _ (r.f0 + 1) (by omega) (by omega) h3 (by omega) (by simp only [List.length_append, bytesOf_length, List.length_singleton]; omega)]
      have e : bytesOf (recB dd r) = bytesOf (vs dd) ++ bytesOf (vs r.f1.size) ++ bytesOf r.f1 ++ [0] := by
        unfold recB
        rw [if_pos hg, bytesOf_app, bytesOf_app, bytesOf_app, bytesOf_vs0]
      rw [bytesOf_app, e]
      simp only [List.append_assoc]
    · rw [if_neg hg, hw2.out, rnumber_f (r.f2.size + 1) (by omega) k (by omega), Option.bind_some, if_pos (by simp only [List.length_append, bytesOf_length]; omega), Option.bind_some,
        if_pos (by simp only [List.length_append, bytesOf_length]; omega), w64n i (by omega)]
      rw [ih k (i + 1) _ (r.f0 + 1) (by omega) (by omega) h3 (by omega) (by simp only [List.length_append, bytesOf_length]; omega)]
      have e : bytesOf (recB dd r) = bytesOf (vs dd) ++ bytesOf (vs r.f1.size) ++ bytesOf r.f1 ++ (bytesOf (vs (r.f2.size + 1)) ++ bytesOf r.f2) := by
        unfold recB
        rw [if_neg hg, bytesOf_app, bytesOf_app, bytesOf_app, bytesOf_app]
      rw [bytesOf_app, e]
      simp only [List.append_assoc]
theorem rbytes_f (l : List S48) (base : Int) (hl : l.length ≤ 1000000000) (k : Nat) (hk : l.length + 11 ≤ k) : postroadref09_Bytes.f k l base = recBytes l base := by
  rw [recBytes_eq l base hl]
  unfold postroadref09_Bytes.f
  rw [rise_f l base hl k (by omega), Option.bind_some]
  by_cases h : okBase base = true ∧ rise base l = true
  · rw [if_pos h, if_pos (by rw [h.1, h.2]; rfl)]
    have := rbytes_loop base l hl ((okBase_iff base).1 h.1).1 l.length k 0 [] base (by omega) (by omega) (by rw [List.drop_zero]; exact h.2) (Int.le_refl _) (Nat.zero_le _)
    rw [List.drop_zero, List.nil_append, strOfNums_bytesOf] at this
    exact this
  · rw [if_neg h, if_neg (fun e => h (by simpa using e))]
/-- Too large, by the numbers. -/
def largeR (l : List S48) : Bool := if (l.length : Int) < 1 then true else if (l.length : Int) > 256 then true else match recBytes l 0 with | some x => if x.2 = 0 then decide ((x.1.size : Int) > 65536) else true | none => true
theorem large_loop (l : List S48) (hl : l.length ≤ 1000000) (ho : ∀ i : Nat, i < l.length → (rd_T48 l (i : Int)).f0 = i) : ∀ (d k i : Nat), d + i = l.length → d < k → session_large.l0 k l l (l.length : Int) (i : Int) = some (largeR l)
  | 0, k + 1, i, h, _ => by
    rw [session_large.l0, if_neg (by omega)]
    have e : record_Bytes.f l 0 = recBytes l 0 := rfl
    rw [e]
    unfold largeR
    obtain ⟨x, hx⟩ : ∃ x, recBytes l 0 = some x := ⟨_, recBytes_eq l 0 (by omega)⟩
    rw [hx, Option.bind_some]
    simp only
    split
    · rfl
    · split
      · rfl
      · split <;> rfl
  | d + 1, k + 1, i, h, hk => by
    rw [session_large.l0, if_pos (by omega), if_pos (by omega), if_pos (by omega), if_pos (ho i (by omega)), w64n i (by omega)]
    exact large_loop l hl ho d k (i + 1) (by omega) (by omega)
theorem large_f (l : List S48) (hl : l.length ≤ 1000000) (ho : ∀ i : Nat, i < l.length → (rd_T48 l (i : Int)).f0 = i) : session_large.f (l.length + 20) l = some (largeR l) := by
  unfold session_large.f
  exact large_loop l hl ho l.length _ 0 (by omega) (by omega)
theorem rlarge_loop (l : List S48) (hl : l.length ≤ 1000000) (h1 : ¬ (l.length : Int) < 1) (h2 : ¬ (l.length : Int) > 256) (ho : ∀ i : Nat, i < l.length → (rd_T48 l (i : Int)).f0 = i) : ∀ (d k i : Nat), d + i = l.length → d + l.length + 12 < k → postroadref15_Large.l0 k l (i : Int) = some (largeR l)
  | 0, k + 1, i, h, hk => by
    rw [postroadref15_Large.l0, if_neg (by omega), rbytes_f l 0 (by omega) k (by omega)]
    unfold largeR
    obtain ⟨x, hx⟩ : ∃ x, recBytes l 0 = some x := ⟨_, recBytes_eq l 0 (by omega)⟩
    rw [hx, Option.bind_some, if_neg h1, if_neg h2]
    simp only
    split <;> rfl
  | d + 1, k + 1, i, h, hk => by
    rw [postroadref15_Large.l0, if_pos (by omega), if_pos (by omega), if_pos (ho i (by omega)), w64n i (by omega)]
    exact rlarge_loop l hl h1 h2 ho d k (i + 1) (by omega) (by omega)
theorem rlarge_f (l : List S48) (hl : l.length ≤ 1000000) (ho : ∀ i : Nat, i < l.length → (rd_T48 l (i : Int)).f0 = i) : postroadref15_Large.f (l.length + l.length + 20) l = some (largeR l) := by
  unfold postroadref15_Large.f
  by_cases h1 : (l.length : Int) < 1
  · rw [if_pos h1]
    unfold largeR
    rw [if_pos h1, show l.length + l.length + 20 = (l.length + l.length + 19) + 1 from rfl, postroadref15_Large.j0, if_pos rfl]
  · rw [if_neg h1]
    by_cases h2 : (l.length : Int) > 256
    · unfold largeR
      rw [if_neg h1, if_pos h2, show l.length + l.length + 20 = (l.length + l.length + 19) + 1 from rfl, postroadref15_Large.j0, if_pos (by simpa using h2)]
    · rw [show l.length + l.length + 20 = (l.length + l.length + 19) + 1 from rfl, postroadref15_Large.j0, if_neg (by simpa using h2)]
      exact rlarge_loop l hl h1 h2 ho l.length _ 0 (by omega) (by omega)
end Go.Proofs.Ytllgaikgpfionaa.PZ
