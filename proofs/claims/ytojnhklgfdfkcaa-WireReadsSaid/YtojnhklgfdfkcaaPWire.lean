/- The document's message of bytes is the program's. -/
import Derived.Test.YtojnhklgfdfkcaaHROf
namespace Go.Proofs.Ytojnhklgfdfkcaa.WK
open Go.RowKit Go.Proofs.YtojnhklgfdfkcaaW.PrintWords Go.Proofs.YtojnhklgfdfkcaaW.PrintLast Go.Proofs.YtojnhklgfdfkcaaW.PrintMore Go.Proofs.Ytojnhklgfdfkcaa.MB Go.Proofs.Ytojnhklgfdfkcaa.HW Go.Proofs.Ytojnhklgfdfkcaa.Fn Go.Proofs.Ytojnhklgfdfkcaa.PV Go.Proofs.Ytojnhklgfdfkcaa.RB Go.Proofs.Ytojnhklgfdfkcaa.RO Go.Proofs.Ytojnhklgfdfkcaa.PZ
theorem rv_succ {S : ByteArray} {i : Nat} {l : List Int} {p : Nat} (h : rv S (i + 1) = some (l, p)) : ∃ l0 p0 n k, rv S i = some (l0, p0) ∧ var_ (S.extract p0 S.size) = (n, k, 0) ∧ l = l0 ++ [n] ∧ p = p0 + k.toNat ∧ p0 + k.toNat ≤ S.size := by
  have hb := rv_bd S (i + 1) l p h
  rw [rv] at h
  cases hr : rv S i with
  | none => rw [hr] at h; simp at h
  | some v =>
    obtain ⟨l0, p0⟩ := v
    rw [hr] at h
    simp only at h
    obtain ⟨⟨n, k, e⟩, hv⟩ : ∃ v, var_ (S.extract p0 S.size) = v := ⟨_, rfl⟩
    rw [hv] at h
    simp only at h
    by_cases he : e = 0
    · subst he
      rw [if_pos rfl] at h
      simp only [Option.some.injEq, Prod.mk.injEq] at h
      obtain ⟨rfl, rfl⟩ := h
      exact ⟨l0, p0, n, k, rfl, hv, rfl, rfl, hb.2.1⟩
    · rw [if_neg he] at h; simp at h
theorem getD_app_l (l : List Int) (n : Int) (j : Nat) (h : j < l.length) : (l ++ [n]).getD j 0 = l.getD j 0 := by
  rw [List.getD_eq_getElem?_getD, List.getD_eq_getElem?_getD, List.getElem?_append_left h]
theorem getD_app_r (l : List Int) (n : Int) : (l ++ [n]).getD l.length 0 = n := by
  rw [List.getD_eq_getElem?_getD, List.getElem?_append_right (Nat.le_refl _)]; simp
theorem nums_fwd (S : ByteArray) : ∀ i l p, rv S i = some (l, p) → (∀ j, j < i → l.getD j 0 ≤ mostOf j) → rnums i S = (l, S.extract p S.size, true)
  | 0, l, p, h, _ => by
    rw [rv] at h
    simp only [Option.some.injEq, Prod.mk.injEq] at h
    obtain ⟨rfl, rfl⟩ := h
    rw [rnums, extract_all]
  | i + 1, l, p, h, hm => by
    obtain ⟨l0, p0, n, k, h0, hv, rfl, rfl, hle⟩ := rv_succ h
    have hl := (rv_bd S i l0 p0 h0).1
    have ih := nums_fwd S i l0 p0 h0 (fun j hj => by have := hm j (by omega); rw [getD_app_l _ _ _ (by omega)] at this; exact this)
    have hn := hm i (Nat.lt_succ_self _)
    rw [← hl, getD_app_r, hl] at hn
    rw [rnums, ih]
    simp only
    rw [nm_yes hv hn, ext_ext S p0 k.toNat hle]
theorem nums_bwd (S : ByteArray) : ∀ i, (rnums i S).2.2 = true → ∃ l p, rv S i = some (l, p) ∧ ∀ j, j < i → l.getD j 0 ≤ mostOf j
  | 0, _ => ⟨[], 0, rfl, fun j hj => absurd hj (Nat.not_lt_zero j)⟩
  | i + 1, h => by
    rw [rnums] at h
    simp only at h
    have h1 : (rnums i S).2.2 = true := by
      unfold nm at h
      by_cases hc : (var_ (rnums i S).2.1).2.2 ≠ 0 ∨ mostOf i < (var_ (rnums i S).2.1).1
      · rw [if_pos hc] at h; simp at h
      · rw [if_neg hc] at h; exact h
    obtain ⟨l, p, hr, hm⟩ := nums_bwd S i h1
    have hf := nums_fwd S i l p hr hm
    rw [hf] at h
    simp only at h
    obtain ⟨⟨x, s1, o1⟩, hn⟩ : ∃ v, nm (S.extract p S.size) true (mostOf i) = v := ⟨_, rfl⟩
    rw [hn] at h
    simp only at h
    subst h
    obtain ⟨t1, t2, t3, t4⟩ := nm_true hn
    have hl := (rv_bd S i l p hr).1
    refine ⟨l ++ [(var_ (S.extract p S.size)).1], p + (var_ (S.extract p S.size)).2.1.toNat, by rw [rv, hr]; simp only; rw [if_pos t1], fun j hj => ?_⟩
    by_cases hji : j = i
    · subst hji; rw [← hl, getD_app_r, hl]; exact t2
    · rw [getD_app_l _ _ _ (by omega)]; exact hm j (by omega)
theorem rl_mem (S : ByteArray) : ∀ m p acc log p', rl S m p acc = some (log, p') → ∀ t ∈ acc, t ∈ log
  | 0, p, acc, log, p', h => by
    rw [rl] at h
    simp only [Option.some.injEq, Prod.mk.injEq] at h
    rw [h.1]; exact fun t ht => ht
  | m + 1, p, acc, log, p', h => by
    rw [rl] at h
    by_cases hc : (var_ (S.extract p S.size)).2.2 = 0 ∧ (var_ (S.extract p S.size)).1 ≤ (S.size : Int) - p - (var_ (S.extract p S.size)).2.1
    · rw [if_pos hc] at h
      exact fun t ht => rl_mem S m _ _ log p' h t (List.mem_append_left _ ht)
    · rw [if_neg hc] at h; simp at h
theorem rl_fwd (S : ByteArray) : ∀ m p acc log p', p ≤ S.size → rl S m p acc = some (log, p') → (∀ t ∈ log, t.size ≤ 262154) → rlog m (S.extract p S.size) true acc = some (log, S.extract p' S.size, true) ∧ p' ≤ S.size
  | 0, p, acc, log, p', hp, h, _ => by
    rw [rl] at h
    simp only [Option.some.injEq, Prod.mk.injEq] at h
    obtain ⟨rfl, rfl⟩ := h
    rw [rlog]; exact ⟨rfl, hp⟩
  | m + 1, p, acc, log, p', hp, h, hs => by
    rw [rl] at h
    obtain ⟨⟨x, k, e⟩, hv⟩ : ∃ v, var_ (S.extract p S.size) = v := ⟨_, rfl⟩
    have hok := var_ok (S.extract p S.size)
    rw [hv, extract_size _ _ _ (Nat.le_refl _)] at hok
    rw [hv] at h
    simp only at h hok
    by_cases hc : e = 0 ∧ x ≤ (S.size : Int) - p - k
    · rw [if_pos hc] at h
      obtain ⟨rfl, hc⟩ := hc
      obtain ⟨q1, q2, q3⟩ := hok rfl
      obtain ⟨kn, rfl⟩ : ∃ m : Nat, k = m := ⟨k.toNat, by omega⟩
      obtain ⟨xn, rfl⟩ : ∃ m : Nat, x = m := ⟨x.toNat, by omega⟩
      rw [Int.toNat_natCast, Int.toNat_natCast] at h
      have ht := rl_mem S m _ _ log p' h (S.extract (p + kn) (p + kn + xn)) (List.mem_append_right _ (List.mem_singleton.2 rfl))
      have hts := hs _ ht
      rw [extract_size _ _ _ (by omega)] at hts
      obtain ⟨ih, ihp⟩ := rl_fwd S m (p + kn + xn) _ log p' (by omega) h hs
      refine ⟨?_, ihp⟩
      rw [rlog, nm_yes hv (by omega), Int.toNat_natCast, ext_ext S p kn (by omega)]
      simp only
      rw [if_pos ⟨by first | rfl | trivial, by rw [extract_size _ _ _ (Nat.le_refl _)]; omega⟩, Int.toNat_natCast, ext_ext S (p + kn) xn (by omega), ext_ext0 S (p + kn) xn (by omega)]
      exact ih
    · rw [if_neg hc] at h; simp at h
theorem rlog_ok : ∀ m s ok acc log s', rlog m s ok acc = some (log, s', true) → ok = true
  | 0, s, ok, acc, log, s', h => by
    rw [rlog] at h
    simp only [Option.some.injEq, Prod.mk.injEq] at h
    exact h.2.2
  | m + 1, s, ok, acc, log, s', h => by
    rw [rlog] at h
    by_cases hc : (nm s ok 262154).2.2 = true ∧ (nm s ok 262154).1 ≤ (nm s ok 262154).2.1.size
    · exact ((nm_bd s ok 262154 (by decide)).2.2.2 hc.1).2
    · rw [if_neg hc] at h; simp at h
theorem rl_bwd (S : ByteArray) : ∀ m p acc log s' o', p ≤ S.size → (∀ t ∈ acc, t.size ≤ 262154) → rlog m (S.extract p S.size) true acc = some (log, s', o') → ∃ p', rl S m p acc = some (log, p') ∧ ∀ t ∈ log, t.size ≤ 262154
  | 0, p, acc, log, s', o', hp, ha, h => by
    rw [rlog] at h
    simp only [Option.some.injEq, Prod.mk.injEq] at h
    obtain ⟨rfl, rfl, rfl⟩ := h
    exact ⟨p, by rw [rl], ha⟩
  | m + 1, p, acc, log, s', o', hp, ha, h => by
    rw [rlog] at h
    obtain ⟨⟨x, s1, o1⟩, hn⟩ : ∃ v, nm (S.extract p S.size) true 262154 = v := ⟨_, rfl⟩
    rw [hn] at h
    simp only at h
    by_cases hc : o1 = true ∧ x ≤ (s1.size : Int)
    · rw [if_pos hc] at h
      obtain ⟨rfl, hc⟩ := hc
      obtain ⟨t1, t2, t3, t4⟩ := nm_true hn
      obtain ⟨q1, q2, q3⟩ := var_ok (S.extract p S.size) t1
      rw [extract_size _ _ _ (Nat.le_refl _)] at q3
      obtain ⟨kn, hkn⟩ : ∃ m : Nat, (var_ (S.extract p S.size)).2.1 = m := ⟨(var_ (S.extract p S.size)).2.1.toNat, by omega⟩
      obtain ⟨xn, hxn⟩ : ∃ m : Nat, (var_ (S.extract p S.size)).1 = m := ⟨(var_ (S.extract p S.size)).1.toNat, by omega⟩
      rw [hkn, Int.toNat_natCast] at t4
      rw [hxn] at t3
      subst t3
      rw [ext_ext S p kn (by omega)] at t4
      subst t4
      rw [extract_size _ _ _ (Nat.le_refl _)] at hc
      rw [Int.toNat_natCast, ext_ext S (p + kn) xn (by omega), ext_ext0 S (p + kn) xn (by omega)] at h
      obtain ⟨p', h1, h2⟩ := rl_bwd S m (p + kn + xn) _ log s' o' (by omega) (fun t ht => by
        rcases List.mem_append.1 ht with ht | ht
        · exact ha t ht
        · rw [List.mem_singleton.1 ht, extract_size _ _ _ (by omega)]; omega) h
      refine ⟨p', ?_, h2⟩
      rw [rl, hkn, hxn, if_pos ⟨t1, by omega⟩, Int.toNat_natCast, Int.toNat_natCast]
      exact h1
    · rw [if_neg hc] at h; simp at h
/-- What both tell as a message. -/
inductive Good (S : ByteArray) : MsgR → Prop
  | mk {l : List Int} {p p2 : Nat} {log : List ByteArray} {body : List S63} {n k : Int} (h1 : rv S 12 = some (l, p)) (h2 : ∀ j, j < 11 → l.getD j 0 ≤ mostOf j) (h3 : l.getD 11 0 ≤ 4096) (h4 : rl S (l.getD 11 0).toNat p [] = some (log, p2)) (h5 : ∀ t ∈ log, t.size ≤ 262154)
    (h6 : var_ (S.extract p2 S.size) = (n, k, 0)) (h7 : n ≤ 256) (h8 : recOf (S.extract (p2 + k.toNat) S.size) 0 n = some (body, 0)) (h9 : okMsg (l.take 11) log body = true) : Good S (l.take 11, log, body, 0)
theorem good_ref {S : ByteArray} {r : MsgR} (hs : S.size ≤ 1048576) (h : Good S r) : refOf S = r := by
  obtain ⟨h1, h2, h3, h4, h5, h6, h7, h8, h9⟩ := h
  have h27 := h2 7 (by decide)
  rw [refOf_12 hs h1, if_neg (by have : mostOf 7 = 999 := rfl; omega), h4]
  simp only
  unfold refEnd
  rw [h6]
  simp only
  rw [if_neg (by simp; omega), h8]
  simp only
  rw [if_pos ⟨by first | rfl | trivial, h9⟩]
theorem take_app (l0 : List Int) (n : Int) (h : l0.length = 11) : (l0 ++ [n]).take 11 = l0 := by rw [← h, List.take_left]
theorem good_wire {S : ByteArray} {r : MsgR} (hs : S.size ≤ 1048576) (h : Good S r) : wireOf S = r := by
  obtain ⟨h1, h2, h3, h4, h5, h6, h7, h8, h9⟩ := h
  rename_i l p p2 log body n k
  have hb12 := rv_bd S 12 l p h1
  obtain ⟨l0, p0, c, kc, hr, hv, rfl, rfl, hle⟩ := rv_succ h1
  have hl := (rv_bd S 11 l0 p0 hr).1
  rw [take_app l0 c hl] at h9 ⊢
  have hc : (l0 ++ [c]).getD 11 0 = c := by rw [← hl, getD_app_r]
  rw [hc] at h3 h4
  have e1 := nums_fwd S 11 l0 p0 hr (fun j hj => by have := h2 j hj; rw [getD_app_l _ _ _ (by omega)] at this; exact this)
  have hc0 : 0 ≤ c := hb12.2.2 c (by simp)
  obtain ⟨m, rfl⟩ : ∃ m : Nat, c = m := ⟨c.toNat, by omega⟩
  rw [Int.toNat_natCast] at h4
  have e2 : nm (S.extract p0 S.size) true 4096 = ((m : Int), S.extract (p0 + kc.toNat) S.size, true) := by rw [nm_yes hv h3, ext_ext S p0 kc.toNat hle]
  obtain ⟨e3, hp2⟩ := rl_fwd S m _ [] log p2 hle h4 h5
  have hk := var_ok (S.extract p2 S.size) (by rw [h6])
  rw [h6, extract_size _ _ _ (Nat.le_refl _)] at hk
  simp only at hk
  have e4 : nm (S.extract p2 S.size) true 256 = (n, S.extract (p2 + k.toNat) S.size, true) := by rw [nm_yes h6 h7, ext_ext S p2 k.toNat (by omega)]
  rw [wireOf_some hs e1 e2 e3 e4 h8, if_pos ⟨rfl, rfl, h9⟩]
theorem ref_good {S : ByteArray} (hs : S.size ≤ 1048576) : Good S (refOf S) ∨ refOf S = badR := by
  cases h1 : rv S 12 with
  | none => exact Or.inr (refOf_bad1 hs (Nat.le_refl _) h1)
  | some v =>
    obtain ⟨l, p⟩ := v
    rw [refOf_12 hs h1]
    by_cases hc : 999 < l.getD 7 0 ∨ 4096 < l.getD 11 0
    · rw [if_pos hc]; exact Or.inr rfl
    · rw [if_neg hc]
      cases h4 : rl S (l.getD 11 0).toNat p [] with
      | none => exact Or.inr rfl
      | some v =>
        obtain ⟨log, p2⟩ := v
        simp only
        unfold refEnd
        obtain ⟨⟨n, k, e⟩, h6⟩ : ∃ v, var_ (S.extract p2 S.size) = v := ⟨_, rfl⟩
        rw [h6]
        simp only
        by_cases hc2 : e ≠ 0 ∨ 256 < n
        · rw [if_pos hc2]; exact Or.inr rfl
        · rw [if_neg hc2]
          have he : e = 0 := Classical.not_not.1 (fun h => hc2 (Or.inl h))
          subst he
          cases h8 : recOf (S.extract (p2 + k.toNat) S.size) 0 n with
          | none => exact Or.inr rfl
          | some v =>
            obtain ⟨body, f⟩ := v
            simp only
            by_cases hc3 : f = 0 ∧ okMsg (l.take 11) log body = true
            · rw [if_pos hc3]
              obtain ⟨rfl, h9⟩ := hc3
              have h9' := h9
              unfold okMsg at h9'
              simp only [Bool.and_eq_true, decide_eq_true_iff] at h9'
              refine Or.inl (.mk h1 (fun j hj => ?_) (by omega) h4 ?_ h6 (by omega) h8 h9)
              · have h2 := ((okNums_iff (l.take 11)).1 h9'.1 j hj).2
                rw [List.getD_eq_getElem?_getD, List.getElem?_take, if_pos hj, ← List.getD_eq_getElem?_getD] at h2
                exact h2
              · intro t ht
                have := (List.all_eq_true.1 h9'.2.2.2.2.1) t ht
                simpa using this
            · rw [if_neg hc3]; exact Or.inr rfl
theorem wire_good {S : ByteArray} (hs : S.size ≤ 1048576) : Good S (wireOf S) ∨ wireOf S = badR := by
  obtain ⟨⟨ns, s1, o1⟩, e1⟩ : ∃ v, rnums 11 S = v := ⟨_, rfl⟩
  obtain ⟨⟨c, s2, o2⟩, e2⟩ : ∃ v, nm s1 o1 4096 = v := ⟨_, rfl⟩
  have hcb := nm_bd s1 o1 4096 (by decide)
  rw [e2] at hcb
  simp only at hcb
  obtain ⟨m, rfl⟩ : ∃ m : Nat, c = m := ⟨c.toNat, by omega⟩
  cases e3 : rlog m s2 o2 [] with
  | none => exact Or.inr (wireOf_none hs e1 e2 e3)
  | some v =>
    obtain ⟨log, s3, o3⟩ := v
    obtain ⟨⟨n, s4, o4⟩, e4⟩ : ∃ v, nm s3 o3 256 = v := ⟨_, rfl⟩
    cases e5 : recOf s4 0 n with
    | none =>
      refine Or.inr ?_
      unfold wireOf
      rw [if_neg (by omega), e1]
      simp only
      rw [e2]
      simp only [Int.toNat_natCast]
      rw [e3]
      simp only
      rw [e4]
      simp only
      rw [e5]
      rfl
    | some v =>
      obtain ⟨body, e⟩ := v
      rw [wireOf_some hs e1 e2 e3 e4 e5]
      by_cases hc : o4 = true ∧ e = 0 ∧ okMsg ns log body = true
      · rw [if_pos hc]
        obtain ⟨rfl, rfl, h9⟩ := hc
        have h3 := nm_bd s3 o3 256 (by decide)
        rw [e4] at h3
        obtain rfl : o3 = true := (h3.2.2.2 rfl).2
        obtain rfl : o2 = true := rlog_ok _ _ _ _ _ _ e3
        have h1 := nm_bd s1 o1 4096 (by decide)
        rw [e2] at h1
        obtain rfl : o1 = true := (h1.2.2.2 rfl).2
        obtain ⟨l, p, hr, hm⟩ := nums_bwd S 11 (by rw [e1])
        have hf := nums_fwd S 11 l p hr hm
        rw [e1] at hf
        simp only [Prod.mk.injEq, and_true] at hf
        obtain ⟨rfl, rfl⟩ := hf
        have hl := rv_bd S 11 ns p hr
        obtain ⟨t1, t2, t3, t4⟩ := nm_true e2
        obtain ⟨q1, q2, q3⟩ := var_ok (S.extract p S.size) t1
        rw [extract_size _ _ _ (Nat.le_refl _)] at q3
        obtain ⟨⟨x, kc, e0⟩, hv⟩ : ∃ v, var_ (S.extract p S.size) = v := ⟨_, rfl⟩
        rw [hv] at t1 t2 t3 t4 q1 q2 q3
        simp only at t1 t2 t3 t4 q1 q2 q3
        subst t1
        subst t3
        have hle : p + kc.toNat ≤ S.size := by omega
        rw [ext_ext S p kc.toNat hle] at t4
        subst t4
        have h12 : rv S 12 = some (ns ++ [(m : Int)], p + kc.toNat) := by rw [rv, hr]; simp only; rw [hv]; simp
        obtain ⟨p2, h4, h5⟩ := rl_bwd S m (p + kc.toNat) [] log s3 true hle (fun t ht => by simp at ht) e3
        obtain ⟨h4f, hp2⟩ := rl_fwd S m _ [] log p2 hle h4 h5
        rw [e3] at h4f
        simp only [Option.some.injEq, Prod.mk.injEq, true_and, and_true] at h4f
        subst h4f
        obtain ⟨u1, u2, u3, u4⟩ := nm_true e4
        obtain ⟨r1, r2, r3⟩ := var_ok (S.extract p2 S.size) u1
        rw [extract_size _ _ _ (Nat.le_refl _)] at r3
        obtain ⟨⟨y, k, e9⟩, h6⟩ : ∃ v, var_ (S.extract p2 S.size) = v := ⟨_, rfl⟩
        rw [h6] at u1 u2 u3 u4 r1 r2 r3
        simp only at u1 u2 u3 u4 r1 r2 r3
        subst u1
        subst u3
        rw [ext_ext S p2 k.toNat (by omega)] at u4
        subst u4
        have h9t : (ns ++ [(m : Int)]).take 11 = ns := take_app ns _ hl.1
        have hc11 : (ns ++ [(m : Int)]).getD 11 0 = (m : Int) := by rw [← hl.1, getD_app_r]
        rw [← h9t]
        refine Or.inl (.mk (p := p + kc.toNat) (p2 := p2) h12 (fun j hj => ?_) (by rw [hc11]; exact t2) (by rw [hc11, Int.toNat_natCast]; exact h4) h5 h6 u2 e5 (by rw [h9t]; exact h9))
        rw [getD_app_l _ _ _ (by omega)]; exact hm j hj
      · rw [if_neg hc]; exact Or.inr rfl
theorem ref_eq (S : ByteArray) : refOf S = wireOf S := by
  by_cases hs : S.size ≤ 1048576
  · rcases ref_good hs with h | h
    · exact (good_wire hs h).symm
    · rcases wire_good hs with h2 | h2
      · exact good_ref hs h2
      · rw [h, h2]
  · unfold refOf wireOf
    rw [if_pos (by omega), if_pos (by omega)]
end Go.Proofs.Ytojnhklgfdfkcaa.WK
