/- Joins, Shifts, Cuts. -/
import Derived.Test.YtjdicocmajjojaaPRec3
namespace Go.Proofs.Ytjdicocmajjojaa.PZ
open Go.RowKit Go.Proofs.YtjdicocmajjojaaW.PrintWords Go.Proofs.YtjdicocmajjojaaW.PrintLast Go.Proofs.YtjdicocmajjojaaW.PrintMore Go.Proofs.Ytjdicocmajjojaa.MB Go.Proofs.Ytjdicocmajjojaa.Fn Go.Proofs.Ytjdicocmajjojaa.PV Go.Proofs.Ytjdicocmajjojaa.RB Go.Proofs.Ytjdicocmajjojaa.RO
theorem and_any (n : Int) (m : Nat) (hm : m < 2 ^ 63) : ∃ k : Nat, Go.bits .and .i64 n m = k ∧ k ≤ m := by
  refine ⟨(BitVec.ofInt 64 n).toNat &&& m, ?_, Nat.and_le_right⟩
  have hle : (BitVec.ofInt 64 n).toNat &&& m ≤ m := Nat.and_le_right
  have e1 : (BitVec.ofInt 64 n &&& BitVec.ofInt 64 (m : Int)).toNat = (BitVec.ofInt 64 n).toNat &&& m := by
    rw [BitVec.toNat_and, BitVec.ofInt_natCast, BitVec.toNat_ofNat, Nat.mod_eq_of_lt (by omega)]
  show IntKind.i64.wrap ((BitVec.ofInt 64 n &&& BitVec.ofInt 64 (m : Int)).toNat : Int) = _
  rw [e1]
  exact wraps_i64 _ (Int.natCast_nonneg _) (cast_lt_two_pow (by omega))
theorem rise_app (l m : List S28) : ∀ b, rise b (l ++ m) = true ↔ rise b l = true ∧ rise (lst b l) m = true := by
  induction l with
  | nil => intro b; simp [lst, rise]
  | cons r t ih =>
    intro b
    rw [List.cons_append, rise_cons, rise_cons, ih, lst]
    constructor
    · rintro ⟨h1, h2, h3, h4⟩; exact ⟨⟨h1, h2, h3⟩, h4⟩
    · rintro ⟨⟨h1, h2, h3⟩, h4⟩; exact ⟨h1, h2, h3, h4⟩
theorem lst_ge (l : List S28) : ∀ b, rise b l = true → b ≤ lst b l := by
  induction l with
  | nil => intro b _; exact Int.le_refl _
  | cons r t ih =>
    intro b h
    obtain ⟨h1, h2, h3⟩ := (rise_cons _ _ _).1 h
    have := ih _ h3
    rw [lst]
    omega
theorem recsB_app (base : Int) (l m : List S28) : recsB base (l ++ m) = recsB base l ++ recsB base m := by
  induction l with
  | nil => rw [List.nil_append, recsB, nil_ba]
  | cons r t ih => rw [List.cons_append, recsB, recsB, ih, ByteArray.append_assoc]
theorem lst_last : ∀ (l : List S28) (b : Int), 0 < l.length → lst b l = (rd_T28 l ((l.length - 1 : Nat) : Int)).f0 + 1 := by
  intro l
  induction l with
  | nil => intro b h; exact absurd h (by simp)
  | cons r t ih =>
    intro b h
    rw [lst]
    cases t with
    | nil => rfl
    | cons r2 t2 =>
      rw [ih _ (by simp)]
      rfl
theorem rd_zero (r : S28) (t : List S28) : rd_T28 (r :: t) 0 = r := rfl
/-! RecordJoins -/
theorem RecordJoins (l m : List S28) (base : Int) (hl : HR.Sh.wts HR.shRec.wt l + HR.Sh.wts HR.shRec.wt m ≤ 1048576) : ∃ k, postroadlaw09_RecordJoins.f k l m base = some true := ⟨2, by
  have hll := HR.recs_len l
  have hlm := HR.recs_len m
  unfold postroadlaw09_RecordJoins.f
  rw [bytes_f l base (by omega), Option.bind_some, bytes_f m base (by omega), Option.bind_some, if_pos (by simp; omega), Option.bind_some, List.nil_append, if_pos (by omega), bytes_f (l ++ m) base (by rw [List.length_append]; omega), Option.bind_some]
  by_cases hA : okBase base = true ∧ rise base l = true
  · obtain ⟨b0, b1⟩ := (okBase_iff base).1 hA.1
    rw [if_pos hA, if_pos rfl]
    by_cases hB : okBase base = true ∧ rise base m = true
    · rw [if_pos hB, show ((recsB base m, (0 : Int)).2 != 0) = false from rfl, postroadlaw09_RecordJoins.j0, if_neg (by decide)]
      have hgood : (rise (lst base l) m = true) → ∀ x, (x = false) → postroadlaw09_RecordJoins.j1 1 (recsB base l) (recsB base m) (if okBase base = true ∧ rise base (l ++ m) = true then (recsB base (l ++ m), (0 : Int)) else (⟨#[]⟩, 90)).1 (if okBase base = true ∧ rise base (l ++ m) = true then (recsB base (l ++ m), (0 : Int)) else (⟨#[]⟩, 90)).2 x = some true := by
        intro h1 x hx
        subst hx
        have s1 := (recs_bd base b0 l base hA.2).2
        have s2 := (recs_bd base b0 m base hB.2).2
        rw [if_pos ⟨hA.1, (rise_app l m base).2 ⟨hA.2, h1⟩⟩, postroadlaw09_RecordJoins.j1, if_neg (by decide), if_pos rfl, if_pos (by omega), recsB_app, if_pos rfl]
        rfl
      by_cases h1 : (l.length : Int) > 0
      · rw [if_pos h1]
        by_cases h2 : (m.length : Int) > 0
        · have hw : wrap64 ((l.length : Int) - 1) = ((l.length - 1 : Nat) : Int) := by rw [wrap64_id _ (by omega) (by omega)]; omega
          rw [if_pos h2, hw, if_pos (by omega), if_pos (by omega), if_pos (by omega)]
          have hls := lst_last l base (by omega)
          by_cases h3 : rise (lst base l) m = true
          · refine hgood h3 _ ?_
            cases m with
            | nil => exact absurd h2 (by simp)
            | cons r t =>
              obtain ⟨_, g2, _⟩ := (rise_cons _ _ _).1 h3
              rw [rd_zero]
              rw [hls] at g2
              simp
              omega
          · rw [if_neg (fun e => h3 ((rise_app l m base).1 e.2).2), postroadlaw09_RecordJoins.j1]
            have hx : decide ((rd_T28 l ((l.length - 1 : Nat) : Int)).f0 ≥ (rd_T28 m 0).f0) = true := by
              cases m with
              | nil => exact absurd h2 (by simp)
              | cons r t =>
                obtain ⟨g1, _, g3⟩ := (rise_cons _ _ _).1 hB.2
                rw [rd_zero]
                rw [decide_eq_true_iff]
                have : ¬ lst base l ≤ r.f0 := fun e => h3 ((rise_cons _ _ _).2 ⟨g1, e, g3⟩)
                rw [hls] at this
                omega
            rw [hx, if_pos rfl, if_pos rfl]
            rfl
        · rw [if_neg h2]
          have : m = [] := List.eq_nil_of_length_eq_zero (by omega)
          subst this
          exact hgood rfl _ rfl
      · rw [if_neg h1]
        have : l = [] := List.eq_nil_of_length_eq_zero (by omega)
        subst this
        exact hgood hB.2 _ rfl
    · have hC : ¬ (okBase base = true ∧ rise base (l ++ m) = true) := by
        rintro ⟨e1, e2⟩
        obtain ⟨g1, g2⟩ := (rise_app l m base).1 e2
        exact hB ⟨e1, rise_mono _ _ _ g2 (lst_ge _ _ g1)⟩
      rw [if_neg hB, if_neg hC, show (((⟨#[]⟩ : ByteArray), (90 : Int)).2 != 0) = true from rfl, postroadlaw09_RecordJoins.j0, if_pos rfl, if_pos rfl]
      rfl
  · have hC : ¬ (okBase base = true ∧ rise base (l ++ m) = true) := by
      rintro ⟨e1, e2⟩
      exact hA ⟨e1, ((rise_app l m base).1 e2).1⟩
    rw [if_neg hA, if_neg hC, if_neg (by decide), postroadlaw09_RecordJoins.j0, if_pos rfl, if_pos rfl]
    rfl⟩
/-! RecordCuts -/
theorem RecordCuts (l : List S28) (base cut : Int) (hl : HR.Sh.wts HR.shRec.wt l ≤ 1048576) : ∃ k, postroadlaw09_RecordCuts.f k l base cut = some true := ⟨l.length + 20, by
  have hll := HR.recs_len l
  unfold postroadlaw09_RecordCuts.f
  rw [bytes_f l base (by omega), Option.bind_some]
  by_cases h : okBase base = true ∧ rise base l = true
  · obtain ⟨b0, b1⟩ := (okBase_iff base).1 h.1
    have hs := (recs_bd base b0 l base h.2).2
    rw [if_pos h, if_pos rfl, postroadlaw09_RecordCuts.j0]
    by_cases hz : (recsB base l).size = 0
    · have : (((recsB base l).size : Int) == 0) = true := by simpa using hz
      rw [this, if_pos rfl, if_pos rfl]
      rfl
    · have : (((recsB base l).size : Int) == 0) = false := by simpa using hz
      rw [this, if_neg (by decide), if_neg (by show ¬ ((recsB base l).size : Int) = 0; omega)]
      have hc : ∀ k : Int, 0 ≤ k → k < (recsB base l).size → record_Of.f ((recsB base l).extract 0 k.toNat) base (l.length : Int) = some ([], 90) := fun k k0 k1 => recOf_cut base l k.toNat h.1 h.2 (by omega) (by omega)
      have t1 := Int.tmod_lt_of_pos cut (show (0 : Int) < (recsB base l).size by omega)
      have t2 := Int.lt_tmod_of_pos cut (show (0 : Int) < (recsB base l).size by omega)
      simp only
      obtain ⟨x, hx⟩ : ∃ x, Int.tmod cut ((recsB base l).size : Int) = x := ⟨_, rfl⟩
      rw [hx] at t1 t2 ⊢
      by_cases hn : x < 0
      · have hw : wrap64 (-x) = -x := wrap64_id _ (by omega) (by omega)
        rw [if_pos hn, hw, if_pos (by omega), if_pos (by omega), hc _ (by omega) (by omega), Option.bind_some, if_pos rfl]
        rfl
      · rw [if_neg hn, if_pos (by omega), if_pos (by omega), hc _ (by omega) (by omega), Option.bind_some, if_pos rfl]
        rfl
  · rw [if_neg h, if_neg (by decide), postroadlaw09_RecordCuts.j0, if_pos rfl, if_neg (by decide), rise_f l base (by omega) _ (by omega), Option.bind_some, if_neg (fun e => h (by simpa using e))]
    rfl⟩
/-! RecordShifts -/
def shift (d : Int) (r : S28) : S28 := ⟨r.f0 + d, r.f1, r.f2, r.f3⟩
theorem rise_shift (d : Int) (hd : 0 ≤ d) (hd2 : d ≤ 65535) : ∀ (l : List S28) (b : Int), rise b l = true → (∀ r ∈ l, r.f0 ≤ 549755813888) → rise (b + d) (l.map (shift d)) = true := by
  intro l
  induction l with
  | nil => intro b _ _; rfl
  | cons r t ih =>
    intro b h hs
    obtain ⟨h1, h2, h3⟩ := (rise_cons _ _ _).1 h
    obtain ⟨m1, m2, m3, m4, m5⟩ := (okRec_iff r).1 h1
    have hr := hs r (List.mem_cons_self ..)
    rw [List.map_cons, rise_cons]
    refine ⟨(okRec_iff _).2 ⟨by show 0 ≤ r.f0 + d; omega, by show r.f0 + d < _; omega, m3, m4, m5⟩, by show b + d ≤ r.f0 + d; omega, ?_⟩
    have := ih (r.f0 + 1) h3 (fun x hx => hs x (List.mem_cons_of_mem _ hx))
    rwa [show r.f0 + 1 + d = (shift d r).f0 + 1 from by show _ = r.f0 + d + 1; omega] at this
theorem recsB_shift (d base : Int) : ∀ (l : List S28), recsB (base + d) (l.map (shift d)) = recsB base l := by
  intro l
  induction l with
  | nil => rfl
  | cons r t ih =>
    rw [List.map_cons, recsB, recsB, ih]
    have : (shift d r).f0 - (base + d) = r.f0 - base := by show r.f0 + d - _ = _; omega
    rw [this]
    rfl
theorem rise_mem : ∀ (l : List S28) (b : Int), rise b l = true → ∀ r ∈ l, okRec r = true := by
  intro l
  induction l with
  | nil => intro b _ r hr; cases hr
  | cons x t ih =>
    intro b h r hr
    obtain ⟨h1, h2, h3⟩ := (rise_cons _ _ _).1 h
    rcases List.mem_cons.1 hr with rfl | hr
    · exact h1
    · exact ih _ h3 r hr
theorem shifts_loop (base K : Int) (l : List S28) (hl : HR.Sh.wts HR.shRec.wt l ≤ 1048576) (hb : okBase base = true) (hr : rise base l = true) (hb2 : base ≤ 549755813888) (hK : 0 ≤ K) (hK2 : K ≤ 65535) : ∀ (d k i : Nat), d + i = l.length → d + l.length + 5 < k → (∀ r ∈ l.take i, r.f0 ≤ 549755813888) →
    postroadlaw09_RecordShifts.l0 k l base K (recsB base l) ((l.take i).map (shift K)) (i : Int) = some true := by
  have hll := HR.recs_len l
  obtain ⟨b0, b1⟩ := (okBase_iff base).1 hb
  intro d
  induction d with
  | zero =>
    intro k i hi hk ht
    obtain ⟨k, rfl⟩ : ∃ m, k = m + 1 := ⟨k - 1, by omega⟩
    rw [List.take_of_length_le (by omega)] at ht ⊢
    have hs := (recs_bd base b0 l base hr).2
    have hw : wrap64 (base + K) = base + K := wrap64_id _ (by omega) (by omega)
    have hb3 : okBase (base + K) = true := (okBase_iff _).2 (by omega)
    have hr3 := rise_shift K hK hK2 l base hr ht
    have hof : record_Of.f (recsB base l) (base + K) (l.length : Int) = some (l.map (shift K), 0) := by
      have := recOf_at (base + K) (l.map (shift K)) ⟨#[]⟩ hb3 hr3 (by rw [recsB_shift]; show _ + 0 ≤ _; omega)
      rw [ba_nil, recsB_shift, List.length_map] at this
      exact this
    rw [postroadlaw09_RecordShifts.l0, if_neg (by omega), hw, bytes_f _ _ (by rw [List.length_map]; omega), Option.bind_some, if_pos ⟨hb3, hr3⟩, hof, Option.bind_some, if_pos rfl, recsB_shift, if_pos rfl, if_pos rfl, same_f _ (by rw [List.length_map]; omega) _ (by rw [List.length_map]; omega), Option.bind_some, if_pos rfl]
    rfl
  | succ d ih =>
    intro k i hi hk ht
    obtain ⟨k, rfl⟩ : ∃ m, k = m + 1 := ⟨k - 1, by omega⟩
    rw [postroadlaw09_RecordShifts.l0, if_pos (by omega), if_pos (by omega)]
    have hx : l[i]? = some (rd_T28 l (i : Int)) := by
      have : i < l.length := by omega
      simp [rd_T28, List.getD_eq_getElem?_getD, this]
    have hok := (okRec_iff _).1 (rise_mem l base hr _ (List.mem_of_getElem? hx))
    obtain ⟨r, hrr⟩ : ∃ r, rd_T28 l (i : Int) = r := ⟨_, rfl⟩
    rw [hrr] at hx hok ⊢
    by_cases hbig : r.f0 > 549755813888
    · rw [if_pos hbig]
      rfl
    · have hw : wrap64 (r.f0 + K) = r.f0 + K := wrap64_id _ (by omega) (by omega)
      have htk : l.take (i + 1) = l.take i ++ [r] := by rw [List.take_add_one, hx]; rfl
      rw [if_neg hbig, if_pos (by rw [List.length_map, List.length_take]; omega), w64n i (by omega), hw]
      have := ih k (i + 1) (by omega) (by omega) (by
        rw [htk]
        intro x hx2
        rcases List.mem_append.1 hx2 with h | h
        · exact ht x h
        · rw [List.mem_singleton.1 h]; omega)
      rw [htk, List.map_append] at this
      exact this
theorem RecordShifts (l : List S28) (base by_ : Int) (hl : HR.Sh.wts HR.shRec.wt l ≤ 1048576) : ∃ k, postroadlaw09_RecordShifts.f k l base by_ = some true := ⟨l.length + l.length + 20, by
  have hll := HR.recs_len l
  unfold postroadlaw09_RecordShifts.f
  rw [bytes_f l base (by omega), Option.bind_some]
  obtain ⟨K, hK, hK2⟩ := and_any by_ 65535 (by decide)
  rw [show ((65535 : Nat) : Int) = 65535 from rfl] at hK
  rw [hK]
  by_cases h : okBase base = true ∧ rise base l = true
  · rw [if_pos h, if_pos rfl, postroadlaw09_RecordShifts.j0]
    by_cases hb : base > 549755813888
    · rw [decide_eq_true hb, if_pos rfl, if_pos rfl]
      rfl
    · rw [decide_eq_false hb, if_neg (by decide)]
      have := shifts_loop base K l hl h.1 h.2 (by omega) (Int.natCast_nonneg _) (by omega) l.length (l.length + l.length + 19) 0 (by omega) (by omega) (by simp)
      exact this
  · rw [if_neg h, if_neg (by decide), postroadlaw09_RecordShifts.j0, if_pos rfl, if_neg (by decide), rise_f l base (by omega) _ (by omega), Option.bind_some, if_neg (fun e => h (by simpa using e))]
    rfl⟩
end Go.Proofs.Ytjdicocmajjojaa.PZ
