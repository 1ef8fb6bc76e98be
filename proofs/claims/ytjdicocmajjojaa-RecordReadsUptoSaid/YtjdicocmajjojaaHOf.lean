/- record.Of: what it comes to. -/
import Derived.Test.YtjdicocmajjojaaHBytes
namespace Go.Proofs.Ytjdicocmajjojaa.RO
open Go.RowKit Go.Proofs.YtjdicocmajjojaaW.PrintWords Go.Proofs.YtjdicocmajjojaaW.PrintLast Go.Proofs.YtjdicocmajjojaaW.PrintMore Go.Proofs.Ytjdicocmajjojaa.MB Go.Proofs.Ytjdicocmajjojaa.HW Go.Proofs.Ytjdicocmajjojaa.Fn Go.Proofs.Ytjdicocmajjojaa.PV Go.Proofs.Ytjdicocmajjojaa.RB
attribute [local go_sem] max2_int min2_int max_two min_two max_three min_three max_four min_four   -- for this text's walks alone
theorem vr_ok (b : Nat → Nat) (sz : Nat) : ∀ (d i a : Nat), i ≤ sz → (vr b sz d i a).2.2 = 0 → 0 ≤ (vr b sz d i a).1 ∧ (i : Int) < (vr b sz d i a).2.1 ∧ (vr b sz d i a).2.1 ≤ sz := by
  intro d
  induction d with
  | zero => intro i a hi h; simp [vr] at h
  | succ d ih =>
    intro i a hi h
    rw [vr] at h ⊢
    by_cases h1 : sz ≤ i
    · rw [if_pos h1] at h; simp at h
    · rw [if_neg h1] at h ⊢
      by_cases h2 : b i < 128
      · rw [if_pos h2] at h ⊢
        by_cases h3 : b i = 0 ∧ 0 < i
        · rw [if_pos h3] at h; simp at h
        · rw [if_neg h3] at h ⊢
          exact ⟨Int.natCast_nonneg _, by show (i : Int) < ((i + 1 : Nat) : Int); omega, by show ((i + 1 : Nat) : Int) ≤ _; omega⟩
      · rw [if_neg h2] at h ⊢
        obtain ⟨q1, q2, q3⟩ := ih (i + 1) _ (by omega) h
        exact ⟨q1, by omega, q3⟩
theorem var_ok (s : ByteArray) (h : (var_ s).2.2 = 0) : 0 ≤ (var_ s).1 ∧ 0 < (var_ s).2.1 ∧ (var_ s).2.1 ≤ s.size := vr_ok _ s.size 9 0 0 (Nat.zero_le _) h
/-- A number of the bytes: it, what is behind, and whether. -/
def nm (s : ByteArray) (ok : Bool) (most : Int) : Int × ByteArray × Bool := if (var_ s).2.2 ≠ 0 ∨ most < (var_ s).1 then (0, s, false) else ((var_ s).1, s.extract (var_ s).2.1.toNat s.size, ok)
def tx (s : ByteArray) (ok : Bool) (size : Int) : ByteArray × ByteArray × Bool := if ok = false ∨ (s.size : Int) < size then (⟨#[]⟩, s, false) else (s.extract 0 size.toNat, s.extract size.toNat s.size, ok)
theorem extract_size (s : ByteArray) (a b : Nat) (h : b ≤ s.size) : (s.extract a b).size = b - a := by rw [ByteArray.size_extract]; omega
theorem nm_bd (s : ByteArray) (ok : Bool) (most : Int) (hm : 0 ≤ most) : 0 ≤ (nm s ok most).1 ∧ (nm s ok most).1 ≤ most ∧ (nm s ok most).2.1.size ≤ s.size ∧ ((nm s ok most).2.2 = true → (nm s ok most).2.1.size < s.size ∧ ok = true) := by
  unfold nm
  by_cases h : (var_ s).2.2 ≠ 0 ∨ most < (var_ s).1
  · rw [if_pos h]; exact ⟨Int.le_refl _, hm, Nat.le_refl _, fun h => by simp at h⟩
  · rw [if_neg h]
    have h0 : (var_ s).2.2 = 0 := Classical.not_not.1 (fun e => h (Or.inl e))
    obtain ⟨q1, q2, q3⟩ := var_ok s h0
    have h1 : ¬ most < (var_ s).1 := fun e => h (Or.inr e)
    have e := extract_size s (var_ s).2.1.toNat s.size (Nat.le_refl _)
    exact ⟨q1, by show (var_ s).1 ≤ most; omega, by show (s.extract _ _).size ≤ _; omega, fun hh => ⟨by show (s.extract _ _).size < _; omega, hh⟩⟩
theorem tx_bd (s : ByteArray) (ok : Bool) (size : Int) : (tx s ok size).1.size ≤ s.size ∧ (tx s ok size).2.1.size ≤ s.size ∧ ((tx s ok size).2.2 = true → ok = true) := by
  unfold tx
  by_cases h : ok = false ∨ (s.size : Int) < size
  · rw [if_pos h]; exact ⟨Nat.zero_le _, Nat.le_refl _, fun h => by simp at h⟩
  · rw [if_neg h]
    have h1 : ¬ (s.size : Int) < size := fun e => h (Or.inr e)
    have e := extract_size s size.toNat s.size (Nat.le_refl _)
    have e2 := extract_size s 0 size.toNat (by omega)
    exact ⟨by show (s.extract _ _).size ≤ _; omega, by show (s.extract _ _).size ≤ _; omega, fun hh => hh⟩
/-- What the two closures turn. -/
structure St (W : World) (gs go : Nat) (s : ByteArray) (ok : Bool) : Prop where
  bs : W.heap[gs]? = some (.cells #[.string s] 9 (0, 0))
  bo : W.heap[go]? = some (.cells #[.bool ok] 4 (0, 0))
def SS (gs go : Nat) (k : Nat) : Prop := k = gs ∨ k = go
theorem St.ne {W : World} {gs go : Nat} {s : ByteArray} {ok : Bool} (h : St W gs go s ok) : gs ≠ go := fun e => by
  have h1 := h.bs
  rw [e, h.bo] at h1
  injection h1 with h1
  injection h1 with h1 h2
  exact absurd h2 (by decide)
theorem St.c0 {W : World} {gs go : Nat} {s : ByteArray} {ok : Bool} (h : St W gs go s ok) : W.cell? ⟨gs, 0, none⟩ = some (.string s) := (blk_cell h.bs 0).trans rfl
theorem St.c1 {W : World} {gs go : Nat} {s : ByteArray} {ok : Bool} (h : St W gs go s ok) : W.cell? ⟨go, 0, none⟩ = some (.bool ok) := (blk_cell h.bo 0).trans rfl
theorem St.sets {W : World} {gs go : Nat} {s : ByteArray} {ok : Bool} (h : St W gs go s ok) (t : ByteArray) : St (W.setCell ⟨gs, 0, none⟩ (.string t)) gs go t ok :=
  ⟨by have := blk_set h.bs 0 (.string t); simpa using this, blk_far h.bo (p := ⟨gs, 0, none⟩) (fun e => h.ne e.symm) _⟩
theorem St.seto {W : World} {gs go : Nat} {s : ByteArray} {ok : Bool} (h : St W gs go s ok) (b : Bool) : St (W.setCell ⟨go, 0, none⟩ (.bool b)) gs go s b :=
  ⟨blk_far h.bs (p := ⟨go, 0, none⟩) h.ne _, by have := blk_set h.bo 0 (.bool b); simpa using this⟩
theorem St.below {W W1 : World} {gs go : Nat} {s : ByteArray} {ok : Bool} (h : St W gs go s ok) (hb : Below W.heap.size W W1) : St W1 gs go s ok :=
  ⟨(hb.block _ (blk_lt h.bs)).trans h.bs, (hb.block _ (blk_lt h.bo)).trans h.bo⟩
set_option maxHeartbeats 1000000 in
set_option maxRecDepth 100000 in
theorem num_any (gs go : Nat) (s : ByteArray) (ok : Bool) (most : Int) (w : World) (h : St w gs go s ok) (hs : s.size ≤ 1000000000) :
    Calls Try.prog 23 #[.int .i64 most, .pointer (some ⟨gs, 0, none⟩), .pointer (some ⟨go, 0, none⟩)] w fun e w' => e = .returned (.int .i64 (nm s ok most).1) ∧ St w' gs go (nm s ok most).2.1 (nm s ok most).2.2 ∧ Fr (SS gs go) w w' := by
  obtain ⟨⟨x, k, er⟩, hv⟩ : ∃ v, var_ s = v := ⟨_, rfl⟩
  have hf := var_f s (by omega)
  rw [hv] at hf
  have hok := var_ok s
  rw [hv] at hok
  obtain ⟨⟨rv, rs, ro⟩, hR⟩ : ∃ v, nm s ok most = v := ⟨_, rfl⟩
  rw [hR]
  unfold nm at hR
  rw [hv] at hR
  have HF := Aside0.mk hf
  have H := Aside0.mk h
  have c0 := h.c0
  clear hf h hv
  go_enter Try.func23, Try.ntmps23
  go_wp2_with fail
  refine (bits_Var.calls 10 s x k er _ HF.out).mono ?_
  rintro e w1 ⟨rfl, ⟨nd, rfl⟩⟩
  have hb : Below w.heap.size w (w.drewN nd) := pw_below_drewN (Below.refl _ _) nd
  have H1 := Aside0.mk (H.out.below hb)
  have F1 := Aside0.mk (Fr.of_below_all hb (SS gs go))
  clear hb c0
  generalize w.drewN nd = w1 at H1 F1 ⊢
  have c0 := H1.out.c0
  have c1 := H1.out.c1
  have z0 := blk_frozen H1.out.bs 0
  have z1 := blk_frozen H1.out.bo 0
  by_cases he : er = 0
  · subst he
    obtain ⟨q1, q2, q3⟩ := hok rfl
    by_cases hx : most < x
    · rw [if_pos (Or.inr hx)] at hR
      simp only [Prod.mk.injEq] at hR
      obtain ⟨rfl, rfl, rfl⟩ := hR
      have b1 : decide (most < x) = true := by simpa using hx
      clear hx hok
      go_wp2_with fail
      go_ret
      exact ⟨rfl, H1.out.seto false, F1.out.setCell (Or.inl (Or.inr rfl)) _⟩
    · rw [if_neg (by simp; omega)] at hR
      simp only [Prod.mk.injEq] at hR
      obtain ⟨rfl, rfl, rfl⟩ := hR
      have b1 : decide (most < x) = false := by simp; omega
      have p1 : 0 ≤ k := by show (0 : Int) ≤ k; have : (0:Int) < k := q2; omega
      have p2 : k ≤ (s.size : Int) := q3
      have p1b := decide_eq_true p1
      have p2b := decide_eq_true p2
      clear hx hok q1 q2 q3
      go_wp2_with fail
      go_ret
      exact ⟨rfl, H1.out.sets _, F1.out.setCell (Or.inl (Or.inl rfl)) _⟩
  · rw [if_pos (Or.inl he)] at hR
    simp only [Prod.mk.injEq] at hR
    obtain ⟨rfl, rfl, rfl⟩ := hR
    have b2 : (er != 0) = true := by simpa using he
    clear he hok
    go_wp2_with fail
    go_ret
    exact ⟨rfl, H1.out.seto false, F1.out.setCell (Or.inl (Or.inr rfl)) _⟩
set_option maxHeartbeats 1000000 in
set_option maxRecDepth 100000 in
theorem txt_any (gs go : Nat) (s : ByteArray) (ok : Bool) (size : Int) (w : World) (h : St w gs go s ok) (hs : s.size ≤ 1000000000) (h0 : 0 ≤ size) :
    Calls Try.prog 25 #[.int .i64 size, .pointer (some ⟨go, 0, none⟩), .pointer (some ⟨gs, 0, none⟩)] w fun e w' => e = .returned (.string (tx s ok size).1) ∧ St w' gs go (tx s ok size).2.1 (tx s ok size).2.2 ∧ Fr (SS gs go) w w' := by
  have H := Aside0.mk h
  have c0 := h.c0
  have c1 := h.c1
  have z0 := blk_frozen h.bs 0
  have z1 := blk_frozen h.bo 0
  obtain ⟨⟨rv, rs, ro⟩, hR⟩ : ∃ v, tx s ok size = v := ⟨_, rfl⟩
  rw [hR]
  unfold tx at hR
  clear h
  cases ok with
  | false =>
    rw [if_pos (Or.inl rfl)] at hR
    simp only [Prod.mk.injEq] at hR
    obtain ⟨rfl, rfl, rfl⟩ := hR
    go_enter Try.func25, Try.ntmps25
    go_wp2_with fail
    go_ret
    exact ⟨rfl, H.out.seto false, (Fr.refl _ _).setCell (Or.inl (Or.inr rfl)) _⟩
  | true =>
    by_cases hx : (s.size : Int) < size
    · rw [if_pos (Or.inr hx)] at hR
      simp only [Prod.mk.injEq] at hR
      obtain ⟨rfl, rfl, rfl⟩ := hR
      have b1 : decide ((s.size : Int) < size) = true := by simpa using hx
      clear hx
      go_enter Try.func25, Try.ntmps25
      go_wp2_with fail
      go_ret
      exact ⟨rfl, H.out.seto false, (Fr.refl _ _).setCell (Or.inl (Or.inr rfl)) _⟩
    · rw [if_neg (by simp; omega)] at hR
      simp only [Prod.mk.injEq] at hR
      obtain ⟨rfl, rfl, rfl⟩ := hR
      have b1 : decide ((s.size : Int) < size) = false := by simp; omega
      have p2 : size ≤ (s.size : Int) := by omega
      have p1b := decide_eq_true h0
      have p2b := decide_eq_true p2
      clear hx
      go_enter Try.func25, Try.ntmps25
      go_wp2_with fail
      go_ret
      exact ⟨rfl, H.out.sets _, (Fr.refl _ _).setCell (Or.inl (Or.inl rfl)) _⟩
/-- One record of the bytes: the numbers and texts (d, key, size, value), what is behind, and whether. -/
inductive Steps (base : Int) (s : ByteArray) : S28 → ByteArray → Bool → Prop
  | gone {d n v : Int} {s1 s2 s3 s4 key : ByteArray} {o1 o2 o3 o4 : Bool} (h1 : nm s true 1099511627776 = (d, s1, o1)) (h2 : nm s1 o1 64 = (n, s2, o2)) (h3 : tx s2 o2 n = (key, s3, o3)) (h4 : nm s3 o3 4097 = (v, s4, o4)) (h5 : v = 0) : Steps base s ⟨base + d, key, ⟨#[]⟩, true⟩ s4 o4
  | here {d n v : Int} {s1 s2 s3 s4 s5 key val : ByteArray} {o1 o2 o3 o4 o5 : Bool} (h1 : nm s true 1099511627776 = (d, s1, o1)) (h2 : nm s1 o1 64 = (n, s2, o2)) (h3 : tx s2 o2 n = (key, s3, o3)) (h4 : nm s3 o3 4097 = (v, s4, o4)) (h5 : v ≠ 0) (h6 : tx s4 o4 (v - 1) = (val, s5, o5)) : Steps base s ⟨base + d, key, val, false⟩ s5 o5
def one (base : Int) (s : ByteArray) : S28 × ByteArray × Bool :=
  match nm s true 1099511627776 with
  | (d, s1, o1) => match nm s1 o1 64 with
    | (n, s2, o2) => match tx s2 o2 n with
      | (key, s3, o3) => match nm s3 o3 4097 with
        | (v, s4, o4) => if v = 0 then (⟨base + d, key, ⟨#[]⟩, true⟩, s4, o4) else
          match tx s4 o4 (v - 1) with
          | (val, s5, o5) => (⟨base + d, key, val, false⟩, s5, o5)
theorem one_steps (base : Int) (s : ByteArray) : Steps base s (one base s).1 (one base s).2.1 (one base s).2.2 := by
  unfold one
  obtain ⟨⟨d, s1, o1⟩, h1⟩ : ∃ v, nm s true 1099511627776 = v := ⟨_, rfl⟩
  rw [h1]
  simp only
  obtain ⟨⟨n, s2, o2⟩, h2⟩ : ∃ v, nm s1 o1 64 = v := ⟨_, rfl⟩
  rw [h2]
  simp only
  obtain ⟨⟨key, s3, o3⟩, h3⟩ : ∃ v, tx s2 o2 n = v := ⟨_, rfl⟩
  rw [h3]
  simp only
  obtain ⟨⟨v, s4, o4⟩, h4⟩ : ∃ v, nm s3 o3 4097 = v := ⟨_, rfl⟩
  rw [h4]
  simp only
  by_cases h5 : v = 0
  · rw [if_pos h5]
    exact .gone h1 h2 h3 h4 h5
  · rw [if_neg h5]
    obtain ⟨⟨val, s5, o5⟩, h6⟩ : ∃ x, tx s4 o4 (v - 1) = x := ⟨_, rfl⟩
    rw [h6]
    exact .here h1 h2 h3 h4 h5 h6
def ofl (base n : Int) : Nat → Int → List S28 → ByteArray → List S28 × Int
  | 0, _, _, _ => ([], 90)
  | k + 1, next, out, s =>
    if (out.length : Int) < n then
      if (one base s).2.2 = true ∧ okRec (one base s).1 = true ∧ next ≤ (one base s).1.f0 then ofl base n k ((one base s).1.f0 + 1) (out ++ [(one base s).1]) (one base s).2.1 else ([], 90)
    else if s.size = 0 then (out, 0) else ([], 90)
def recOf (s : ByteArray) (base n : Int) : Option (List S28 × Int) :=
  if base < 0 ∨ 1099511627776 ≤ base ∨ n < 0 then some ([], 90) else if s.size ≤ 1000000000 then some (ofl base n (s.size + 1) base [] s) else none
theorem of_bad (s : ByteArray) (base n : Int) (w : World) (hb : base < 0 ∨ 1099511627776 ≤ base ∨ n < 0) :
    Calls Try.prog 14 #[.string s, .int .i64 base, .int .i64 n] w fun e w' => ∃ v0_ : Value, e = .returned (.tuple #[v0_, .int .i64 90]) ∧ Kd.R k28 28 w' w.heap.size (fun _ => True) v0_ [] ∧ Below w.heap.size w w' := by
  have hB := below_alloc (Below.refl w.heap.size w) (.cells #[.string s] 9)
  by_cases c1 : base < 0
  · have b1 : decide (base < 0) = true := by simpa using c1
    clear c1 hb
    go_enter Try.func14, Try.ntmps14
    go_wp2
    go_ret2
    exact ⟨_, rfl, Kd.R_nil _ _ _ _ _, hB⟩
  · have b1 : decide (base < 0) = false := by simp; omega
    by_cases c2 : 1099511627776 ≤ base
    · have b2 : decide (1099511627776 ≤ base) = true := by simp; omega
      clear c1 c2 hb
      go_enter Try.func14, Try.ntmps14
      go_wp2
      go_ret2
      exact ⟨_, rfl, Kd.R_nil _ _ _ _ _, hB⟩
    · have b2 : decide (1099511627776 ≤ base) = false := by simp; omega
      have b3 : decide (n < 0) = true := by simp; omega
      clear c1 c2 hb
      go_enter Try.func14, Try.ntmps14
      go_wp2
      go_ret2
      exact ⟨_, rfl, Kd.R_nil _ _ _ _ _, hB⟩
theorem num_eq {gs go : Nat} {s : ByteArray} {ok : Bool} {most : Int} {rv : Int} {rs : ByteArray} {ro : Bool} (hR : nm s ok most = (rv, rs, ro)) {w : World} (h : St w gs go s ok) (hs : s.size ≤ 1000000000) :
    Calls Try.prog 23 #[.int .i64 most, .pointer (some ⟨gs, 0, none⟩), .pointer (some ⟨go, 0, none⟩)] w fun e w' => e = .returned (.int .i64 rv) ∧ St w' gs go rs ro ∧ Fr (SS gs go) w w' := by
  have h2 := num_any gs go s ok most w h hs
  rw [hR] at h2
  exact h2
theorem txt_eq {gs go : Nat} {s : ByteArray} {ok : Bool} {size : Int} {rv rs : ByteArray} {ro : Bool} (hR : tx s ok size = (rv, rs, ro)) {w : World} (h : St w gs go s ok) (hs : s.size ≤ 1000000000) (h0 : 0 ≤ size) :
    Calls Try.prog 25 #[.int .i64 size, .pointer (some ⟨go, 0, none⟩), .pointer (some ⟨gs, 0, none⟩)] w fun e w' => e = .returned (.string rv) ∧ St w' gs go rs ro ∧ Fr (SS gs go) w w' := by
  have h2 := txt_any gs go s ok size w h hs h0
  rw [hR] at h2
  exact h2
/-- Inside a round: the closures' cells, the new record's block, the row. -/
structure LS (w W : World) (g q : Nat) (s : ByteArray) (ok : Bool) (r : S28) (v : Value) (xs : List S28) : Prop where
  st : St W g (g + 1) s ok
  rb : RBlk W q r
  ro : Kd.R k28 28 W g (fun k => (k ≠ g ∧ k ≠ g + 1) ∧ k ≠ q) v xs
  be : Below g w W
  hq : g + 1 < q
theorem LS.step {w W W' : World} {g q : Nat} {s s' : ByteArray} {ok ok' : Bool} {r : S28} {v : Value} {xs : List S28} (h : LS w W g q s ok r v xs) (hs : St W' g (g + 1) s' ok') (hf : Fr (SS g (g + 1)) W W') : LS w W' g q s' ok' r v xs where
  st := hs
  rb := hf.blk h.rb (fun e => by have := h.hq; rcases e with e | e <;> omega)
  ro := Kd.R_step h.ro (fun k hk hlt => hf.block k hlt (fun e => e.elim hk.1.1 hk.1.2))
  be := h.be.trans (hf.below (Nat.le_of_lt (blk_lt h.st.bs)) (fun k hk => by rcases hk with e | e <;> omega))
  hq := h.hq
theorem LS.below {w W W' : World} {g q : Nat} {s : ByteArray} {ok : Bool} {r : S28} {v : Value} {xs : List S28} (h : LS w W g q s ok r v xs) (hb : Below W.heap.size W W') : LS w W' g q s ok r v xs :=
  h.step (h.st.below hb) (Fr.of_below_all hb _)
theorem LS.set {w W : World} {g q : Nat} {s : ByteArray} {ok : Bool} {r r' : S28} {v : Value} {xs : List S28} (h : LS w W g q s ok r v xs) (j : Nat) (u : Value) (hr : RBlk (W.setCell ⟨q, j, none⟩ u) q r') : LS w (W.setCell ⟨q, j, none⟩ u) g q s ok r' v xs where
  st := ⟨blk_far h.st.bs (p := ⟨q, j, none⟩) (fun e => by have := h.hq; have e : g = q := e; omega) u, blk_far h.st.bo (p := ⟨q, j, none⟩) (fun e => by have := h.hq; have e : g + 1 = q := e; omega) u⟩
  rb := hr
  ro := Kd.R_far h.ro (p := ⟨q, j, none⟩) (fun k hk => hk.2) u
  be := h.be.setCell (p := ⟨q, j, none⟩) (by have := h.hq; show g ≤ q; omega) u
  hq := h.hq
theorem LS.set1 {w W : World} {g q : Nat} {s : ByteArray} {ok : Bool} {r : S28} {v : Value} {xs : List S28} (h : LS w W g q s ok r v xs) (t : ByteArray) : LS w (W.setCell ⟨q, 1, none⟩ (.string t)) g q s ok ⟨r.f0, t, r.f2, r.f3⟩ v xs :=
  h.set 1 _ (by have := blk_set h.rb 1 (.string t); unfold RBlk; simpa using this)
theorem LS.set2 {w W : World} {g q : Nat} {s : ByteArray} {ok : Bool} {r : S28} {v : Value} {xs : List S28} (h : LS w W g q s ok r v xs) (t : ByteArray) : LS w (W.setCell ⟨q, 2, none⟩ (.string t)) g q s ok ⟨r.f0, r.f1, t, r.f3⟩ v xs :=
  h.set 2 _ (by have := blk_set h.rb 2 (.string t); unfold RBlk; simpa using this)
theorem LS.set3 {w W : World} {g q : Nat} {s : ByteArray} {ok : Bool} {r : S28} {v : Value} {xs : List S28} (h : LS w W g q s ok r v xs) (t : Bool) : LS w (W.setCell ⟨q, 3, none⟩ (.bool t)) g q s ok ⟨r.f0, r.f1, r.f2, t⟩ v xs :=
  h.set 3 _ (by have := blk_set h.rb 3 (.bool t); unfold RBlk; simpa using this)
theorem LS.new {w W : World} {g : Nat} {s : ByteArray} {ok : Bool} {v : Value} {xs : List S28} (hs : St W g (g + 1) s ok) (ho : Kd.R k28 28 W g (fun k => k ≠ g ∧ k ≠ g + 1) v xs) (hb : Below g w W) (r : S28) :
    LS w (W.alloc (.cells #[.int .i64 r.f0, .string r.f1, .string r.f2, .bool r.f3] 28)) g W.heap.size s ok r v xs where
  st := hs.below (below_alloc (Below.refl _ _) _)
  rb := heap_alloc_new W _
  ro := Kd.R_alloc (Kd.R_elderB ho _ (Nat.le_refl _)) _
  be := hb.trans ((below_alloc (Below.refl _ _) _).mono (Nat.le_of_lt (blk_lt hs.bs)))
  hq := blk_lt hs.bo
set_option maxHeartbeats 4000000 in
set_option maxRecDepth 100000 in
theorem of_good (s : ByteArray) (base n : Int) (r1 : List S28) (r2 : Int) (w : World) (hb0 : 0 ≤ base) (hb1 : base < 1099511627776) (hn : 0 ≤ n) (hs : s.size ≤ 1000000000) (h : ofl base n (s.size + 1) base [] s = (r1, r2)) :
    Calls Try.prog 14 #[.string s, .int .i64 base, .int .i64 n] w fun e w' => ∃ v0_ : Value, e = .returned (.tuple #[v0_, .int .i64 r2]) ∧ Kd.R k28 28 w' w.heap.size (fun _ => True) v0_ r1 ∧ Below w.heap.size w w' := by
  have hu2 := Try.underlying28
  have b1 : decide (base < 0) = false := by simp; omega
  have b2 : decide (1099511627776 ≤ base) = false := by simp; omega
  have b3 : decide (n < 0) = false := by simp; omega
  have hmf : ∀ (fn : Fn) (first cap : Array Value) (w : World), (Instr.makeFunc fn first cap).run Try.prog w = .ok (.func fn first cap) w := fun _ _ _ _ => rfl
  have HH := Aside0.mk h
  have HSZ := Aside0.mk hs
  have HBN := Aside0.mk (And.intro hb0 hb1)
  clear h hs hb0 hb1 hn
  go_enter Try.func14, Try.ntmps14
  go_wp2_with fail
  clear b1 b2 b3 hmf
  have HB := Aside0.mk (below_alloc (below_alloc (Below.refl w.heap.size w) (.cells #[.string s] 9)) (.cells #[.bool true] 4))
  have HS := Aside0.mk (show St ((w.alloc (.cells #[.string s] 9)).alloc (.cells #[.bool true] 4)) w.heap.size (w.heap.size + 1) s true from
    ⟨((below_alloc (Below.refl _ _) _).block _ (Nat.lt_of_lt_of_le (Nat.lt_succ_self _) (Nat.le_of_eq (Array.size_push _).symm))).trans (heap_alloc_new w _), by have := heap_alloc_new (w.alloc (.cells #[.string s] 9)) (.cells #[.bool true] 4); rwa [show (w.alloc (.cells #[.string s] 9)).heap.size = w.heap.size + 1 from Array.size_push _] at this⟩)
  generalize ((w.alloc (.cells #[.string s] 9)).alloc (.cells #[.bool true] 4)) = w1 at HB HS ⊢
  obtain ⟨g, hg⟩ : ∃ g, w.heap.size = g := ⟨_, rfl⟩
  rw [hg] at HB HS
  rw [hg]
  have HG := Aside0.mk hg
  clear hg
  have HO := Aside0.mk (Kd.R_nil k28 28 w1 g (fun k => k ≠ g ∧ k ≠ g + 1))
  go_loopg [11, 12] (s.size + 1) (fun kq v11 v12 wr => ∃ (xs : List S28) (cur : ByteArray) (next : Int), v12 = .int .i64 next ∧ 0 ≤ next ∧ next ≤ 1099511627776 ∧ Aside0 (ofl base n kq next xs cur = (r1, r2)) ∧ Aside0 (cur.size < kq) ∧ Aside0 (xs.length + cur.size ≤ s.size) ∧ Aside0 (St wr g (g + 1) cur true) ∧ Aside0 (Kd.R k28 28 wr g (fun k => k ≠ g ∧ k ≠ g + 1) v11 xs) ∧ Aside0 (Below g w wr))
  case atStart => exact ⟨[], s, base, rfl, HBN.out.1, Int.le_of_lt HBN.out.2, HH, ⟨Nat.lt_succ_self _⟩, ⟨by simp⟩, HS, HO, HB⟩
  case round =>
    clear HH HS HO HB
    obtain ⟨xs, cur, next, rfl, hx0, hx1, HH, HK, HL, HS, HO, HB⟩ := hrel
    obtain ⟨A1, c1, rfl⟩ := Kd.R_slice HO.out
    cases gk with
    | zero => exact absurd HK.out (Nat.not_lt_zero _)
    | succ k =>
      have hC := HS.out.c0
      have hfin := HH.out
      rw [ofl] at hfin
      by_cases hlt : (xs.length : Int) < n
      · rw [if_pos hlt] at hfin
        have b1 : decide ((xs.length : Int) < n) = true := by simpa using hlt
        have hst := one_steps base cur
        obtain ⟨⟨r, s', o'⟩, hone⟩ : ∃ v, one base cur = v := ⟨_, rfl⟩
        rw [hone] at hst hfin
        simp only at hst hfin
        have HH2 := Aside0.mk hfin
        clear hfin hone hlt HH
        cases hst with
        | @gone d nk v s1 s2 s3 s4 key o1 o2 o3 o4 h1 h2 h3 h4 h5 =>
          have e1 := nm_bd cur true 1099511627776 (by decide)
          rw [h1] at e1
          have e2 := nm_bd s1 o1 64 (by decide)
          rw [h2] at e2
          have e3 := tx_bd s2 o2 nk
          rw [h3] at e3
          have e4 := nm_bd s3 o3 4097 (by decide)
          rw [h4] at e4
          simp only at e1 e2 e3 e4
          have hw1 : wrap64 (base + d) = base + d := wrap64_id _ (by have := HBN.out; omega) (by have := HBN.out; omega)
          have HW := Aside0.mk hw1
          have HE := Aside0.mk (And.intro e1 (And.intro e2 (And.intro e3 e4)))
          have HZ := Aside0.mk (show cur.size ≤ 1000000000 by have := HL.out; have := HSZ.out; omega)
          have H1 := Aside0.mk h1
          have H2 := Aside0.mk h2
          have H3 := Aside0.mk h3
          have H4 := Aside0.mk h4
          clear h1 h2 h3 h4 e1 e2 e3 e4 hw1
          go_wp2_with fail
          refine (num_eq H1.out HS.out HZ.out).mono ?_
          rintro e w1 ⟨rfl, hS, hF⟩
          have HN := Aside0.mk (LS.new hS (Kd.R_step HO.out (fun k hk hlt => hF.block k hlt (fun e => e.elim hk.1 hk.2))) (HB.out.trans (hF.below (Nat.le_of_lt (blk_lt HS.out.bs)) (fun k hk => by rcases hk with e | e <;> omega))) ⟨base + d, ⟨#[]⟩, ⟨#[]⟩, false⟩)
          clear hS hF hC
          go_wp2_with fail
          rw [HW.out]
          obtain ⟨q, hq⟩ : ∃ q, w1.heap.size = q := ⟨_, rfl⟩
          rw [hq] at HN
          rw [hq]
          clear hq
          generalize w1.alloc (.cells #[.int .i64 (base + d), .string ⟨#[]⟩, .string ⟨#[]⟩, .bool false] 28) = w2 at HN ⊢
          refine (num_eq H2.out HN.out.st (by have := HE.out; have := HZ.out; omega)).mono ?_
          rintro e w3 ⟨rfl, hS, hF⟩
          have HN3 := Aside0.mk (HN.out.step hS hF)
          clear hS hF HN
          go_wp2_with fail
          refine (txt_eq H3.out HN3.out.st (by have := HE.out; have := HZ.out; omega) (by have := HE.out; omega)).mono ?_
          rintro e w4 ⟨rfl, hS, hF⟩
          have HN4 := Aside0.mk (HN3.out.step hS hF)
          clear hS hF HN3
          have d1 := HN4.out.rb.c1
          have z1 := blk_frozen HN4.out.rb 1
          go_wp2_with fail
          have HN5 := Aside0.mk (HN4.out.set1 key)
          clear d1 z1 HN4
          generalize w4.setCell ⟨q, 1, none⟩ (.string key) = w5 at HN5 ⊢
          refine (num_eq H4.out HN5.out.st (by have := HE.out; have := HZ.out; omega)).mono ?_
          rintro e w6 ⟨rfl, hS, hF⟩
          have HN6 := Aside0.mk (HN5.out.step hS hF)
          clear hS hF HN5
          subst h5
          have HEa := Aside0.mk (show s'.size < cur.size ∨ o' = false by
            have a1 := HE.out
            cases o' with
            | false => exact Or.inr rfl
            | true =>
              left
              have b4 := a1.2.2.2.2.2.2 rfl
              omega)
          have d3 := HN6.out.rb.c3
          have z3 := blk_frozen HN6.out.rb 3
          go_upto_region 15 with (fail)
          have HN7 := Aside0.mk (HN6.out.set3 true)
          clear HN6 d3 z3
          generalize w6.setCell ⟨q, 3, none⟩ (.bool true) = w7 at HN7 ⊢
          have HN7 : Aside0 (LS w w7 g q s' o' (⟨base + d, key, (⟨#[]⟩ : ByteArray), true⟩ : S28) (.slice A1 xs.length c1) xs) := HN7
          have co := HN7.out.st.c1
          have d0 : w7.cell? ⟨q, 0, none⟩ = some (.int .i64 (base + d)) := HN7.out.rb.c0
          have d1 : w7.cell? ⟨q, 1, none⟩ = some (.string key) := HN7.out.rb.c1
          have d2 : w7.cell? ⟨q, 2, none⟩ = some (.string (⟨#[]⟩ : ByteArray)) := HN7.out.rb.c2
          have d3 : w7.cell? ⟨q, 3, none⟩ = some (.bool true) := HN7.out.rb.c3
          cases o' with
          | false =>
            have hfin := HH2.out
            rw [if_neg (fun hh => absurd hh.1 (by decide))] at hfin
            obtain ⟨rfl, rfl⟩ := Prod.mk.inj hfin
            clear hfin HH2
            go_wp2_with fail
            go_ret2
            exact ⟨_, rfl, Kd.R_nil _ _ _ _ _, by rw [HG.out]; exact HN7.out.be⟩
          | true =>
            go_wp2_with fail
            refine (record_Check.calls _ _ _ _ _ _ (check_ok (⟨base + d, key, (⟨#[]⟩ : ByteArray), true⟩ : S28))).mono ?_
            rintro e w8 ⟨rfl, hb⟩
            have HN8 := Aside0.mk (HN7.out.below hb)
            clear hb HN7 co d0 d1 d2 d3
            have d0 : w8.cell? ⟨q, 0, none⟩ = some (.int .i64 (base + d)) := HN8.out.rb.c0
            have d1 : w8.cell? ⟨q, 1, none⟩ = some (.string key) := HN8.out.rb.c1
            have d2 : w8.cell? ⟨q, 2, none⟩ = some (.string (⟨#[]⟩ : ByteArray)) := HN8.out.rb.c2
            have d3 : w8.cell? ⟨q, 3, none⟩ = some (.bool true) := HN8.out.rb.c3
            by_cases hok : okRec (⟨base + d, key, (⟨#[]⟩ : ByteArray), true⟩ : S28) = true
            · rw [if_pos hok]
              by_cases hnx : next ≤ base + d
              · have hfin := HH2.out
                rw [if_pos ⟨by first | rfl | trivial, hok, hnx⟩] at hfin
                have HH3 := Aside0.mk hfin
                have hbn : decide (base + d < next) = false := by simp; omega
                have hw2 : wrap64 (base + d + 1) = base + d + 1 := wrap64_id _ (by have := HBN.out; have := HE.out; omega) (by have := HBN.out; have := HE.out; omega)
                have HW2 := Aside0.mk hw2
                have HOK := Aside0.mk hok
                have HNX := Aside0.mk hnx
                clear hw2 hfin HH2 hok hnx
                go_wp2_with ((with_reducible refine gate_builtin (b := .append) (xs := #[.tmp 68, .tmp 70]) rfl ?_); at_builtin; refine Kd.R_append k28 (w0 := w) g rfl (.tmp 68) (.tmp 70) 22 28 (.agg #[(.int .i64 0), (.string ⟨#[]⟩), (.string ⟨#[]⟩), (.bool false)]) 48 rfl Try.underlying22 info28 rfl (by decide) (by omega) (.slice A1 xs.length c1) xs (⟨base + d, key, (⟨#[]⟩ : ByteArray), true⟩ : S28) [.int .i64 (base + d), .string key, .string (⟨#[]⟩ : ByteArray), .bool true] (fun k_ => (k_ ≠ g ∧ k_ ≠ g + 1) ∧ k_ ≠ q) (fun _ => False) rfl (by first | (go_simp; done) | (go_simp; rfl)) ?aP (fun _ hk => hk.elim) ?aF ?aO ?aB ?aS ?aL ?_; (case aP => exact k28_mkM _ _ _ (⟨base + d, key, (⟨#[]⟩ : ByteArray), true⟩ : S28)); (case aB => exact HN8.out.be); (case aF => exact (fun k_ hk => by have := blk_lt HN8.out.rb; have := HN8.out.hq; omega)); (case aO => exact HN8.out.ro); (case aS => exact Nat.le_of_lt (blk_lt HN8.out.st.bs)); (case aL => have := HL.out; have := HSZ.out; omega); intro v9 w9 ho hb hg hat; have HS9 := Aside0.mk (show St w9 g (g + 1) s' true from ⟨blk_grown HN8.out.st.bs hg (Kd.R_away HN8.out.ro (fun _ hk => hk.1.1)), blk_grown HN8.out.st.bo hg (Kd.R_away HN8.out.ro (fun _ hk => hk.1.2))⟩); have HB9 := Aside0.mk hb; have HO9 := Aside0.mk ho; clear ho hb hg hat; obtain ⟨Ao, co, eo⟩ := Kd.R_slice HO9.out; subst eo)
                rw [HW2.out]
                go_roundg k
                case measure => omega
                case rel => exact ⟨xs ++ [(⟨base + d, key, (⟨#[]⟩ : ByteArray), true⟩ : S28)], s', base + d + 1, rfl, by have := HBN.out; have := HE.out; omega, by have := ((okRec_iff _).1 HOK.out).2.1; simp only at this; omega, HH3, ⟨by have := HK.out; have h7 := HEa.out; rcases h7 with h7 | h7; omega; exact absurd h7 (by decide)⟩, ⟨by have := HL.out; have h7 := HEa.out; simp; rcases h7 with h7 | h7; omega; exact absurd h7 (by decide)⟩, HS9, ⟨by have h8 := Kd.R_mono (ok' := fun k => k ≠ g ∧ k ≠ g + 1) HO9.out (fun _ hk => hk.1); rw [List.length_append] at h8; exact h8⟩, HB9⟩
              · have hfin := HH2.out
                rw [if_neg (fun hh => hnx hh.2.2)] at hfin
                obtain ⟨rfl, rfl⟩ := Prod.mk.inj hfin
                have hbn : decide (base + d < next) = true := by simp; omega
                clear hfin HH2 hok hnx
                go_wp2_with fail
                go_ret2
                exact ⟨_, rfl, Kd.R_nil _ _ _ _ _, by rw [HG.out]; exact HN8.out.be⟩
            · rw [if_neg hok]
              have hfin := HH2.out
              rw [if_neg (fun hh => hok hh.2.1)] at hfin
              obtain ⟨rfl, rfl⟩ := Prod.mk.inj hfin
              clear hfin HH2 hok
              go_wp2_with fail
              go_ret2
              exact ⟨_, rfl, Kd.R_nil _ _ _ _ _, by rw [HG.out]; exact HN8.out.be⟩
        | @here d nk v s1 s2 s3 s4 s5 key val o1 o2 o3 o4 o5 h1 h2 h3 h4 h5 h6 =>
          have e1 := nm_bd cur true 1099511627776 (by decide)
          rw [h1] at e1
          have e2 := nm_bd s1 o1 64 (by decide)
          rw [h2] at e2
          have e3 := tx_bd s2 o2 nk
          rw [h3] at e3
          have e4 := nm_bd s3 o3 4097 (by decide)
          rw [h4] at e4
          simp only at e1 e2 e3 e4
          have hw1 : wrap64 (base + d) = base + d := wrap64_id _ (by have := HBN.out; omega) (by have := HBN.out; omega)
          have HW := Aside0.mk hw1
          have HE := Aside0.mk (And.intro e1 (And.intro e2 (And.intro e3 e4)))
          have HZ := Aside0.mk (show cur.size ≤ 1000000000 by have := HL.out; have := HSZ.out; omega)
          have H1 := Aside0.mk h1
          have H2 := Aside0.mk h2
          have H3 := Aside0.mk h3
          have H4 := Aside0.mk h4
          clear h1 h2 h3 h4 e1 e2 e3 e4 hw1
          go_wp2_with fail
          refine (num_eq H1.out HS.out HZ.out).mono ?_
          rintro e w1 ⟨rfl, hS, hF⟩
          have HN := Aside0.mk (LS.new hS (Kd.R_step HO.out (fun k hk hlt => hF.block k hlt (fun e => e.elim hk.1 hk.2))) (HB.out.trans (hF.below (Nat.le_of_lt (blk_lt HS.out.bs)) (fun k hk => by rcases hk with e | e <;> omega))) ⟨base + d, ⟨#[]⟩, ⟨#[]⟩, false⟩)
          clear hS hF hC
          go_wp2_with fail
          rw [HW.out]
          obtain ⟨q, hq⟩ : ∃ q, w1.heap.size = q := ⟨_, rfl⟩
          rw [hq] at HN
          rw [hq]
          clear hq
          generalize w1.alloc (.cells #[.int .i64 (base + d), .string ⟨#[]⟩, .string ⟨#[]⟩, .bool false] 28) = w2 at HN ⊢
          refine (num_eq H2.out HN.out.st (by have := HE.out; have := HZ.out; omega)).mono ?_
          rintro e w3 ⟨rfl, hS, hF⟩
          have HN3 := Aside0.mk (HN.out.step hS hF)
          clear hS hF HN
          go_wp2_with fail
          refine (txt_eq H3.out HN3.out.st (by have := HE.out; have := HZ.out; omega) (by have := HE.out; omega)).mono ?_
          rintro e w4 ⟨rfl, hS, hF⟩
          have HN4 := Aside0.mk (HN3.out.step hS hF)
          clear hS hF HN3
          have d1 := HN4.out.rb.c1
          have z1 := blk_frozen HN4.out.rb 1
          go_wp2_with fail
          have HN5 := Aside0.mk (HN4.out.set1 key)
          clear d1 z1 HN4
          generalize w4.setCell ⟨q, 1, none⟩ (.string key) = w5 at HN5 ⊢
          refine (num_eq H4.out HN5.out.st (by have := HE.out; have := HZ.out; omega)).mono ?_
          rintro e w6 ⟨rfl, hS, hF⟩
          have HN6 := Aside0.mk (HN5.out.step hS hF)
          clear hS hF HN5
          have bv : (v == 0) = false := by simpa using h5
          have e6 := tx_bd s4 o4 (v - 1)
          rw [h6] at e6
          simp only at e6
          have hw3 : wrap64 (v - 1) = v - 1 := wrap64_id _ (by have := HE.out; omega) (by have := HE.out; omega)
          have HW3 := Aside0.mk hw3
          have H6 := Aside0.mk h6
          have HV := Aside0.mk h5
          have HE6 := Aside0.mk e6
          clear h6 hw3 h5 e6
          go_wp2_with fail
          rw [HW3.out]
          refine (txt_eq H6.out HN6.out.st (by have := HE.out; have := HZ.out; omega) (by have := HE.out; have := HV.out; omega)).mono ?_
          rintro e w6' ⟨rfl, hS, hF⟩
          have HN6' := Aside0.mk (HN6.out.step hS hF)
          clear hS hF HN6
          have HN6 := HN6'
          clear HN6'
          have HEa := Aside0.mk (show s'.size < cur.size ∨ o' = false by
            have a1 := HE.out
            have a2 := HE6.out
            cases o' with
            | false => exact Or.inr rfl
            | true =>
              left
              have b4 := a1.2.2.2.2.2.2 (a2.2.2 rfl)
              omega)
          have d2 := HN6.out.rb.c2
          have z2 := blk_frozen HN6.out.rb 2
          go_upto_region 15 with (fail)
          have HN7 := Aside0.mk (HN6.out.set2 val)
          clear HN6 d2 z2
          generalize w6'.setCell ⟨q, 2, none⟩ (.string val) = w7 at HN7 ⊢
          have HN7 : Aside0 (LS w w7 g q s' o' (⟨base + d, key, val, false⟩ : S28) (.slice A1 xs.length c1) xs) := HN7
          have co := HN7.out.st.c1
          have d0 : w7.cell? ⟨q, 0, none⟩ = some (.int .i64 (base + d)) := HN7.out.rb.c0
          have d1 : w7.cell? ⟨q, 1, none⟩ = some (.string key) := HN7.out.rb.c1
          have d2 : w7.cell? ⟨q, 2, none⟩ = some (.string val) := HN7.out.rb.c2
          have d3 : w7.cell? ⟨q, 3, none⟩ = some (.bool false) := HN7.out.rb.c3
          cases o' with
          | false =>
            have hfin := HH2.out
            rw [if_neg (fun hh => absurd hh.1 (by decide))] at hfin
            obtain ⟨rfl, rfl⟩ := Prod.mk.inj hfin
            clear hfin HH2
            go_wp2_with fail
            go_ret2
            exact ⟨_, rfl, Kd.R_nil _ _ _ _ _, by rw [HG.out]; exact HN7.out.be⟩
          | true =>
            go_wp2_with fail
            refine (record_Check.calls _ _ _ _ _ _ (check_ok (⟨base + d, key, val, false⟩ : S28))).mono ?_
            rintro e w8 ⟨rfl, hb⟩
            have HN8 := Aside0.mk (HN7.out.below hb)
            clear hb HN7 co d0 d1 d2 d3
            have d0 : w8.cell? ⟨q, 0, none⟩ = some (.int .i64 (base + d)) := HN8.out.rb.c0
            have d1 : w8.cell? ⟨q, 1, none⟩ = some (.string key) := HN8.out.rb.c1
            have d2 : w8.cell? ⟨q, 2, none⟩ = some (.string val) := HN8.out.rb.c2
            have d3 : w8.cell? ⟨q, 3, none⟩ = some (.bool false) := HN8.out.rb.c3
            by_cases hok : okRec (⟨base + d, key, val, false⟩ : S28) = true
            · rw [if_pos hok]
              by_cases hnx : next ≤ base + d
              · have hfin := HH2.out
                rw [if_pos ⟨by first | rfl | trivial, hok, hnx⟩] at hfin
                have HH3 := Aside0.mk hfin
                have hbn : decide (base + d < next) = false := by simp; omega
                have hw2 : wrap64 (base + d + 1) = base + d + 1 := wrap64_id _ (by have := HBN.out; have := HE.out; omega) (by have := HBN.out; have := HE.out; omega)
                have HW2 := Aside0.mk hw2
                have HOK := Aside0.mk hok
                have HNX := Aside0.mk hnx
                clear hw2 hfin HH2 hok hnx
                go_wp2_with ((with_reducible refine gate_builtin (b := .append) (xs := #[.tmp 68, .tmp 70]) rfl ?_); at_builtin; refine Kd.R_append k28 (w0 := w) g rfl (.tmp 68) (.tmp 70) 22 28 (.agg #[(.int .i64 0), (.string ⟨#[]⟩), (.string ⟨#[]⟩), (.bool false)]) 48 rfl Try.underlying22 info28 rfl (by decide) (by omega) (.slice A1 xs.length c1) xs (⟨base + d, key, val, false⟩ : S28) [.int .i64 (base + d), .string key, .string val, .bool false] (fun k_ => (k_ ≠ g ∧ k_ ≠ g + 1) ∧ k_ ≠ q) (fun _ => False) rfl (by first | (go_simp; done) | (go_simp; rfl)) ?aP (fun _ hk => hk.elim) ?aF ?aO ?aB ?aS ?aL ?_; (case aP => exact k28_mkM _ _ _ (⟨base + d, key, val, false⟩ : S28)); (case aB => exact HN8.out.be); (case aF => exact (fun k_ hk => by have := blk_lt HN8.out.rb; have := HN8.out.hq; omega)); (case aO => exact HN8.out.ro); (case aS => exact Nat.le_of_lt (blk_lt HN8.out.st.bs)); (case aL => have := HL.out; have := HSZ.out; omega); intro v9 w9 ho hb hg hat; have HS9 := Aside0.mk (show St w9 g (g + 1) s' true from ⟨blk_grown HN8.out.st.bs hg (Kd.R_away HN8.out.ro (fun _ hk => hk.1.1)), blk_grown HN8.out.st.bo hg (Kd.R_away HN8.out.ro (fun _ hk => hk.1.2))⟩); have HB9 := Aside0.mk hb; have HO9 := Aside0.mk ho; clear ho hb hg hat; obtain ⟨Ao, co, eo⟩ := Kd.R_slice HO9.out; subst eo)
                rw [HW2.out]
                go_roundg k
                case measure => omega
                case rel => exact ⟨xs ++ [(⟨base + d, key, val, false⟩ : S28)], s', base + d + 1, rfl, by have := HBN.out; have := HE.out; omega, by have := ((okRec_iff _).1 HOK.out).2.1; simp only at this; omega, HH3, ⟨by have := HK.out; have h7 := HEa.out; rcases h7 with h7 | h7; omega; exact absurd h7 (by decide)⟩, ⟨by have := HL.out; have h7 := HEa.out; simp; rcases h7 with h7 | h7; omega; exact absurd h7 (by decide)⟩, HS9, ⟨by have h8 := Kd.R_mono (ok' := fun k => k ≠ g ∧ k ≠ g + 1) HO9.out (fun _ hk => hk.1); rw [List.length_append] at h8; exact h8⟩, HB9⟩
              · have hfin := HH2.out
                rw [if_neg (fun hh => hnx hh.2.2)] at hfin
                obtain ⟨rfl, rfl⟩ := Prod.mk.inj hfin
                have hbn : decide (base + d < next) = true := by simp; omega
                clear hfin HH2 hok hnx
                go_wp2_with fail
                go_ret2
                exact ⟨_, rfl, Kd.R_nil _ _ _ _ _, by rw [HG.out]; exact HN8.out.be⟩
            · rw [if_neg hok]
              have hfin := HH2.out
              rw [if_neg (fun hh => hok hh.2.1)] at hfin
              obtain ⟨rfl, rfl⟩ := Prod.mk.inj hfin
              clear hfin HH2 hok
              go_wp2_with fail
              go_ret2
              exact ⟨_, rfl, Kd.R_nil _ _ _ _ _, by rw [HG.out]; exact HN8.out.be⟩
      · rw [if_neg hlt] at hfin
        have b1 : decide ((xs.length : Int) < n) = false := by simpa using hlt
        by_cases hz : cur.size = 0
        · rw [if_pos hz] at hfin
          obtain ⟨rfl, rfl⟩ := Prod.mk.inj hfin
          obtain rfl : cur = ⟨#[]⟩ := by
            cases cur with | mk a => exact congrArg ByteArray.mk (Array.eq_empty_of_size_eq_zero hz)
          clear hfin hlt
          go_wp2_with fail
          go_ret2
          exact ⟨_, rfl, by rw [HG.out]; exact Kd.R_mono HO.out (fun _ _ => trivial), by rw [HG.out]; exact HB.out⟩
        · rw [if_neg hz] at hfin
          obtain ⟨rfl, rfl⟩ := Prod.mk.inj hfin
          have b2 : (cur.toList != ([] : List UInt8)) = true := bne_iff_ne.mpr (fun e => hz ((toList_nil_iff _).1 e))
          have b3 : (cur.toList == ([] : List UInt8)) = false := beq_eq_false_iff_ne.mpr (fun e => hz ((toList_nil_iff _).1 e))
          clear hfin hlt
          go_wp2_with fail
          go_ret2
          exact ⟨_, rfl, Kd.R_nil _ _ _ _ _, by rw [HG.out]; exact HB.out⟩
theorem of_any (a0 : ByteArray) (a1 : Int) (a2 : Int) (r1 : List S28) (r2 : Int) (w : World) (h : recOf a0 a1 a2 = some (r1, r2)) :
    Calls Try.prog 14 #[.string a0, .int .i64 a1, .int .i64 a2] w fun e w' => ∃ v0_ : Value, e = .returned (.tuple #[v0_, .int .i64 r2]) ∧ Kd.R k28 28 w' w.heap.size (fun _ => True) v0_ r1 ∧ Below w.heap.size w w' := by
  unfold recOf at h
  by_cases hb : a1 < 0 ∨ 1099511627776 ≤ a1 ∨ a2 < 0
  · rw [if_pos hb] at h
    injection h with h
    obtain ⟨rfl, rfl⟩ := Prod.mk.inj h
    exact of_bad a0 a1 a2 w hb
  · rw [if_neg hb] at h
    by_cases hl : a0.size ≤ 1000000000
    · rw [if_pos hl] at h
      injection h with h
      exact of_good a0 a1 a2 r1 r2 w (by omega) (by omega) (by omega) hl h
    · rw [if_neg hl] at h
      injection h
end Go.Proofs.Ytjdicocmajjojaa.RO
