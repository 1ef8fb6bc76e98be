/- wire.Of, walked. wire.Of, all of it. awake, walked. -/
import Derived.Test.YtojnhklgfdfkcaaGC
import Derived.Test.YtojnhklgfdfkcaaGA
import Derived.Deep.RegionWith
import Derived.Deep.RegionLaw
import Derived.Test.YtojnhklgfdfkcaaGD
import Derived.Test.YtojnhklgfdfkcaaFnx0
namespace Go.Proofs.Ytojnhklgfdfkcaa.WK
open Go.RowKit Go.Proofs.YtojnhklgfdfkcaaW.PrintWords Go.Proofs.YtojnhklgfdfkcaaW.PrintLast Go.Proofs.YtojnhklgfdfkcaaW.PrintMore Go.Proofs.Ytojnhklgfdfkcaa.MB Go.Proofs.Ytojnhklgfdfkcaa.HW Go.Proofs.Ytojnhklgfdfkcaa.Fn Go.Proofs.Ytojnhklgfdfkcaa.PV Go.Proofs.Ytojnhklgfdfkcaa.RB Go.Proofs.Ytojnhklgfdfkcaa.RO
attribute [local go_sem] max2_int min2_int max_two min_two max_three min_three max_four min_four   -- for this text's walks alone
set_option maxHeartbeats 1000000 in
set_option maxRecDepth 100000 in
theorem wnum_any (gs go : Nat) (s : ByteArray) (ok : Bool) (most : Int) (w : World) (h : St w gs go s ok) (hs : s.size ≤ 1000000000) :
    Calls Try.prog 29 #[.int .i64 most, .pointer (some ⟨gs, 0, none⟩), .pointer (some ⟨go, 0, none⟩)] w fun e w' => e = .returned (.int .i64 (nm s ok most).1) ∧ St w' gs go (nm s ok most).2.1 (nm s ok most).2.2 ∧ Fr (SS gs go) w w' := by
  obtain ⟨⟨x, k, er⟩, hv⟩ : ∃ v, var_ s = v := ⟨_, rfl⟩
  have hf := var_f s (by omega)
  rw [hv] at hf
  have hok := var_ok s
  rw [hv] at hok
  obtain ⟨⟨rv, rs, ro⟩, hR⟩ : ∃ v, nm s ok most = v := ⟨_, rfl⟩
  rw [hR]
  unfold nm at hR
  rw [hv] at hR
  have HF := Aside0.mk hf
  have H := Aside0.mk h
  have c0 := h.c0
  clear hf h hv
  go_enter Try.func29, Try.ntmps29
  go_wp2_with fail
  refine (bits_Var.calls 10 s x k er _ HF.out).mono ?_
  rintro e w1 ⟨rfl, ⟨nd, rfl⟩⟩
  have hb : Below w.heap.size w (w.drewN nd) := pw_below_drewN (Below.refl _ _) nd
  have H1 := Aside0.mk (H.out.below hb)
  have F1 := Aside0.mk (Fr.of_below_all hb (SS gs go))
  clear hb c0
  generalize w.drewN nd = w1 at H1 F1 ⊢
  have c0 := H1.out.c0
  have c1 := H1.out.c1
  have z0 := blk_frozen H1.out.bs 0
  have z1 := blk_frozen H1.out.bo 0
  by_cases he : er = 0
  · subst he
    obtain ⟨q1, q2, q3⟩ := hok rfl
    by_cases hx : most < x
    · rw [if_pos (Or.inr hx)] at hR
      simp only [Prod.mk.injEq] at hR
      obtain ⟨rfl, rfl, rfl⟩ := hR
      have b1 : decide (most < x) = true := by simpa using hx
      clear hx hok
      go_wp2_with fail
      go_ret
      exact ⟨rfl, H1.out.seto false, F1.out.setCell (Or.inl (Or.inr rfl)) _⟩
    · rw [if_neg (by simp; omega)] at hR
      simp only [Prod.mk.injEq] at hR
      obtain ⟨rfl, rfl, rfl⟩ := hR
      have b1 : decide (most < x) = false := by simp; omega
      have p1 : 0 ≤ k := by show (0 : Int) ≤ k; have : (0:Int) < k := q2; omega
      have p2 : k ≤ (s.size : Int) := q3
      have p1b := decide_eq_true p1
      have p2b := decide_eq_true p2
      clear hx hok q1 q2 q3
      go_wp2_with fail
      go_ret
      exact ⟨rfl, H1.out.sets _, F1.out.setCell (Or.inl (Or.inl rfl)) _⟩
  · rw [if_pos (Or.inl he)] at hR
    simp only [Prod.mk.injEq] at hR
    obtain ⟨rfl, rfl, rfl⟩ := hR
    have b2 : (er != 0) = true := by simpa using he
    clear he hok
    go_wp2_with fail
    go_ret
    exact ⟨rfl, H1.out.seto false, F1.out.setCell (Or.inl (Or.inr rfl)) _⟩
theorem wnum_eq {gs go : Nat} {s : ByteArray} {ok : Bool} {most : Int} {rv : Int} {rs : ByteArray} {ro : Bool} (hR : nm s ok most = (rv, rs, ro)) {w : World} (h : St w gs go s ok) (hs : s.size ≤ 1000000000) :
    Calls Try.prog 29 #[.int .i64 most, .pointer (some ⟨gs, 0, none⟩), .pointer (some ⟨go, 0, none⟩)] w fun e w' => e = .returned (.int .i64 rv) ∧ St w' gs go rs ro ∧ Fr (SS gs go) w w' := by
  have h2 := wnum_any gs go s ok most w h hs
  rw [hR] at h2
  exact h2
/-- The first numbers of the bytes. -/
def rnums : Nat → ByteArray → List Int × ByteArray × Bool
  | 0, s => ([], s, true)
  | k + 1, s => ((rnums k s).1 ++ [(nm (rnums k s).2.1 (rnums k s).2.2 (mostOf k)).1], (nm (rnums k s).2.1 (rnums k s).2.2 (mostOf k)).2)
/-- So many texts of the bytes. -/
def rlog : Nat → ByteArray → Bool → List ByteArray → Option (List ByteArray × ByteArray × Bool)
  | 0, s, ok, acc => some (acc, s, ok)
  | k + 1, s, ok, acc =>
    if (nm s ok 262154).2.2 = true ∧ (nm s ok 262154).1 ≤ (nm s ok 262154).2.1.size then
      rlog k ((nm s ok 262154).2.1.extract (nm s ok 262154).1.toNat (nm s ok 262154).2.1.size) true (acc ++ [(nm s ok 262154).2.1.extract 0 (nm s ok 262154).1.toNat])
    else none
/-- The message of bytes: its numbers, texts, records; or why there is none. -/
def wireOf (s : ByteArray) : List Int × List ByteArray × List S63 × Int :=
  if 1048576 < s.size then (List.replicate 11 0, [], [], 4) else
  match rnums 11 s with
  | (ns, s1, o1) => match nm s1 o1 4096 with
    | (c, s2, o2) => match rlog c.toNat s2 o2 [] with
      | none => (List.replicate 11 0, [], [], 140)
      | some (log, s3, o3) => match nm s3 o3 256 with
        | (n, s4, o4) => match recOf s4 0 n with
          | none => (List.replicate 11 0, [], [], 140)
          | some (body, e) => if o4 = true ∧ e = 0 ∧ okMsg ns log body = true then (ns, log, body, 0) else (List.replicate 11 0, [], [], 140)
def mb (xs : List Int) (v11 v12 : Value) : Array Value := mcells (xs.getD 0 0) (xs.getD 1 0) (xs.getD 2 0) (xs.getD 3 0) (xs.getD 4 0) (xs.getD 5 0) (xs.getD 6 0) 0 (xs.getD 8 0) (xs.getD 9 0) (xs.getD 10 0) v11 v12
/-- Of's cells: the bytes, the result, whether, the message, its error, the fields. -/
structure OS (w W : World) (g f : Nat) (s : ByteArray) (ok : Bool) (mc : Array Value) (ev : Int) : Prop where
  st : St W g (g + 2) s ok
  r0 : W.heap[g + 1]? = some (.cells (mb [] (.slice none 0 0) (.slice none 0 0)) 28 (0, 0))
  mq : W.heap[g + 3]? = some (.cells mc 28 (0, 0))
  he : W.heap[g + 4]? = some (.cells #[.int .i64 ev] 3 (0, 0))
  hf : FBlk W f (g + 3) (g + 4)
  be : Below g w W
  ge : g + 4 < f
theorem OS.fr {w W W' : World} {g f : Nat} {s s' : ByteArray} {ok ok' : Bool} {mc : Array Value} {ev : Int} (h : OS w W g f s ok mc ev) (hs : St W' g (g + 2) s' ok') (hf : Fr (SS g (g + 2)) W W') : OS w W' g f s' ok' mc ev where
  st := hs
  r0 := hf.blk h.r0 (fun e => by rcases e with e | e <;> omega)
  mq := hf.blk h.mq (fun e => by rcases e with e | e <;> omega)
  he := hf.blk h.he (fun e => by rcases e with e | e <;> omega)
  hf := hf.blk h.hf (fun e => by have := h.ge; rcases e with e | e <;> omega)
  be := h.be.trans (hf.below (Nat.le_of_lt (blk_lt h.st.bs)) (fun k hk => by rcases hk with e | e <;> omega))
  ge := h.ge
theorem OS.below {w W W' : World} {g f : Nat} {s : ByteArray} {ok : Bool} {mc : Array Value} {ev : Int} (h : OS w W g f s ok mc ev) (hb : Below W.heap.size W W') : OS w W' g f s ok mc ev := h.fr (h.st.below hb) (Fr.of_below_all hb _)
theorem alloc_at (w : World) (o : Obj) (k : Nat) (hk : k = w.heap.size) : (w.alloc o).heap[k]? = some o := by subst hk; exact heap_alloc_new w o
theorem alloc_old (w : World) (o x : Obj) (k : Nat) (h : w.heap[k]? = some x) : (w.alloc o).heap[k]? = some x := ((below_alloc (Below.refl _ _) o).block _ (blk_lt h)).trans h
theorem alloc_size (w : World) (o : Obj) : (w.alloc o).heap.size = w.heap.size + 1 := Array.size_push _
structure OS0 (w W : World) (g : Nat) (s : ByteArray) : Prop where
  bs : W.heap[g]? = some (.cells #[.string s] 9 (0, 0))
  bo : W.heap[g + 2]? = some (.cells #[.bool true] 4 (0, 0))
  r0 : W.heap[g + 1]? = some (.cells (mb [] (.slice none 0 0) (.slice none 0 0)) 28 (0, 0))
  mq : W.heap[g + 3]? = some (.cells (mb [] (.slice none 0 0) (.slice none 0 0)) 28 (0, 0))
  he : W.heap[g + 4]? = some (.cells #[.int .i64 0] 3 (0, 0))
  be : Below g w W
  sz : W.heap.size = g + 5
theorem os_start (w : World) (s : ByteArray) : OS0 w (((((w.alloc (.cells #[.string s] 9)).alloc (.cells (mb [] (.slice none 0 0) (.slice none 0 0)) 28)).alloc (.cells #[.bool true] 4)).alloc (.cells (mb [] (.slice none 0 0) (.slice none 0 0)) 28)).alloc (.cells #[.int .i64 0] 3)) w.heap.size s where
  bs := alloc_old _ _ _ _ (alloc_old _ _ _ _ (alloc_old _ _ _ _ (alloc_old _ _ _ _ (alloc_at _ _ _ rfl))))
  r0 := alloc_old _ _ _ _ (alloc_old _ _ _ _ (alloc_old _ _ _ _ (alloc_at _ _ _ (by rw [alloc_size]))))
  bo := alloc_old _ _ _ _ (alloc_old _ _ _ _ (alloc_at _ _ _ (by rw [alloc_size, alloc_size])))
  mq := alloc_old _ _ _ _ (alloc_at _ _ _ (by rw [alloc_size, alloc_size, alloc_size]))
  he := alloc_at _ _ _ (by rw [alloc_size, alloc_size, alloc_size, alloc_size])
  be := below_alloc (below_alloc (below_alloc (below_alloc (below_alloc (Below.refl _ _) _) _) _) _) _
  sz := by rw [alloc_size, alloc_size, alloc_size, alloc_size, alloc_size]
theorem OS.slot {w W : World} {g f : Nat} {s : ByteArray} {ok : Bool} {xs : List Int} {v11 v12 : Value} {ev : Int} (h : OS w W g f s ok (mb xs v11 v12) ev) (i : Nat) (hi : i < 11) : ∃ n : Int, W.cell? (fa (g + 3) (g + 4) i) = some (.int .i64 n) ∧ W.frozen? (fa (g + 3) (g + 4) i) = false := by
  unfold fa
  by_cases h7 : i = 7
  · subst h7
    rw [if_pos rfl]
    exact ⟨ev, (blk_cell h.he 0).trans rfl, blk_frozen h.he 0⟩
  · rw [if_neg h7]
    refine ⟨xs.getD i 0, (blk_cell h.mq i).trans ?_, blk_frozen h.mq i⟩
    match i, hi, h7 with
    | 0, _, _ | 1, _, _ | 2, _, _ | 3, _, _ | 4, _, _ | 5, _, _ | 6, _, _ | 8, _, _ | 9, _, _ | 10, _, _ => rfl
    | 7, _, h => exact absurd rfl h
theorem getD_snoc (xs : List Int) (x : Int) (j : Nat) : (xs ++ [x]).getD j 0 = if j = xs.length then x else xs.getD j 0 := by
  rw [List.getD_eq_getElem?_getD, List.getD_eq_getElem?_getD, List.getElem?_append]
  by_cases h : j < xs.length
  · rw [if_pos h, if_neg (by omega)]
  · rw [if_neg h]
    by_cases h2 : j = xs.length
    · subst h2; simp
    · rw [if_neg h2, List.getElem?_eq_none (by simp; omega), List.getElem?_eq_none (by omega)]
theorem OS.put {w W : World} {g f : Nat} {s : ByteArray} {ok : Bool} {xs : List Int} {v11 v12 : Value} (h : OS w W g f s ok (mb xs v11 v12) (xs.getD 7 0)) (hi : xs.length < 11) (x : Int) : OS w (W.setCell (fa (g + 3) (g + 4) xs.length) (.int .i64 x)) g f s ok (mb (xs ++ [x]) v11 v12) ((xs ++ [x]).getD 7 0) := by
  have key : ∀ j, (xs ++ [x]).getD j 0 = if j = xs.length then x else xs.getD j 0 := getD_snoc xs x
  obtain ⟨i, hxi⟩ : ∃ i, xs.length = i := ⟨_, rfl⟩
  rw [hxi] at key hi ⊢
  by_cases h7 : i = 7
  · subst h7
    have hfa : fa (g + 3) (g + 4) 7 = ⟨g + 4, 0, none⟩ := rfl
    rw [hfa]
    refine ⟨⟨blk_far h.st.bs (p := ⟨g + 4, 0, none⟩) (by show g ≠ g + 4; omega) _, blk_far h.st.bo (p := ⟨g + 4, 0, none⟩) (by show g + 2 ≠ g + 4; omega) _⟩, blk_far h.r0 (p := ⟨g + 4, 0, none⟩) (by show g + 1 ≠ g + 4; omega) _, ?_, ?_, blk_far h.hf (p := ⟨g + 4, 0, none⟩) (by have := h.ge; show f ≠ g + 4; omega) _, h.be.setCell (p := ⟨g + 4, 0, none⟩) (by show g ≤ g + 4; omega) _, h.ge⟩
    · have e : mb (xs ++ [x]) v11 v12 = mb xs v11 v12 := by
        unfold mb
        simp only [key]
        rfl
      rw [e]
      exact blk_far h.mq (p := ⟨g + 4, 0, none⟩) (by show g + 3 ≠ g + 4; omega) _
    · have := blk_set h.he 0 (.int .i64 x)
      rw [key, if_pos rfl]
      simpa using this
  · have hfa : fa (g + 3) (g + 4) i = ⟨g + 3, i, none⟩ := by unfold fa; rw [if_neg h7]
    rw [hfa]
    refine ⟨⟨blk_far h.st.bs (p := ⟨g + 3, i, none⟩) (by show g ≠ g + 3; omega) _, blk_far h.st.bo (p := ⟨g + 3, i, none⟩) (by show g + 2 ≠ g + 3; omega) _⟩, blk_far h.r0 (p := ⟨g + 3, i, none⟩) (by show g + 1 ≠ g + 3; omega) _, ?_, ?_, blk_far h.hf (p := ⟨g + 3, i, none⟩) (by have := h.ge; show f ≠ g + 3; omega) _, h.be.setCell (p := ⟨g + 3, i, none⟩) (by show g ≤ g + 3; omega) _, h.ge⟩
    · have := blk_set h.mq i (.int .i64 x)
      rw [this]
      congr 2
      unfold mb mcells
      simp only [key]
      clear this hfa key hxi h
      match i, hi, h7 with
      | 0, _, _ | 1, _, _ | 2, _, _ | 3, _, _ | 4, _, _ | 5, _, _ | 6, _, _ | 8, _, _ | 9, _, _ | 10, _, _ => rfl
      | 7, _, h => exact absurd rfl h
    · rw [key, if_neg (fun e => h7 e.symm)]
      exact blk_far h.he (p := ⟨g + 3, i, none⟩) (by show g + 4 ≠ g + 3; omega) _
theorem OS.setm {w W : World} {g f : Nat} {s : ByteArray} {ok : Bool} {mc mc' : Array Value} {ev : Int} (h : OS w W g f s ok mc ev) (j : Nat) (u : Value) (hm : (W.setCell ⟨g + 3, j, none⟩ u).heap[g + 3]? = some (.cells mc' 28 (0, 0))) : OS w (W.setCell ⟨g + 3, j, none⟩ u) g f s ok mc' ev :=
  ⟨⟨blk_far h.st.bs (p := ⟨g + 3, j, none⟩) (by show g ≠ g + 3; omega) _, blk_far h.st.bo (p := ⟨g + 3, j, none⟩) (by show g + 2 ≠ g + 3; omega) _⟩, blk_far h.r0 (p := ⟨g + 3, j, none⟩) (by show g + 1 ≠ g + 3; omega) _, hm, blk_far h.he (p := ⟨g + 3, j, none⟩) (by show g + 4 ≠ g + 3; omega) _, blk_far h.hf (p := ⟨g + 3, j, none⟩) (by have := h.ge; show f ≠ g + 3; omega) _, h.be.setCell (p := ⟨g + 3, j, none⟩) (by show g ≤ g + 3; omega) _, h.ge⟩
/-- The message's cells, all of them. -/
def mf (xs : List Int) (v11 v12 : Value) : Array Value := mcells (xs.getD 0 0) (xs.getD 1 0) (xs.getD 2 0) (xs.getD 3 0) (xs.getD 4 0) (xs.getD 5 0) (xs.getD 6 0) (xs.getD 7 0) (xs.getD 8 0) (xs.getD 9 0) (xs.getD 10 0) v11 v12
theorem OS.err {w W : World} {g f : Nat} {s : ByteArray} {ok : Bool} {xs : List Int} {v11 v12 : Value} {ev : Int} (h : OS w W g f s ok (mb xs v11 v12) ev) (he : ev = xs.getD 7 0) : OS w (W.setCell ⟨g + 3, 7, none⟩ (.int .i64 ev)) g f s ok (mf xs v11 v12) ev :=
  h.setm 7 _ (by rw [blk_set h.mq 7 (.int .i64 ev), he]; rfl)
theorem OS.log {w W : World} {g f : Nat} {s : ByteArray} {ok : Bool} {xs : List Int} {v11 v12 : Value} {ev : Int} (h : OS w W g f s ok (mf xs v11 v12) ev) (u : Value) : OS w (W.setCell ⟨g + 3, 11, none⟩ u) g f s ok (mf xs u v12) ev :=
  h.setm 11 _ (by rw [blk_set h.mq 11 u]; rfl)
theorem OS.body {w W : World} {g f : Nat} {s : ByteArray} {ok : Bool} {xs : List Int} {v11 v12 : Value} {ev : Int} (h : OS w W g f s ok (mf xs v11 v12) ev) (u : Value) : OS w (W.setCell ⟨g + 3, 12, none⟩ u) g f s ok (mf xs v11 u) ev :=
  h.setm 12 _ (by rw [blk_set h.mq 12 u]; rfl)
theorem mostOf_pos (i : Nat) (hi : i < 11) : 0 ≤ mostOf i := by
  match i, hi with
  | 0, _ | 1, _ | 2, _ | 3, _ | 4, _ | 5, _ | 6, _ | 7, _ | 8, _ | 9, _ | 10, _ => decide
theorem rnums_len (s : ByteArray) : ∀ i, (rnums i s).1.length = i
  | 0 => rfl
  | i + 1 => by rw [rnums, List.length_append, rnums_len s i]; rfl
def zcells : Array Value := mcells 0 0 0 0 0 0 0 0 0 0 0 (.slice none 0 0) (.slice none 0 0)
theorem RC {α : Type} {d : Kd α} {e base : Nat} {W : World} {ok : Nat → Prop} {A : Option Addr} {c : Nat} {xs : List α} (h : d.R e W base ok (.slice A xs.length c) xs) : d.C W A xs.length xs ∧ xs.length ≤ c := by
  obtain ⟨A', c', he, hl, hc⟩ := Kd.R_reads h
  injection he with h1 _ h3
  subst h1
  subst h3
  exact ⟨hc, hl⟩
theorem ofl_len (base n : Int) : ∀ (k : Nat) (next : Int) (out : List S63) (s : ByteArray), out.length ≤ n.toNat → (ofl base n k next out s).1.length ≤ n.toNat
  | 0, _, _, _, _ => Nat.zero_le _
  | k + 1, next, out, s, h => by
    rw [ofl]
    by_cases h1 : (out.length : Int) < n
    · rw [if_pos h1]
      by_cases h2 : (one base s).2.2 = true ∧ okRec (one base s).1 = true ∧ next ≤ (one base s).1.f0
      · rw [if_pos h2]; exact ofl_len base n k _ _ _ (by rw [List.length_append, List.length_singleton]; omega)
      · rw [if_neg h2]; exact Nat.zero_le _
    · rw [if_neg h1]
      by_cases h3 : s.size = 0
      · rw [if_pos h3]; exact h
      · rw [if_neg h3]; exact Nat.zero_le _
theorem recOf_len {s : ByteArray} {base n e : Int} {l : List S63} (h : recOf s base n = some (l, e)) : l.length ≤ n.toNat := by
  unfold recOf at h
  by_cases h1 : base < 0 ∨ 1099511627776 ≤ base ∨ n < 0
  · rw [if_pos h1] at h
    injection h with h
    injection h with h _
    rw [← h]; exact Nat.zero_le _
  · rw [if_neg h1] at h
    by_cases h2 : s.size ≤ 1000000000
    · rw [if_pos h2] at h
      injection h with h
      have := ofl_len base n (s.size + 1) base [] s (Nat.zero_le _)
      rw [h] at this
      exact this
    · rw [if_neg h2] at h; injection h
theorem OS.sets {w W : World} {g f : Nat} {s : ByteArray} {ok : Bool} {mc : Array Value} {ev : Int} (h : OS w W g f s ok mc ev) (t : ByteArray) : OS w (W.setCell ⟨g, 0, none⟩ (.string t)) g f t ok mc ev := h.fr (h.st.sets t) ((Fr.refl _ _).setCell (Or.inl (Or.inl rfl)) _)
theorem OS.grown {w W W' : World} {g f : Nat} {s : ByteArray} {ok : Bool} {mc : Array Value} {ev : Int} (h : OS w W g f s ok mc ev) {row : Option Nat} (hg : W.grownBy W' row) (hn : ∀ k, k ≤ g + 4 → some k ≠ row) (hf : some f ≠ row) (hb : Below g w W') : OS w W' g f s ok mc ev :=
  ⟨⟨blk_grown h.st.bs hg (hn _ (by omega)), blk_grown h.st.bo hg (hn _ (by omega))⟩, blk_grown h.r0 hg (hn _ (by omega)), blk_grown h.mq hg (hn _ (by omega)), blk_grown h.he hg (hn _ (by omega)), blk_grown h.hf hg hf, hb, h.ge⟩
theorem wireOf_none {s s1 s2 : ByteArray} {o1 o2 : Bool} {xs : List Int} {m : Nat} (hs : s.size ≤ 1048576) (h1 : rnums 11 s = (xs, s1, o1)) (h2 : nm s1 o1 4096 = ((m : Int), s2, o2)) (h3 : rlog m s2 o2 [] = none) : wireOf s = (List.replicate 11 0, [], [], 140) := by
  unfold wireOf
  rw [if_neg (by omega), h1]
  simp only
  rw [h2]
  simp only [Int.toNat_natCast]
  rw [h3]
theorem wireOf_some {s s1 s2 s3 s4 : ByteArray} {o1 o2 o3 o4 : Bool} {xs : List Int} {m : Nat} {n e : Int} {log : List ByteArray} {body : List S63} (hs : s.size ≤ 1048576) (h1 : rnums 11 s = (xs, s1, o1)) (h2 : nm s1 o1 4096 = ((m : Int), s2, o2)) (h3 : rlog m s2 o2 [] = some (log, s3, o3)) (h4 : nm s3 o3 256 = (n, s4, o4)) (h5 : recOf s4 0 n = some (body, e)) :
    wireOf s = if o4 = true ∧ e = 0 ∧ okMsg xs log body = true then (xs, log, body, 0) else (List.replicate 11 0, [], [], 140) := by
  unfold wireOf
  rw [if_neg (by omega), h1]
  simp only
  rw [h2]
  simp only [Int.toNat_natCast]
  rw [h3]
  simp only
  rw [h4]
  simp only
  rw [h5]
theorem list11 : ∀ xs : List Int, xs.length = 11 → [xs.getD 0 0, xs.getD 1 0, xs.getD 2 0, xs.getD 3 0, xs.getD 4 0, xs.getD 5 0, xs.getD 6 0, xs.getD 7 0, xs.getD 8 0, xs.getD 9 0, xs.getD 10 0] = xs
  | [_, _, _, _, _, _, _, _, _, _, _], _ => rfl
theorem zcells_one : ∀ q ∈ zcells.toList, q.oneCell' = true := by decide
theorem mf_one (xs : List Int) (A : Option Addr) (n c : Nat) (A2 : Option Addr) (n2 c2 : Nat) : ∀ q ∈ (mf xs (.slice A n c) (.slice A2 n2 c2)).toList, q.oneCell' = true := by
  intro q hq
  simp only [mf, mcells, List.mem_cons, List.not_mem_nil, or_false] at hq
  rcases hq with rfl | rfl | rfl | rfl | rfl | rfl | rfl | rfl | rfl | rfl | rfl | rfl | rfl <;> rfl
set_option maxHeartbeats 8000000 in
set_option maxRecDepth 100000 in
theorem wof_good (s : ByteArray) (w : World) (hs : s.size ≤ 1048576) (ns : List Int) (log : List ByteArray) (body : List S63) (er : Int) (hw : wireOf s = (ns, log, body, er)) :
    Calls Try.prog 14 #[.string s] w fun x w' => ∃ v11 v12 : Value, x = .returned (.tuple #[.agg #[.int .i64 (ns.getD 0 0), .int .i64 (ns.getD 1 0), .int .i64 (ns.getD 2 0), .int .i64 (ns.getD 3 0), .int .i64 (ns.getD 4 0), .int .i64 (ns.getD 5 0), .int .i64 (ns.getD 6 0), .int .i64 (ns.getD 7 0), .int .i64 (ns.getD 8 0), .int .i64 (ns.getD 9 0), .int .i64 (ns.getD 10 0), v11, v12], .int .i64 er]) ∧ Kd.R Kd.string 9 w' w.heap.size (fun _ => True) v11 log ∧ Kd.R k63 63 w' w.heap.size (fun _ => True) v12 body ∧ Below w.heap.size w w' := by
  have hu := Try.underlying28
  have hu2 := Try.underlying55
  have hu3 := Try.underlying24
  have hmf : ∀ (fn : Fn) (first cap : Array Value) (w : World), (Instr.makeFunc fn first cap).run Try.prog w = .ok (.func fn first cap) w := fun _ _ _ _ => rfl
  have b1 : decide (1048576 < (s.size : Int)) = false := by simp; omega
  have HWR := Aside0.mk hw
  have HSZ := Aside0.mk hs
  clear hw hs
  go_enter Try.func14, Try.ntmps14
  go_upto_region 7 with (fail)
  have h0 := os_start w s
  unfold mb mcells at h0
  simp only [List.getD_nil] at h0
  generalize (((((w.alloc (.cells #[.string s] 9)).alloc (.cells _ 28)).alloc (.cells #[.bool true] 4)).alloc (.cells _ 28)).alloc (.cells #[.int .i64 0] 3)) = w1 at h0 ⊢
  have H0 := Aside0.mk h0
  clear h0
  go_wp2_with fail
  simp only [Nat.add_assoc, Nat.reduceAdd]
  obtain ⟨g, hg⟩ : ∃ g, w.heap.size = g := ⟨_, rfl⟩
  rw [hg] at H0
  rw [hg]
  have HG0 := Aside0.mk hg
  clear hg
  refine (fields_any (g + 3) (g + 4) _).mono ?_
  rintro x w2 ⟨f, rfl, hfs, hF, hb⟩
  have HO := Aside0.mk (show OS w w2 g f s true (mb [] (.slice none 0 0) (.slice none 0 0)) 0 from ⟨⟨(hb.block _ (blk_lt H0.out.bs)).trans H0.out.bs, (hb.block _ (blk_lt H0.out.bo)).trans H0.out.bo⟩, (hb.block _ (blk_lt H0.out.r0)).trans H0.out.r0, (hb.block _ (blk_lt H0.out.mq)).trans H0.out.mq, (hb.block _ (blk_lt H0.out.he)).trans H0.out.he, hF, H0.out.be.trans (hb.mono (by rw [H0.out.sz]; omega)), by rw [H0.out.sz] at hfs; omega⟩)
  clear hb hF hfs H0
  go_wp2_with fail
  go_loopw [21] (fun v21 wr => ∃ (i : Nat), v21 = .int .i64 i ∧ i ≤ 11 ∧ Aside0 (OS w wr g f (rnums i s).2.1 (rnums i s).2.2 (mb (rnums i s).1 (.slice none 0 0) (.slice none 0 0)) ((rnums i s).1.getD 7 0)) ∧ Aside0 ((rnums i s).2.1.size ≤ 1048576)) (fun v21 _ => 11 - (intOf v21).toNat)
  case atStart => exact ⟨0, rfl, by decide, HO, HSZ⟩
  case round =>
    clear HO
    obtain ⟨i, rfl, hi, HO, HZ⟩ := hrel
    by_cases hlt : i < 11
    · have hb1 : decide ((i : Int) < 11) = true := by simp; omega
      have hp := HO.out.hf.ptr i hlt
      have hm := HO.out.hf.most i hlt
      obtain ⟨ad, had⟩ : ∃ ad, fa (g + 3) (g + 4) i = ad := ⟨_, rfl⟩
      rw [had] at hp
      have HAD := Aside0.mk had
      clear had
      go_upto_region 10 with (fail)
      have hbb := below_alloc (Below.refl wr.heap.size wr) (.cells #[.pointer (some ad), .int .i64 (mostOf i)] 55)
      have hlt5 : g + 4 < wr.heap.size := blk_lt HO.out.he
      have HO5 := Aside0.mk (HO.out.below hbb)
      have hq5' := heap_alloc_new wr (.cells #[.pointer (some ad), .int .i64 (mostOf i)] 55)
      obtain ⟨q5, hq5⟩ : ∃ q5, wr.heap.size = q5 := ⟨_, rfl⟩
      rw [hq5] at hq5' hlt5 ⊢
      have HLT := Aside0.mk hlt5
      clear hlt5
      have HQ5 := Aside0.mk hq5'
      have d0 := (blk_cell hq5' 0).trans (rfl : _ = some (Value.pointer (some ad)))
      have d1 := (blk_cell hq5' 1).trans (rfl : _ = some (Value.int .i64 (mostOf i)))
      generalize wr.alloc (.cells #[.pointer (some ad), .int .i64 (mostOf i)] 55) = w5 at HO5 HQ5 d0 d1 ⊢
      clear HO hp hm hq5 hbb hq5'
      obtain ⟨⟨xv, s', ok'⟩, hnm⟩ : ∃ v, nm (rnums i s).2.1 (rnums i s).2.2 (mostOf i) = v := ⟨_, rfl⟩
      have HNM := Aside0.mk hnm
      clear hnm
      obtain ⟨sc, hsc⟩ : ∃ y, (rnums i s).2.1 = y := ⟨_, rfl⟩
      obtain ⟨okc, hokc⟩ : ∃ y, (rnums i s).2.2 = y := ⟨_, rfl⟩
      rw [hsc, hokc] at HO5 HNM
      rw [hsc] at HZ
      have HO6 := Aside0.mk (HO5.out.below (below_drew (Below.refl _ _)))
      go_region_with (go_at_call 29; refine (wnum_eq HNM.out HO6.out.st (by have := HZ.out; omega)).mono ?_; rintro x w6 ⟨rfl, hS, hF⟩; have hq6 := hF.blk (show w5.drew.heap[q5]? = _ from HQ5.out) (fun e => by have := HLT.out; rcases e with e | e <;> omega); have d0' := (blk_cell hq6 0).trans (rfl : _ = some (Value.pointer (some ad))); have HO7 := Aside0.mk (HO6.out.fr hS hF); obtain ⟨n6, hx6, hz6⟩ := HO7.out.slot i hlt; rw [HAD.out] at hx6 hz6; clear hS hF)
      all_goals
        have hlen := rnums_len s i
        have HO8 := HO7.out.put (by rw [hlen]; exact hlt) xv
        rw [hlen, HAD.out] at HO8
        have hrn : rnums (i + 1) s = ((rnums i s).1 ++ [xv], s', ok') := by rw [rnums, hsc, hokc, HNM.out]
        have HO9 := Aside0.mk (show OS w _ g f (rnums (i + 1) s).2.1 (rnums (i + 1) s).2.2 (mb (rnums (i + 1) s).1 (.slice none 0 0) (.slice none 0 0)) ((rnums (i + 1) s).1.getD 7 0) from by rw [hrn]; exact HO8)
        have hb4 := (nm_bd sc okc (mostOf i) (mostOf_pos i hlt)).2.2.1
        rw [HNM.out] at hb4
        have HZ9 := Aside0.mk (show (rnums (i + 1) s).2.1.size ≤ 1048576 by rw [hrn]; have := HZ.out; show s'.size ≤ _; have : s'.size ≤ sc.size := hb4; omega)
        clear HO8 hrn hb4 hlen hx6 hz6 d0' d0 d1 hq6
        go_wp2_with fail
        go_roundw
        case rel => exact ⟨i + 1, by simp, hlt, HO9, HZ9⟩
        case measure => simp [intOf]; omega
    · have hie : i = 11 := by omega
      subst hie
      have hb1 : decide ((11 : Int) < 11) = false := by decide
      obtain ⟨⟨xs, s1, o1⟩, hrn⟩ : ∃ v, rnums 11 s = v := ⟨_, rfl⟩
      rw [hrn] at HO HZ
      simp only at HO HZ
      have HRN := Aside0.mk hrn
      clear hrn
      obtain ⟨ev, hev⟩ : ∃ y, xs.getD 7 0 = y := ⟨_, rfl⟩
      rw [hev] at HO
      have HEV := Aside0.mk hev
      clear hev
      have e0 : wr.cell? ⟨g + 4, 0, none⟩ = some (.int .i64 ev) := (blk_cell HO.out.he 0).trans rfl
      have e7 : wr.cell? ⟨g + 3, 7, none⟩ = some (.int .i64 0) := (blk_cell HO.out.mq 7).trans rfl
      have z7 := blk_frozen HO.out.mq 7
      go_upto_region 13 with (fail)
      have HO2 := Aside0.mk (HO.out.err HEV.out.symm)
      generalize wr.setCell ⟨g + 3, 7, none⟩ (.int .i64 ev) = w3 at HO2 ⊢
      clear e0 e7 z7 HO
      go_wp2_with fail
      obtain ⟨⟨c, s2, o2⟩, hnm⟩ : ∃ v, nm s1 o1 4096 = v := ⟨_, rfl⟩
      have HNM := Aside0.mk hnm
      clear hnm
      refine (wnum_eq HNM.out HO2.out.st (by have := HZ.out; omega)).mono ?_
      rintro x w4 ⟨rfl, hS, hF⟩
      have HO4 := Aside0.mk (HO2.out.fr hS hF)
      clear hS hF HO2
      have hcb := nm_bd s1 o1 4096 (by decide)
      rw [HNM.out] at hcb
      simp only at hcb
      obtain ⟨m, rfl⟩ : ∃ m : Nat, c = m := ⟨c.toNat, by omega⟩
      have hm4 : m ≤ 4096 := by omega
      have HZ4 := Aside0.mk (show s2.size ≤ 1048576 by have := HZ.out; omega)
      clear hcb
      go_wp2_with fail
      go_loopw [37] (fun v37 wr => ∃ (i : Nat) (acc : List ByteArray) (sc : ByteArray) (oc : Bool) (A : Option Addr) (cp : Nat), v37 = .int .i64 i ∧ i ≤ m ∧ acc.length = i ∧ Aside0 (OS w wr g f sc oc (mf xs (.slice A acc.length cp) (.slice none 0 0)) ev) ∧ Aside0 (Kd.R Kd.string 9 wr g (fun k => g + 4 < k) (.slice A acc.length cp) acc) ∧ Aside0 (sc.size ≤ 1048576) ∧ Aside0 (rlog (m - i) sc oc acc = rlog m s2 o2 [])) (fun v37 _ => m - (intOf v37).toNat)
      case atStart => exact ⟨0, [], s2, o2, none, 0, rfl, Nat.zero_le _, rfl, HO4, ⟨Kd.R_nil _ _ _ _ _⟩, HZ4, ⟨rfl⟩⟩
      case round =>
        clear HO4 HZ4
        obtain ⟨i, acc, sc, oc, A, cp, rfl, hi, hlen, HO, HR, HZ4, HG⟩ := hrel
        have HLEN := Aside0.mk hlen
        clear hlen
        by_cases hlt : i < m
        · have hb1 : decide ((i : Int) < (m : Int)) = true := by simp; omega
          obtain ⟨⟨n, s3, o3⟩, hnm⟩ : ∃ v, nm sc oc 262154 = v := ⟨_, rfl⟩
          have hbd := nm_bd sc oc 262154 (by decide)
          rw [hnm] at hbd
          simp only at hbd
          have hg := HG.out
          obtain ⟨j, hj⟩ : ∃ j, m - i = j + 1 := ⟨m - i - 1, by omega⟩
          rw [hj, rlog, hnm] at hg
          simp only at hg
          have HG2 := Aside0.mk hg
          have HNM3 := Aside0.mk hnm
          have HJ := Aside0.mk hj
          have HBD := Aside0.mk hbd
          clear hg hnm hbd hj HG
          go_wp2_with fail
          refine (wnum_eq HNM3.out HO.out.st (by have := HZ4.out; omega)).mono ?_
          rintro x w5 ⟨rfl, hS, hF⟩
          have HO5 := Aside0.mk (HO.out.fr hS hF)
          have HR5 := Aside0.mk (Kd.R_step HR.out (fun k hk hlt => hF.block k hlt (fun e => by rcases e with e | e <;> omega)))
          clear hS hF HO HR
          have c0 := HO5.out.st.c0
          have c1 := HO5.out.st.c1
          have p1 : 0 ≤ n := HBD.out.1
          by_cases hbad : o3 = true ∧ n ≤ (s3.size : Int)
          · obtain ⟨rfl, p2⟩ := hbad
            have hg := HG2.out
            rw [if_pos ⟨rfl, p2⟩] at hg
            have HG3 := Aside0.mk hg
            clear hg HG2
            have b3 : decide ((s3.size : Int) < n) = false := by simp; omega
            have p1b := decide_eq_true p1
            have p2b := decide_eq_true p2
            go_upto_region 18 with (fail)
            have e11 : w5.cell? ⟨g + 3, 11, none⟩ = some (.slice A acc.length cp) := (blk_cell HO5.out.mq 11).trans rfl
            have z11 := blk_frozen HO5.out.mq 11
            have HLT := Aside0.mk (show g + 4 < w5.heap.size from blk_lt HO5.out.he)
            have HO8 := Aside0.mk (HO5.out.below (below_drew (Below.refl _ _)))
            have HR8 := Aside0.mk (Kd.R_below HR5.out (below_drew (Below.refl _ _)))
            have HFN := Aside0.mk (fun (k : Nat) (hk : k ≤ g + 4) => Kd.R_away HR8.out (g := k) (fun _ h => by omega))
            have HFF := Aside0.mk (Kd.R_ne HR8.out HO8.out.hf (by decide))
            obtain ⟨t, ht⟩ : ∃ t, s3.extract 0 n.toNat = t := ⟨_, rfl⟩
            have hg3 := HG3.out
            rw [ht] at hg3
            have HG4 := Aside0.mk hg3
            clear hg3 HG3
            have e11a : (w5.alloc (Obj.cells #[Value.string t] 9)).cell? ⟨g + 3, 11, none⟩ = some (.slice A acc.length cp) := (blk_cell ((below_alloc (Below.refl _ _) _ |>.block _ (blk_lt HO5.out.mq)).trans HO5.out.mq) 11).trans rfl
            go_region_law (((rw [show (w5.alloc (Obj.cells #[Value.string t] 9)).drew = w5.drew.alloc (.cells #[.string t] 9) from rfl]); (refine Kd.R_append_step Kd.string (w0 := w) (W := w5.drew) g (by rfl) (.tmp 51) (.tmp 55) 25 9 (.string ⟨#[]⟩) 16 (by rfl) Try.underlying25 info9 rfl (by decide) (by omega) (.slice A acc.length cp) acc t [.string t] (fun k => g + 4 < k) (fun _ => False) (by rfl) (by rfl) rfl (fun _ hk => hk.elim) (fun k hk => Nat.lt_of_lt_of_le HLT.out hk) HR8.out HO8.out.be (Nat.le_of_lt (blk_lt HO8.out.st.bs)) (by have := HLEN.out; omega) ?_); intro v9 w9 ho hb hg hat; have HO9 := Aside0.mk (HO8.out.grown hg HFN.out HFF.out hb); have HR9 := Aside0.mk ho; have e9 := (blk_cell HO9.out.mq 11).trans (rfl : _ = some (Value.slice A acc.length cp)); have z9 := blk_frozen HO9.out.mq 11; clear ho hb hg hat; obtain ⟨ys, hys⟩ : ∃ y, acc ++ [t] = y := ⟨_, rfl⟩; rw [hys] at HR9; have HYS := Aside0.mk hys; clear hys; obtain ⟨Ao, co, eo⟩ := Kd.R_slice HR9.out; subst eo))
            all_goals
              have HO10 := Aside0.mk (HO9.out.log (.slice Ao ys.length co))
              have HR10 := Aside0.mk (Kd.R_far HR9.out (p := ⟨g + 3, 11, none⟩) (fun k hk => by show k ≠ g + 3; omega) (.slice Ao ys.length co))
              generalize w9.setCell ⟨g + 3, 11, none⟩ (.slice Ao ys.length co) = w10 at HO10 HR10 ⊢
              clear HO9 HR9 e9 z9 HO8 HR8 HFN HFF e11 e11a z11 HO5 HR5 c0 c1 ht
              have c0 := HO10.out.st.c0
              have z0 := blk_frozen HO10.out.st.bs 0
              have HO11 := Aside0.mk (HO10.out.sets (s3.extract n.toNat s3.size))
              have HR11 := Aside0.mk (Kd.R_far HR10.out (p := ⟨g, 0, none⟩) (fun k hk => by show k ≠ g; omega) (.string (s3.extract n.toNat s3.size)))
              have HZ11 := Aside0.mk (show (s3.extract n.toNat s3.size).size ≤ 1048576 by rw [extract_size _ _ _ (Nat.le_refl _)]; have := HZ4.out; have := HBD.out; omega)
              have HG11 := Aside0.mk (show rlog (m - (i + 1)) (s3.extract n.toNat s3.size) true ys = rlog m s2 o2 [] by rw [show m - (i + 1) = j from by have := HJ.out; omega, ← HYS.out]; exact HG4.out)
              have HL11 := Aside0.mk (show ys.length = i + 1 by rw [← HYS.out]; simp [HLEN.out])
              clear HO10 HR10
              go_wp2_with fail
              go_roundw
              case rel => exact ⟨i + 1, ys, _, true, Ao, co, by simp, hlt, HL11.out, HO11, HR11, HZ11, HG11⟩
              case measure => simp [intOf]; omega
          · have hg := HG2.out
            rw [if_neg hbad] at hg
            have HWN := Aside0.mk (wireOf_none HSZ.out HRN.out HNM.out hg.symm)
            have hw := HWR.out
            rw [HWN.out] at hw
            simp only [Prod.mk.injEq] at hw
            obtain ⟨rfl, rfl, rfl, rfl⟩ := hw
            clear hg HG2
            cases o3 with
            | false =>
              clear hbad
              go_wp2_with ((with_reducible refine gate_store (t := 28) (p := 2) (v := .tmp 49) rfl ?_); refine store_all rfl rfl rfl (g + 1) (mb [] (.slice none 0 0) (.slice none 0 0)) zcells 28 (by rfl) (by rfl) HO5.out.r0 rfl (by kernel_rfl) zcells_one ?_; intro w6 hr1 hf6; have HR1 := Aside0.mk hr1; have HF6 := Aside0.mk hf6; clear hr1 hf6)
              refine bodyPost_ret (results_ct rfl _ _ (g + 1) 28 zcells (0, 0) _ rfl HR1.out Try.underlying28 rfl (by kernel_rfl)) rfl ?_
              exact ⟨.slice none 0 0, .slice none 0 0, rfl, Kd.R_nil _ _ _ _ _, Kd.R_nil _ _ _ _ _, by rw [HG0.out]; exact HO5.out.be.trans (HF6.out.below (by have := blk_lt HO5.out.mq; omega) (fun k hk => by omega))⟩
            | true =>
              have b3 : decide ((s3.size : Int) < n) = true := by
                have : ¬ n ≤ (s3.size : Int) := fun h => hbad ⟨rfl, h⟩
                simp; omega
              clear hbad
              go_wp2_with ((with_reducible refine gate_store (t := 28) (p := 2) (v := .tmp 49) rfl ?_); refine store_all rfl rfl rfl (g + 1) (mb [] (.slice none 0 0) (.slice none 0 0)) zcells 28 (by rfl) (by rfl) HO5.out.r0 rfl (by kernel_rfl) zcells_one ?_; intro w6 hr1 hf6; have HR1 := Aside0.mk hr1; have HF6 := Aside0.mk hf6; clear hr1 hf6)
              refine bodyPost_ret (results_ct rfl _ _ (g + 1) 28 zcells (0, 0) _ rfl HR1.out Try.underlying28 rfl (by kernel_rfl)) rfl ?_
              exact ⟨.slice none 0 0, .slice none 0 0, rfl, Kd.R_nil _ _ _ _ _, Kd.R_nil _ _ _ _ _, by rw [HG0.out]; exact HO5.out.be.trans (HF6.out.below (by have := blk_lt HO5.out.mq; omega) (fun k hk => by omega))⟩
        · have hie : i = m := by omega
          subst hie
          have hb1 : decide ((i : Int) < (i : Int)) = false := by simp
          have hg := HG.out
          rw [Nat.sub_self, rlog] at hg
          have HG2 := Aside0.mk hg.symm
          clear hg HG hi hlt
          obtain ⟨⟨n, s4, o4⟩, hnm⟩ : ∃ v, nm sc oc 256 = v := ⟨_, rfl⟩
          have hbd := nm_bd sc oc 256 (by decide)
          rw [hnm] at hbd
          simp only at hbd
          have HNM4 := Aside0.mk hnm
          have HBD := Aside0.mk hbd
          clear hnm hbd
          go_wp2_with fail
          refine (wnum_eq HNM4.out HO.out.st (by have := HZ4.out; omega)).mono ?_
          rintro x w5 ⟨rfl, hS, hF⟩
          have HO5 := Aside0.mk (HO.out.fr hS hF)
          have HR5 := Aside0.mk (Kd.R_step HR.out (fun k hk hlt => hF.block k hlt (fun e => by rcases e with e | e <;> omega)))
          clear hS hF HO HR
          have c0 := HO5.out.st.c0
          obtain ⟨⟨bd, e2⟩, hrc⟩ : ∃ v, recOf s4 0 n = some v := by
            unfold recOf
            rw [if_neg (by have := HBD.out; omega), if_pos (by have := HZ4.out; have := HBD.out; omega)]
            exact ⟨_, rfl⟩
          have HRC := Aside0.mk hrc
          have HWS := Aside0.mk (wireOf_some HSZ.out HRN.out HNM.out HG2.out HNM4.out hrc)
          clear hrc
          go_wp2_with fail
          refine (of_any s4 0 n bd e2 _ HRC.out).mono ?_
          rintro x w6 ⟨vb, rfl, hrb, hb⟩
          have HO6 := Aside0.mk (HO5.out.below hb)
          have HR6 := Aside0.mk (Kd.R_below HR5.out hb)
          have HB6 := Aside0.mk (Kd.R_mono (ok' := fun k => g + 4 < k) (Kd.R_lower (Kd.R_bound hrb) (base' := g) (Nat.le_of_lt (blk_lt HO5.out.st.bs))) (fun k hk => by have := blk_lt HO5.out.he; have := hk.2.1; omega))
          obtain ⟨A2, c2, hvb⟩ := Kd.R_slice HB6.out
          subst hvb
          clear hb hrb HO5 HR5 c0
          have e12 : w6.cell? ⟨g + 3, 12, none⟩ = some (.slice none 0 0) := (blk_cell HO6.out.mq 12).trans rfl
          have z12 := blk_frozen HO6.out.mq 12
          go_upto_region 24 with (fail)
          have HO7 := Aside0.mk (HO6.out.body (.slice A2 bd.length c2))
          have HR7 := Aside0.mk (Kd.R_far HR6.out (p := ⟨g + 3, 12, none⟩) (fun k hk => by show k ≠ g + 3; omega) (.slice A2 bd.length c2))
          have HB7 := Aside0.mk (Kd.R_far HB6.out (p := ⟨g + 3, 12, none⟩) (fun k hk => by show k ≠ g + 3; omega) (.slice A2 bd.length c2))
          generalize w6.setCell ⟨g + 3, 12, none⟩ (.slice A2 bd.length c2) = w7 at HO7 HR7 HB7 ⊢
          clear HO6 HR6 HB6 e12 z12
          have c1 := HO7.out.st.c1
          by_cases h1 : o4 = true ∧ e2 = 0
          · obtain ⟨rfl, rfl⟩ := h1
            have HXL := Aside0.mk (show [xs[0]?.getD 0, xs[1]?.getD 0, xs[2]?.getD 0, xs[3]?.getD 0, xs[4]?.getD 0, xs[5]?.getD 0, xs[6]?.getD 0, xs[7]?.getD 0, xs[8]?.getD 0, xs[9]?.getD 0, xs[10]?.getD 0] = xs from list11 xs (by have := rnums_len s 11; rw [HRN.out] at this; exact this))
            have e0 : w7.cell? ⟨g + 3, 0, none⟩ = some (.int .i64 (xs.getD 0 0)) := (blk_cell HO7.out.mq 0).trans rfl
            have e1 : w7.cell? ⟨g + 3, 1, none⟩ = some (.int .i64 (xs.getD 1 0)) := (blk_cell HO7.out.mq 1).trans rfl
            have e2 : w7.cell? ⟨g + 3, 2, none⟩ = some (.int .i64 (xs.getD 2 0)) := (blk_cell HO7.out.mq 2).trans rfl
            have e3 : w7.cell? ⟨g + 3, 3, none⟩ = some (.int .i64 (xs.getD 3 0)) := (blk_cell HO7.out.mq 3).trans rfl
            have e4 : w7.cell? ⟨g + 3, 4, none⟩ = some (.int .i64 (xs.getD 4 0)) := (blk_cell HO7.out.mq 4).trans rfl
            have e5 : w7.cell? ⟨g + 3, 5, none⟩ = some (.int .i64 (xs.getD 5 0)) := (blk_cell HO7.out.mq 5).trans rfl
            have e6 : w7.cell? ⟨g + 3, 6, none⟩ = some (.int .i64 (xs.getD 6 0)) := (blk_cell HO7.out.mq 6).trans rfl
            have e7 : w7.cell? ⟨g + 3, 7, none⟩ = some (.int .i64 (xs.getD 7 0)) := (blk_cell HO7.out.mq 7).trans rfl
            have e8 : w7.cell? ⟨g + 3, 8, none⟩ = some (.int .i64 (xs.getD 8 0)) := (blk_cell HO7.out.mq 8).trans rfl
            have e9 : w7.cell? ⟨g + 3, 9, none⟩ = some (.int .i64 (xs.getD 9 0)) := (blk_cell HO7.out.mq 9).trans rfl
            have e10 : w7.cell? ⟨g + 3, 10, none⟩ = some (.int .i64 (xs.getD 10 0)) := (blk_cell HO7.out.mq 10).trans rfl
            have e11 : w7.cell? ⟨g + 3, 11, none⟩ = some (.slice A acc.length cp) := (blk_cell HO7.out.mq 11).trans rfl
            have e12 : w7.cell? ⟨g + 3, 12, none⟩ = some (.slice A2 bd.length c2) := (blk_cell HO7.out.mq 12).trans rfl
            go_wp2_with fail
            refine (check_any _ _ _ _ _ _ _ _ _ _ _ A cp acc A2 c2 bd _ (RC HR7.out).1 (RC HB7.out).1 (by have := HLEN.out; omega) (by have := recOf_len HRC.out; have := HBD.out; omega)).mono ?_
            rintro x w8 ⟨rfl, hb⟩
            rw [HXL.out]
            have HO8 := Aside0.mk (HO7.out.below hb)
            have HR8 := Aside0.mk (Kd.R_below HR7.out hb)
            have HB8 := Aside0.mk (Kd.R_below HB7.out hb)
            clear hb HO7 HR7 HB7 e0 e1 e2 e3 e4 e5 e6 e7 e8 e9 e10 e11 e12
            by_cases hok : okMsg xs acc bd = true
            · rw [if_pos hok]
              have hw := HWR.out
              rw [HWS.out, if_pos ⟨by first | rfl | trivial, by first | rfl | trivial, hok⟩] at hw
              simp only [Prod.mk.injEq] at hw
              obtain ⟨rfl, rfl, rfl, rfl⟩ := hw
              clear hok
              have e0 : w8.cell? ⟨g + 3, 0, none⟩ = some (.int .i64 (xs.getD 0 0)) := (blk_cell HO8.out.mq 0).trans rfl
              have e1 : w8.cell? ⟨g + 3, 1, none⟩ = some (.int .i64 (xs.getD 1 0)) := (blk_cell HO8.out.mq 1).trans rfl
              have e2 : w8.cell? ⟨g + 3, 2, none⟩ = some (.int .i64 (xs.getD 2 0)) := (blk_cell HO8.out.mq 2).trans rfl
              have e3 : w8.cell? ⟨g + 3, 3, none⟩ = some (.int .i64 (xs.getD 3 0)) := (blk_cell HO8.out.mq 3).trans rfl
              have e4 : w8.cell? ⟨g + 3, 4, none⟩ = some (.int .i64 (xs.getD 4 0)) := (blk_cell HO8.out.mq 4).trans rfl
              have e5 : w8.cell? ⟨g + 3, 5, none⟩ = some (.int .i64 (xs.getD 5 0)) := (blk_cell HO8.out.mq 5).trans rfl
              have e6 : w8.cell? ⟨g + 3, 6, none⟩ = some (.int .i64 (xs.getD 6 0)) := (blk_cell HO8.out.mq 6).trans rfl
              have e7 : w8.cell? ⟨g + 3, 7, none⟩ = some (.int .i64 (xs.getD 7 0)) := (blk_cell HO8.out.mq 7).trans rfl
              have e8 : w8.cell? ⟨g + 3, 8, none⟩ = some (.int .i64 (xs.getD 8 0)) := (blk_cell HO8.out.mq 8).trans rfl
              have e9 : w8.cell? ⟨g + 3, 9, none⟩ = some (.int .i64 (xs.getD 9 0)) := (blk_cell HO8.out.mq 9).trans rfl
              have e10 : w8.cell? ⟨g + 3, 10, none⟩ = some (.int .i64 (xs.getD 10 0)) := (blk_cell HO8.out.mq 10).trans rfl
              have e11 : w8.cell? ⟨g + 3, 11, none⟩ = some (.slice A acc.length cp) := (blk_cell HO8.out.mq 11).trans rfl
              have e12 : w8.cell? ⟨g + 3, 12, none⟩ = some (.slice A2 bd.length c2) := (blk_cell HO8.out.mq 12).trans rfl
              go_wp2_with ((with_reducible refine gate_store (t := 28) (p := 2) (v := .tmp 84) rfl ?_); refine store_all rfl rfl rfl (g + 1) (mb [] (.slice none 0 0) (.slice none 0 0)) (mf xs (.slice A acc.length cp) (.slice A2 bd.length c2)) 28 (by rfl) (by rfl) HO8.out.r0 rfl (by kernel_rfl) (mf_one _ _ _ _ _ _ _) ?_; intro w9 hr1 hf6; have HR1 := Aside0.mk hr1; have HF6 := Aside0.mk hf6; clear hr1 hf6)
              refine bodyPost_ret (results_ct rfl _ _ (g + 1) 28 (mf xs (.slice A acc.length cp) (.slice A2 bd.length c2)) (0, 0) _ rfl HR1.out Try.underlying28 rfl (by kernel_rfl)) rfl ?_
              exact ⟨.slice A acc.length cp, .slice A2 bd.length c2, rfl, by rw [HG0.out]; exact Kd.R_mono (Kd.R_step HR8.out (fun k hk hlt => HF6.out.block k hlt (fun e => by omega))) (fun _ _ => trivial), by rw [HG0.out]; exact Kd.R_mono (Kd.R_step HB8.out (fun k hk hlt => HF6.out.block k hlt (fun e => by omega))) (fun _ _ => trivial), by rw [HG0.out]; exact HO8.out.be.trans (HF6.out.below (by have := blk_lt HO8.out.mq; omega) (fun k hk => by omega))⟩
            · rw [if_neg hok]
              have hw := HWR.out
              rw [HWS.out, if_neg (fun h => hok h.2.2)] at hw
              simp only [Prod.mk.injEq] at hw
              obtain ⟨rfl, rfl, rfl, rfl⟩ := hw
              clear hok
              go_wp2_with ((with_reducible refine gate_store (t := 28) (p := 2) (v := .tmp 83) rfl ?_); refine store_all rfl rfl rfl (g + 1) (mb [] (.slice none 0 0) (.slice none 0 0)) zcells 28 (by rfl) (by rfl) HO8.out.r0 rfl (by kernel_rfl) zcells_one ?_; intro w9 hr1 hf6; have HR1 := Aside0.mk hr1; have HF6 := Aside0.mk hf6; clear hr1 hf6)
              refine bodyPost_ret (results_ct rfl _ _ (g + 1) 28 zcells (0, 0) _ rfl HR1.out Try.underlying28 rfl (by kernel_rfl)) rfl ?_
              exact ⟨.slice none 0 0, .slice none 0 0, rfl, Kd.R_nil _ _ _ _ _, Kd.R_nil _ _ _ _ _, by rw [HG0.out]; exact HO8.out.be.trans (HF6.out.below (by have := blk_lt HO8.out.mq; omega) (fun k hk => by omega))⟩
          · have hw := HWR.out
            rw [HWS.out, if_neg (fun h => h1 ⟨h.1, h.2.1⟩)] at hw
            simp only [Prod.mk.injEq] at hw
            obtain ⟨rfl, rfl, rfl, rfl⟩ := hw
            cases o4 with
            | false =>
              clear h1
              go_wp2_with ((with_reducible refine gate_store (t := 28) (p := 2) (v := .tmp 83) rfl ?_); refine store_all rfl rfl rfl (g + 1) (mb [] (.slice none 0 0) (.slice none 0 0)) zcells 28 (by rfl) (by rfl) HO7.out.r0 rfl (by kernel_rfl) zcells_one ?_; intro w9 hr1 hf6; have HR1 := Aside0.mk hr1; have HF6 := Aside0.mk hf6; clear hr1 hf6)
              refine bodyPost_ret (results_ct rfl _ _ (g + 1) 28 zcells (0, 0) _ rfl HR1.out Try.underlying28 rfl (by kernel_rfl)) rfl ?_
              exact ⟨.slice none 0 0, .slice none 0 0, rfl, Kd.R_nil _ _ _ _ _, Kd.R_nil _ _ _ _ _, by rw [HG0.out]; exact HO7.out.be.trans (HF6.out.below (by have := blk_lt HO7.out.mq; omega) (fun k hk => by omega))⟩
            | true =>
              have b2 : (e2 != 0) = true := by simpa using fun h => h1 ⟨rfl, h⟩
              clear h1
              go_wp2_with ((with_reducible refine gate_store (t := 28) (p := 2) (v := .tmp 83) rfl ?_); refine store_all rfl rfl rfl (g + 1) (mb [] (.slice none 0 0) (.slice none 0 0)) zcells 28 (by rfl) (by rfl) HO7.out.r0 rfl (by kernel_rfl) zcells_one ?_; intro w9 hr1 hf6; have HR1 := Aside0.mk hr1; have HF6 := Aside0.mk hf6; clear hr1 hf6)
              refine bodyPost_ret (results_ct rfl _ _ (g + 1) 28 zcells (0, 0) _ rfl HR1.out Try.underlying28 rfl (by kernel_rfl)) rfl ?_
              exact ⟨.slice none 0 0, .slice none 0 0, rfl, Kd.R_nil _ _ _ _ _, Kd.R_nil _ _ _ _ _, by rw [HG0.out]; exact HO7.out.be.trans (HF6.out.below (by have := blk_lt HO7.out.mq; omega) (fun k hk => by omega))⟩
end Go.Proofs.Ytojnhklgfdfkcaa.WK
namespace Go.Proofs.Ytojnhklgfdfkcaa.WK
open Go.RowKit Go.Proofs.YtojnhklgfdfkcaaW.PrintWords Go.Proofs.YtojnhklgfdfkcaaW.PrintLast Go.Proofs.YtojnhklgfdfkcaaW.PrintMore Go.Proofs.Ytojnhklgfdfkcaa.MB Go.Proofs.Ytojnhklgfdfkcaa.HW Go.Proofs.Ytojnhklgfdfkcaa.Fn Go.Proofs.Ytojnhklgfdfkcaa.PV Go.Proofs.Ytojnhklgfdfkcaa.RB Go.Proofs.Ytojnhklgfdfkcaa.RO
attribute [local go_sem] max2_int min2_int max_two min_two max_three min_three max_four min_four   -- for this text's walks alone
set_option maxHeartbeats 4000000 in
set_option maxRecDepth 100000 in
theorem wof_any (s : ByteArray) (w : World) (ns : List Int) (log : List ByteArray) (body : List S63) (er : Int) (hw : wireOf s = (ns, log, body, er)) :
    Calls Try.prog 14 #[.string s] w fun x w' => ∃ v11 v12 : Value, x = .returned (.tuple #[.agg #[.int .i64 (ns.getD 0 0), .int .i64 (ns.getD 1 0), .int .i64 (ns.getD 2 0), .int .i64 (ns.getD 3 0), .int .i64 (ns.getD 4 0), .int .i64 (ns.getD 5 0), .int .i64 (ns.getD 6 0), .int .i64 (ns.getD 7 0), .int .i64 (ns.getD 8 0), .int .i64 (ns.getD 9 0), .int .i64 (ns.getD 10 0), v11, v12], .int .i64 er]) ∧ Kd.R Kd.string 9 w' w.heap.size (fun _ => True) v11 log ∧ Kd.R k63 63 w' w.heap.size (fun _ => True) v12 body ∧ Below w.heap.size w w' := by
  by_cases hs : s.size ≤ 1048576
  · exact wof_good s w hs ns log body er hw
  · unfold wireOf at hw
    rw [if_pos (by omega)] at hw
    simp only [Prod.mk.injEq] at hw
    obtain ⟨rfl, rfl, rfl, rfl⟩ := hw
    have hu := Try.underlying28
    have b1 : decide (1048576 < (s.size : Int)) = true := by simp; omega
    clear hs
    have HM := Aside0.mk (show ((w.alloc (.cells #[.string s] 9)).alloc (.cells zcells 28)).heap[w.heap.size + 1]? = some (.cells zcells 28 (0, 0)) from alloc_at _ _ _ (by rw [alloc_size]))
    have HB := Aside0.mk (below_alloc (below_alloc (Below.refl w.heap.size w) (.cells #[.string s] 9)) (.cells zcells 28))
    have HSZ := Aside0.mk (show w.heap.size ≤ ((w.alloc (.cells #[.string s] 9)).alloc (.cells zcells 28)).heap.size by rw [alloc_size, alloc_size]; omega)
    go_enter Try.func14, Try.ntmps14
    go_wp2_with ((with_reducible refine gate_store (t := 28) (p := 2) (v := .tmp 17) rfl ?_); refine store_all rfl rfl rfl (w.heap.size + 1) zcells zcells 28 (by rfl) (by rfl) HM.out rfl (by kernel_rfl) zcells_one ?_; intro w9 hr1 hf6; have HR1 := Aside0.mk hr1; have HF6 := Aside0.mk hf6; clear hr1 hf6)
    refine bodyPost_ret (results_ct rfl _ _ (w.heap.size + 1) 28 zcells (0, 0) _ rfl HR1.out Try.underlying28 rfl (by kernel_rfl)) rfl ?_
    exact ⟨.slice none 0 0, .slice none 0 0, rfl, Kd.R_nil _ _ _ _ _, Kd.R_nil _ _ _ _ _, HB.out.trans (HF6.out.below HSZ.out (fun k hk => by omega))⟩
end Go.Proofs.Ytojnhklgfdfkcaa.WK
namespace Go.Proofs.Ytojnhklgfdfkcaa.WK
open Go.RowKit Go.Proofs.YtojnhklgfdfkcaaW.PrintWords Go.Proofs.YtojnhklgfdfkcaaW.PrintLast Go.Proofs.YtojnhklgfdfkcaaW.PrintMore Go.Proofs.Ytojnhklgfdfkcaa.MB Go.Proofs.Ytojnhklgfdfkcaa.HW Go.Proofs.Ytojnhklgfdfkcaa.Fn Go.Proofs.Ytojnhklgfdfkcaa.PV Go.Proofs.Ytojnhklgfdfkcaa.RB Go.Proofs.Ytojnhklgfdfkcaa.RO
attribute [local go_sem] max2_int min2_int max_two min_two max_three min_three max_four min_four   -- for this text's walks alone
theorem vs_lt (n : Nat) (h : n < 128) : vs n = strOfNums [(n : Int)] := by unfold vs; rw [pv_lt h]
theorem aw_b1 : wireB [3, 1, 2, 300, 0, 0, 0, 0, 0, 0, 0] [(⟨#[120]⟩ : ByteArray)] [(⟨0, (⟨#[107]⟩ : ByteArray), (⟨#[]⟩ : ByteArray), false⟩ : S63)] = ((⟨#[3, 1, 2, 172, 2, 0, 0, 0, 0, 0, 0, 0, 1, 1, 120, 1, 0, 1, 107, 1]⟩ : ByteArray), 0) := by
  have h0 : vs 0 = ⟨#[0]⟩ := (vs_lt 0 (by decide)).trans rfl
  have h1 : vs 1 = ⟨#[1]⟩ := (vs_lt 1 (by decide)).trans rfl
  have h2 : vs 2 = ⟨#[2]⟩ := (vs_lt 2 (by decide)).trans rfl
  have h3 : vs 3 = ⟨#[3]⟩ := (vs_lt 3 (by decide)).trans rfl
  have h300 : vs 300 = ⟨#[172, 2]⟩ := by unfold vs; rw [pv_ge (by decide), pv_lt (by decide)]; rfl
  have hn : numsB [3, 1, 2, 300, 0, 0, 0, 0, 0, 0, 0] 11 = ⟨#[3, 1, 2, 172, 2, 0, 0, 0, 0, 0, 0, 0]⟩ := by
    show (((((((((((⟨#[]⟩ : ByteArray) ++ vs 3) ++ vs 1) ++ vs 2) ++ vs 300) ++ vs 0) ++ vs 0) ++ vs 0) ++ vs 0) ++ vs 0) ++ vs 0) ++ vs 0 = _
    rw [h0, h1, h2, h3, h300]
    rfl
  have hr : (rgo 0 [(⟨0, (⟨#[107]⟩ : ByteArray), (⟨#[]⟩ : ByteArray), false⟩ : S63)] 0 ⟨#[]⟩).1 = ⟨#[0, 1, 107, 1]⟩ := by
    rw [rgo, if_pos (by decide), rgo]
    unfold recB
    rw [if_neg (by decide)]
    show (⟨#[]⟩ : ByteArray) ++ (vs 0 ++ vs 1 ++ ⟨#[107]⟩ ++ (vs 1 ++ ⟨#[]⟩)) = _
    rw [h0, h1]
    rfl
  unfold wireB
  rw [if_pos (by decide), hn, hr]
  show (match logB [(⟨#[120]⟩ : ByteArray)] ((⟨#[3, 1, 2, 172, 2, 0, 0, 0, 0, 0, 0, 0]⟩ : ByteArray) ++ vs 1) with
    | none => ((⟨#[]⟩ : ByteArray), (4 : Int))
    | some a => if 1048576 < (a ++ vs 1 ++ (⟨#[0, 1, 107, 1]⟩ : ByteArray)).size then ((⟨#[]⟩ : ByteArray), (4 : Int)) else (a ++ vs 1 ++ (⟨#[0, 1, 107, 1]⟩ : ByteArray), 0)) = _
  rw [h1, logB]
  show (match (if 1048576 < (((⟨#[3, 1, 2, 172, 2, 0, 0, 0, 0, 0, 0, 0]⟩ : ByteArray) ++ (⟨#[1]⟩ : ByteArray)) ++ vs 1 ++ (⟨#[120]⟩ : ByteArray)).size then none else logB [] (((⟨#[3, 1, 2, 172, 2, 0, 0, 0, 0, 0, 0, 0]⟩ : ByteArray) ++ (⟨#[1]⟩ : ByteArray)) ++ vs 1 ++ (⟨#[120]⟩ : ByteArray))) with
    | none => ((⟨#[]⟩ : ByteArray), (4 : Int))
    | some a => if 1048576 < (a ++ (⟨#[1]⟩ : ByteArray) ++ (⟨#[0, 1, 107, 1]⟩ : ByteArray)).size then ((⟨#[]⟩ : ByteArray), (4 : Int)) else (a ++ (⟨#[1]⟩ : ByteArray) ++ (⟨#[0, 1, 107, 1]⟩ : ByteArray), 0)) = _
  rw [h1, if_neg (by decide), logB]
  rfl
theorem aw_b2 : wireB [5, 0, 0, 0, 0, 0, 0, 0, 0, 0, 0] [] [] = ((⟨#[5, 0, 0, 0, 0, 0, 0, 0, 0, 0, 0, 0, 0]⟩ : ByteArray), 0) := by
  have h0 : vs 0 = ⟨#[0]⟩ := (vs_lt 0 (by decide)).trans rfl
  have h5 : vs 5 = ⟨#[5]⟩ := (vs_lt 5 (by decide)).trans rfl
  have hn : numsB [5, 0, 0, 0, 0, 0, 0, 0, 0, 0, 0] 11 = ⟨#[5, 0, 0, 0, 0, 0, 0, 0, 0, 0, 0]⟩ := by
    show (((((((((((⟨#[]⟩ : ByteArray) ++ vs 5) ++ vs 0) ++ vs 0) ++ vs 0) ++ vs 0) ++ vs 0) ++ vs 0) ++ vs 0) ++ vs 0) ++ vs 0) ++ vs 0 = _
    rw [h0, h5]
    rfl
  unfold wireB
  rw [if_pos (by decide), hn]
  show (match logB [] ((⟨#[5, 0, 0, 0, 0, 0, 0, 0, 0, 0, 0]⟩ : ByteArray) ++ vs 0) with
    | none => ((⟨#[]⟩ : ByteArray), (4 : Int))
    | some a => if 1048576 < (a ++ vs 0 ++ (⟨#[]⟩ : ByteArray)).size then ((⟨#[]⟩ : ByteArray), (4 : Int)) else (a ++ vs 0 ++ (⟨#[]⟩ : ByteArray), 0)) = _
  rw [h0, logB]
  rfl
theorem aw_of : wireOf (⟨#[3, 1, 2, 172, 2, 0, 0, 0, 0, 0, 0, 0, 1, 1, 120, 1, 0, 1, 107, 1]⟩ : ByteArray) = ([3, 1, 2, 300, 0, 0, 0, 0, 0, 0, 0], [(⟨#[120]⟩ : ByteArray)], [(⟨0, (⟨#[107]⟩ : ByteArray), (⟨#[]⟩ : ByteArray), false⟩ : S63)], 0) := by kernel_rfl
theorem C_one {α : Type} {d : Kd α} {w : World} {g : Nat} {t : TypeId} {x : α} {cs : List Value} (hK : d.K w x cs) (hb : w.heap[g]? = some (.cells cs.toArray t (0, 0))) : d.C w (some ⟨g, 0, none⟩) 1 [x] :=
  ⟨rfl, by decide, fun _ => ⟨_, rfl, fun j p hj => by
    cases j with
    | zero =>
      simp only [List.getElem?_cons_zero, Option.some.injEq] at hj
      subst hj
      refine ⟨cs, d.K_len hK, hK, fun i u hu => ?_⟩
      have h1 := blk_cell hb i
      rw [List.getElem?_toArray, hu] at h1
      simp only [Nat.zero_mul, Nat.zero_add]
      by_cases hi : i = 0
      · subst hi; simpa [Addr.add] using h1
      · simpa [Addr.add, hi] using h1
    | succ j => simp at hj⟩⟩
theorem C_nil {α : Type} (d : Kd α) (w : World) : d.C w none 0 [] := ⟨rfl, by decide, fun h => absurd h (by decide)⟩
set_option maxHeartbeats 16000000 in
set_option maxRecDepth 100000 in
theorem awake_any (w : World) : Calls Try.prog 13 #[] w fun e w' => e = .returned (.bool true) ∧ Below w.heap.size w w' := by
  have hu := Try.underlying28
  have hu3 := Try.underlying24
  have hu63 := Try.underlying63
  obtain ⟨S1, hS1⟩ : ∃ s : ByteArray, s = (⟨#[3, 1, 2, 172, 2, 0, 0, 0, 0, 0, 0, 0, 1, 1, 120, 1, 0, 1, 107, 1]⟩ : ByteArray) := ⟨_, rfl⟩
  obtain ⟨S2, hS2⟩ : ∃ s : ByteArray, s = (⟨#[5, 0, 0, 0, 0, 0, 0, 0, 0, 0, 0, 0, 0]⟩ : ByteArray) := ⟨_, rfl⟩
  obtain ⟨x, hx⟩ : ∃ s : ByteArray, s = (⟨#[120]⟩ : ByteArray) := ⟨_, rfl⟩
  obtain ⟨r, hr⟩ : ∃ s : S63, s = (⟨0, (⟨#[107]⟩ : ByteArray), (⟨#[]⟩ : ByteArray), false⟩ : S63) := ⟨_, rfl⟩
  have hb1 := aw_b1
  have hb2 := aw_b2
  have hof := aw_of
  rw [← hS1, ← hx, ← hr] at hb1 hof
  rw [← hS2] at hb2
  have c3b0 : (S2.toList == ([5, 0, 0, 0, 0, 0, 0, 0, 0, 0, 0, 0, 0] : List UInt8)) = true := by rw [hS2, Lib.toList_data]; rfl
  have B1 := Aside0.mk hb1
  have B2 := Aside0.mk hb2
  have OF := Aside0.mk hof
  have HX := Aside0.mk hx
  have HRR := Aside0.mk hr
  clear hb1 hb2 hof hS1 hS2 hx hr
  have hk0 := alloc_old (w.alloc (.cells #[.string (⟨#[120]⟩ : ByteArray)] 9)) (.cells #[.int .i64 0, .string (⟨#[107]⟩ : ByteArray), .string (⟨#[]⟩ : ByteArray), .bool false] 63) _ _ (alloc_at w (.cells #[.string (⟨#[120]⟩ : ByteArray)] 9) _ rfl)
  have hk1 := alloc_at (w.alloc (.cells #[.string (⟨#[120]⟩ : ByteArray)] 9)) (.cells #[.int .i64 0, .string (⟨#[107]⟩ : ByteArray), .string (⟨#[]⟩ : ByteArray), .bool false] 63) (w.heap.size + 1) (by rw [alloc_size])
  have K0 := Aside0.mk (alloc_old _ (.cells zcells 28) _ _ hk0)
  have K1 := Aside0.mk (alloc_old _ (.cells zcells 28) _ _ hk1)
  have K2 := Aside0.mk (alloc_at ((w.alloc (.cells #[.string (⟨#[120]⟩ : ByteArray)] 9)).alloc (.cells #[.int .i64 0, .string (⟨#[107]⟩ : ByteArray), .string (⟨#[]⟩ : ByteArray), .bool false] 63)) (.cells zcells 28) (w.heap.size + 2) (by rw [alloc_size, alloc_size]))
  have HB := Aside0.mk (below_alloc (below_alloc (below_alloc (Below.refl w.heap.size w) (.cells #[.string (⟨#[120]⟩ : ByteArray)] 9)) (.cells #[.int .i64 0, .string (⟨#[107]⟩ : ByteArray), .string (⟨#[]⟩ : ByteArray), .bool false] 63)) (.cells zcells 28))
  clear hk0 hk1
  go_enter Try.func13, Try.ntmps13
  go_upto_region 2 with ((with_reducible refine gate_store (t := 28) (p := 1) (v := .tmp 11) rfl ?_); refine store_all rfl rfl rfl (w.heap.size + 2) zcells (mcells 3 1 2 300 0 0 0 0 0 0 0 (.slice (some ⟨w.heap.size, 0, none⟩) 1 1) (.slice (some ⟨w.heap.size + 1, 0, none⟩) 1 1)) 28 (by rfl) (by rfl) K2.out rfl (by kernel_rfl) (mf_one [3, 1, 2, 300, 0, 0, 0, 0, 0, 0, 0] _ _ _ _ _ _) ?_; intro w4 hr1 hf6; have HMQ := Aside0.mk hr1; have HF6 := Aside0.mk hf6; clear hr1 hf6)
  obtain ⟨g, hg⟩ : ∃ g, w.heap.size = g := ⟨_, rfl⟩
  rw [hg] at HMQ HF6 K0 K1
  rw [hg]
  have HG := Aside0.mk hg
  clear hg K2
  have K0b := Aside0.mk (HF6.out.blk K0.out (by omega))
  have K1b := Aside0.mk (HF6.out.blk K1.out (by omega))
  have HB4 := Aside0.mk (HB.out.trans (HF6.out.below (by rw [alloc_size, alloc_size, alloc_size]; omega) (fun k hk => by have := HG.out; omega)))
  clear K0 K1 HB HF6
  have HMQ : Aside0 (w4.heap[g + 1 + 1]? = some (.cells (mcells 3 1 2 300 0 0 0 0 0 0 0 (.slice (some ⟨g, 0, none⟩) 1 1) (.slice (some ⟨g + 1, 0, none⟩) 1 1)) 28 (0, 0))) := ⟨HMQ.out⟩
  have e0 : w4.cell? ⟨g + 1 + 1, 0, none⟩ = some (.int .i64 3) := (blk_cell HMQ.out 0).trans rfl
  have e1 : w4.cell? ⟨g + 1 + 1, 1, none⟩ = some (.int .i64 1) := (blk_cell HMQ.out 1).trans rfl
  have e2 : w4.cell? ⟨g + 1 + 1, 2, none⟩ = some (.int .i64 2) := (blk_cell HMQ.out 2).trans rfl
  have e3 : w4.cell? ⟨g + 1 + 1, 3, none⟩ = some (.int .i64 300) := (blk_cell HMQ.out 3).trans rfl
  have e4 : w4.cell? ⟨g + 1 + 1, 4, none⟩ = some (.int .i64 0) := (blk_cell HMQ.out 4).trans rfl
  have e5 : w4.cell? ⟨g + 1 + 1, 5, none⟩ = some (.int .i64 0) := (blk_cell HMQ.out 5).trans rfl
  have e6 : w4.cell? ⟨g + 1 + 1, 6, none⟩ = some (.int .i64 0) := (blk_cell HMQ.out 6).trans rfl
  have e7 : w4.cell? ⟨g + 1 + 1, 7, none⟩ = some (.int .i64 0) := (blk_cell HMQ.out 7).trans rfl
  have e8 : w4.cell? ⟨g + 1 + 1, 8, none⟩ = some (.int .i64 0) := (blk_cell HMQ.out 8).trans rfl
  have e9 : w4.cell? ⟨g + 1 + 1, 9, none⟩ = some (.int .i64 0) := (blk_cell HMQ.out 9).trans rfl
  have e10 : w4.cell? ⟨g + 1 + 1, 10, none⟩ = some (.int .i64 0) := (blk_cell HMQ.out 10).trans rfl
  have e11 : w4.cell? ⟨g + 1 + 1, 11, none⟩ = some (.slice (some ⟨g, 0, none⟩) 1 1) := (blk_cell HMQ.out 11).trans rfl
  have e12 : w4.cell? ⟨g + 1 + 1, 12, none⟩ = some (.slice (some ⟨g + 1, 0, none⟩) 1 1) := (blk_cell HMQ.out 12).trans rfl
  have R1 := Aside0.mk (show Kd.C Kd.string w4 (some ⟨g, 0, none⟩) 1 [x] from C_one (t := 9) (cs := [.string x]) rfl (by rw [HX.out]; exact K0b.out))
  have R2 := Aside0.mk (show Kd.C k63 w4 (some ⟨g + 1, 0, none⟩) 1 [r] from C_one (t := 63) (k63_mk w4 r) (by rw [HRR.out]; exact K1b.out))
  clear K0b K1b
  go_wp2_with fail
  refine (wbytes_any 3 1 2 300 0 0 0 0 0 0 0 (some ⟨g, 0, none⟩) 1 [x] (some ⟨g + 1, 0, none⟩) 1 [r] _ R1.out R2.out (by simp) (by simp) (by simp) S1 0 B1.out).mono ?_
  rintro e w5 ⟨rfl, hb⟩
  have HMQ5 := Aside0.mk ((hb.block _ (blk_lt HMQ.out)).trans HMQ.out)
  have R15 := Aside0.mk (Kd.C_below R1.out hb)
  have R25 := Aside0.mk (Kd.C_below R2.out hb)
  have HB5 := Aside0.mk (HB4.out.trans (hb.mono HB4.out.size))
  clear hb R1 R2 HMQ HB4
  clear e0 e1 e2 e3 e4 e5 e6 e7 e8 e9 e10 e11 e12
  go_wp2_with fail
  refine (wof_any S1 _ _ _ _ _ OF.out).mono ?_
  rintro e w6 ⟨v11, v12, rfl, hr1, hr2, hb⟩
  have HMQ6 := Aside0.mk ((hb.block _ (blk_lt HMQ5.out)).trans HMQ5.out)
  have R16 := Aside0.mk (Kd.C_below R15.out hb)
  have R26 := Aside0.mk (Kd.C_below R25.out hb)
  have HB6 := Aside0.mk (HB5.out.trans (hb.mono HB5.out.size))
  clear hb HMQ5 R15 R25 HB5
  obtain ⟨T1, d1, e1⟩ := Kd.R_slice hr1
  obtain ⟨T2, d2, e2⟩ := Kd.R_slice hr2
  subst e1
  subst e2
  have Q1 := Aside0.mk (RC hr1)
  have Q2 := Aside0.mk (RC hr2)
  clear hr1 hr2
  have K3 := Aside0.mk (heap_alloc_new w6 (.cells zcells 28))
  have HA6 := Aside0.mk (below_alloc (Below.refl w6.heap.size w6) (.cells zcells 28))
  go_upto_region 4 with ((with_reducible refine gate_store (t := 28) (p := 4) (v := .tmp 20) rfl ?_); refine store_all rfl rfl rfl w6.heap.size zcells (mcells 3 1 2 300 0 0 0 0 0 0 0 (.slice T1 1 d1) (.slice T2 1 d2)) 28 (by rfl) (by rfl) K3.out rfl (by kernel_rfl) (mf_one [3, 1, 2, 300, 0, 0, 0, 0, 0, 0, 0] _ _ _ _ _ _) ?_; intro w7 hr1 hf6; have HMN := Aside0.mk hr1; have HF7 := Aside0.mk hf6; clear hr1 hf6)
  have HB7' := Aside0.mk (HA6.out.trans (HF7.out.below HA6.out.size (fun k hk => by omega)))
  obtain ⟨h, hh⟩ : ∃ h, w6.heap.size = h := ⟨_, rfl⟩
  have HMQ7 := Aside0.mk ((HB7'.out.block _ (blk_lt HMQ6.out)).trans HMQ6.out)
  have R17 := Aside0.mk (Kd.C_below R16.out HB7'.out)
  have R27 := Aside0.mk (Kd.C_below R26.out HB7'.out)
  have Q17 := Aside0.mk (Kd.C_below Q1.out.1 HB7'.out)
  have Q27 := Aside0.mk (Kd.C_below Q2.out.1 HB7'.out)
  have HB7 := Aside0.mk (HB6.out.trans (HB7'.out.mono HB6.out.size))
  rw [hh] at HMN
  rw [hh]
  clear HMQ6 R16 R26 HB6 HB7' HF7 hh K3 HA6
  go_wp2_with fail
  refine (wbytes_any 5 0 0 0 0 0 0 0 0 0 0 none 0 [] none 0 [] _ (C_nil _ _) (C_nil _ _) (by decide) (by decide) (by decide) S2 0 B2.out).mono ?_
  rintro e w8 ⟨rfl, hb⟩
  have HMQ8 := Aside0.mk ((hb.block _ (blk_lt HMQ7.out)).trans HMQ7.out)
  have HMN8 := Aside0.mk ((hb.block _ (blk_lt HMN.out)).trans HMN.out)
  have R18 := Aside0.mk (Kd.C_below R17.out hb)
  have R28 := Aside0.mk (Kd.C_below R27.out hb)
  have Q18 := Aside0.mk (Kd.C_below Q17.out hb)
  have Q28 := Aside0.mk (Kd.C_below Q27.out hb)
  have HB8 := Aside0.mk (HB7.out.trans (hb.mono HB7.out.size))
  clear hb HMQ7 HMN R17 R27 Q17 Q27 HB7
  have e0 : w8.cell? ⟨g + 1 + 1, 0, none⟩ = some (.int .i64 3) := (blk_cell HMQ8.out 0).trans rfl
  have e1 : w8.cell? ⟨g + 1 + 1, 1, none⟩ = some (.int .i64 1) := (blk_cell HMQ8.out 1).trans rfl
  have e2 : w8.cell? ⟨g + 1 + 1, 2, none⟩ = some (.int .i64 2) := (blk_cell HMQ8.out 2).trans rfl
  have e3 : w8.cell? ⟨g + 1 + 1, 3, none⟩ = some (.int .i64 300) := (blk_cell HMQ8.out 3).trans rfl
  have e4 : w8.cell? ⟨g + 1 + 1, 4, none⟩ = some (.int .i64 0) := (blk_cell HMQ8.out 4).trans rfl
  have e5 : w8.cell? ⟨g + 1 + 1, 5, none⟩ = some (.int .i64 0) := (blk_cell HMQ8.out 5).trans rfl
  have e6 : w8.cell? ⟨g + 1 + 1, 6, none⟩ = some (.int .i64 0) := (blk_cell HMQ8.out 6).trans rfl
  have e7 : w8.cell? ⟨g + 1 + 1, 7, none⟩ = some (.int .i64 0) := (blk_cell HMQ8.out 7).trans rfl
  have e8 : w8.cell? ⟨g + 1 + 1, 8, none⟩ = some (.int .i64 0) := (blk_cell HMQ8.out 8).trans rfl
  have e9 : w8.cell? ⟨g + 1 + 1, 9, none⟩ = some (.int .i64 0) := (blk_cell HMQ8.out 9).trans rfl
  have e10 : w8.cell? ⟨g + 1 + 1, 10, none⟩ = some (.int .i64 0) := (blk_cell HMQ8.out 10).trans rfl
  have e11 : w8.cell? ⟨g + 1 + 1, 11, none⟩ = some (.slice (some ⟨g, 0, none⟩) 1 1) := (blk_cell HMQ8.out 11).trans rfl
  have e12 : w8.cell? ⟨g + 1 + 1, 12, none⟩ = some (.slice (some ⟨g + 1, 0, none⟩) 1 1) := (blk_cell HMQ8.out 12).trans rfl
  have h0 : w8.cell? ⟨h, 0, none⟩ = some (.int .i64 3) := (blk_cell HMN8.out 0).trans rfl
  have h1 : w8.cell? ⟨h, 1, none⟩ = some (.int .i64 1) := (blk_cell HMN8.out 1).trans rfl
  have h2 : w8.cell? ⟨h, 2, none⟩ = some (.int .i64 2) := (blk_cell HMN8.out 2).trans rfl
  have h3 : w8.cell? ⟨h, 3, none⟩ = some (.int .i64 300) := (blk_cell HMN8.out 3).trans rfl
  have h4 : w8.cell? ⟨h, 4, none⟩ = some (.int .i64 0) := (blk_cell HMN8.out 4).trans rfl
  have h5 : w8.cell? ⟨h, 5, none⟩ = some (.int .i64 0) := (blk_cell HMN8.out 5).trans rfl
  have h6 : w8.cell? ⟨h, 6, none⟩ = some (.int .i64 0) := (blk_cell HMN8.out 6).trans rfl
  have h7 : w8.cell? ⟨h, 7, none⟩ = some (.int .i64 0) := (blk_cell HMN8.out 7).trans rfl
  have h8 : w8.cell? ⟨h, 8, none⟩ = some (.int .i64 0) := (blk_cell HMN8.out 8).trans rfl
  have h9 : w8.cell? ⟨h, 9, none⟩ = some (.int .i64 0) := (blk_cell HMN8.out 9).trans rfl
  have h10 : w8.cell? ⟨h, 10, none⟩ = some (.int .i64 0) := (blk_cell HMN8.out 10).trans rfl
  have h11 : w8.cell? ⟨h, 11, none⟩ = some (.slice T1 1 d1) := (blk_cell HMN8.out 11).trans rfl
  have h12 : w8.cell? ⟨h, 12, none⟩ = some (.slice T2 1 d2) := (blk_cell HMN8.out 12).trans rfl
  go_wp2_with fail
  refine (same_any 3 1 2 300 0 0 0 0 0 0 0 (some ⟨g, 0, none⟩) 1 [x] (some ⟨g + 1, 0, none⟩) 1 [r] 3 1 2 300 0 0 0 0 0 0 0 T1 d1 [x] T2 d2 [r] _ R18.out R28.out Q18.out Q28.out (by simp) Q2.out.2 (by simp) (by simp)).mono ?_
  rintro e w9 ⟨rfl, hb⟩
  have HB9 := Aside0.mk (HB8.out.trans (hb.mono HB8.out.size))
  clear hb
  rw [show sameMsg [3, 1, 2, 300, 0, 0, 0, 0, 0, 0, 0] [3, 1, 2, 300, 0, 0, 0, 0, 0, 0, 0] [x] [x] [r] [r] = true from (sameMsg_iff _ _ _ _ _ _).2 ⟨rfl, rfl, rfl⟩]
  go_wp2_with fail
  go_ret
  exact ⟨rfl, HB9.out⟩
end Go.Proofs.Ytojnhklgfdfkcaa.WK
namespace Go.Proofs.Ytojnhklgfdfkcaa.Fn
open Go.RowKit Go.Proofs.YtojnhklgfdfkcaaW.PrintWords Go.Proofs.YtojnhklgfdfkcaaW.PrintLast Go.Proofs.YtojnhklgfdfkcaaW.PrintMore
attribute [local go_sem] max2_int min2_int max_two min_two max_three min_three max_four min_four   -- for this text's walks alone
set_option linter.unusedVariables false
set_option linter.unusedSimpArgs false

/-! ### hand: function 13 -/
def postroadlaw14_awake.f : Option (Bool) := some true
theorem postroadlaw14_awake.calls (r : Bool) (w : World) (h : postroadlaw14_awake.f = some r) :
    Calls Try.prog 13 #[] w fun e w' => e = .returned (.bool r) ∧ Below w.heap.size w w' := by
  injection h with h
  subst h
  exact WK.awake_any w

end Go.Proofs.Ytojnhklgfdfkcaa.Fn
