/- A message's bytes: read as it; cut, or with more behind, none. -/
import Derived.Test.YtojnhklgfdfkcaaGE
import Derived.Test.YtojnhklgfdfkcaaGF
namespace Go.Proofs.Ytojnhklgfdfkcaa.WK
open Go.RowKit Go.Proofs.YtojnhklgfdfkcaaW.PrintWords Go.Proofs.YtojnhklgfdfkcaaW.PrintLast Go.Proofs.YtojnhklgfdfkcaaW.PrintMore Go.Proofs.Ytojnhklgfdfkcaa.MB Go.Proofs.Ytojnhklgfdfkcaa.HW Go.Proofs.Ytojnhklgfdfkcaa.Fn Go.Proofs.Ytojnhklgfdfkcaa.PV Go.Proofs.Ytojnhklgfdfkcaa.RB Go.Proofs.Ytojnhklgfdfkcaa.RO Go.Proofs.Ytojnhklgfdfkcaa.PZ
theorem ba_assoc (a b c : ByteArray) : a ++ b ++ c = a ++ (b ++ c) := ByteArray.append_assoc
def numsT : List Int → ByteArray
  | [] => ⟨#[]⟩
  | n :: t => vs n.toNat ++ numsT t
def logT : List ByteArray → ByteArray
  | [] => ⟨#[]⟩
  | t :: r => vs t.size ++ (t ++ logT r)
theorem numsT_snoc (l : List Int) (n : Int) : numsT (l ++ [n]) = numsT l ++ vs n.toNat := by
  induction l with
  | nil => rw [List.nil_append, numsT, numsT, numsT, ba_nil, nil_ba]
  | cons a t ih => rw [List.cons_append, numsT, numsT, ih, ba_assoc]
theorem numsB_T (ns : List Int) : ∀ k, k ≤ ns.length → numsB ns k = numsT (ns.take k)
  | 0, _ => by rw [numsB, List.take_zero, numsT]
  | k + 1, h => by
    rw [numsB, numsB_T ns k (by omega), List.take_succ_eq_append_getElem (by omega), numsT_snoc, List.getD_eq_getElem?_getD, List.getElem?_eq_getElem (by omega)]
    rfl
theorem logB_T : ∀ (l : List ByteArray) (acc a : ByteArray), logB l acc = some a → a = acc ++ logT l
  | [], acc, a, h => by
    rw [logB] at h
    injection h with h
    rw [logT, ba_nil, h]
  | t :: r, acc, a, h => by
    rw [logB] at h
    by_cases hc : 1048576 < (acc ++ vs t.size ++ t).size
    · rw [if_pos hc] at h; simp at h
    · rw [if_neg hc] at h
      rw [logB_T r _ a h, logT, ba_assoc, ba_assoc]
theorem okBody_rise : ∀ (l : List S63) (i : Nat), okBody i l = true → rise (i : Int) l = true
  | [], _, _ => rfl
  | r :: t, i, h => by
    rw [okBody, Bool.and_eq_true, Bool.and_eq_true, decide_eq_true_iff] at h
    obtain ⟨⟨h1, h2⟩, h3⟩ := h
    rw [rise_cons]
    refine ⟨h2, by omega, ?_⟩
    rw [h1]
    exact okBody_rise t (i + 1) h3
/-- A message's bytes, from its parts. -/
def encM (ns : List Int) (log : List ByteArray) (body : List S63) : ByteArray := numsT ns ++ (vs log.length ++ (logT log ++ (vs body.length ++ recsB 0 body)))
theorem okMsg_parts {ns : List Int} {log : List ByteArray} {body : List S63} (h : okMsg ns log body = true) : (∀ i, i < 11 → 0 ≤ ns.getD i 0 ∧ ns.getD i 0 ≤ mostOf i) ∧ ns.getD 0 0 ≠ 0 ∧ log.length ≤ 4096 ∧ body.length ≤ 256 ∧ (∀ t ∈ log, t.size ≤ 262154) ∧ rise 0 body = true := by
  unfold okMsg at h
  simp only [Bool.and_eq_true, decide_eq_true_iff] at h
  obtain ⟨h1, h2, h3, h4, h5, h6⟩ := h
  refine ⟨(okNums_iff ns).1 h1, h2, h3, h4, fun t ht => ?_, okBody_rise body 0 h6⟩
  have := List.all_eq_true.1 h5 t ht
  simpa using this
theorem rgo_rec {body : List S63} (h : rise 0 body = true) : (rgo 0 body 0 ⟨#[]⟩).1 = recsB 0 body := by rw [rgo_eq, if_pos h, nil_ba]
theorem wireB_ok {ns : List Int} {log : List ByteArray} {body : List S63} {s : ByteArray} (hn : ns.length = 11) (h : wireB ns log body = (s, 0)) : okMsg ns log body = true ∧ s = encM ns log body ∧ s.size ≤ 1048576 := by
  unfold wireB at h
  by_cases hok : okMsg ns log body = true
  · rw [if_pos hok] at h
    have hp := okMsg_parts hok
    cases hl : logB log (numsB ns 11 ++ vs log.length) with
    | none => rw [hl] at h; simp at h
    | some a =>
      rw [hl, rgo_rec hp.2.2.2.2.2] at h
      simp only at h
      by_cases hc : 1048576 < (a ++ vs body.length ++ recsB 0 body).size
      · rw [if_pos hc] at h; simp at h
      · rw [if_neg hc] at h
        simp only [Prod.mk.injEq, and_true] at h
        refine ⟨hok, ?_, by rw [← h]; omega⟩
        rw [← h, logB_T _ _ _ hl, numsB_T ns 11 (by omega), List.take_of_length_le (by omega)]
        unfold encM
        simp only [ba_assoc]
  · rw [if_neg hok] at h; simp at h
theorem mostOf_le (i : Nat) (hi : i < 11) : mostOf i ≤ 1099511627776 := by
  match i, hi with
  | 0, _ | 1, _ | 2, _ | 3, _ | 4, _ | 5, _ | 6, _ | 7, _ | 8, _ | 9, _ | 10, _ => decide
theorem rnums_at (ns : List Int) (X : ByteArray) (hn : ns.length = 11) (hb : ∀ i, i < 11 → 0 ≤ ns.getD i 0 ∧ ns.getD i 0 ≤ mostOf i) : ∀ i, i ≤ 11 → rnums i (numsT ns ++ X) = (ns.take i, numsT (ns.drop i) ++ X, true)
  | 0, _ => by rw [rnums, List.take_zero, List.drop_zero]
  | i + 1, hi => by
    have hbi := hb i (by omega)
    have hml := mostOf_le i (by omega)
    have hg : ns.getD i 0 = ns[i] := by rw [List.getD_eq_getElem?_getD, List.getElem?_eq_getElem (by omega)]; rfl
    rw [rnums, rnums_at ns X hn hb i (by omega)]
    simp only
    rw [List.drop_eq_getElem_cons (by omega), numsT, ba_assoc, ← hg]
    obtain ⟨m, hm⟩ : ∃ m : Nat, ns.getD i 0 = m := ⟨(ns.getD i 0).toNat, by omega⟩
    rw [hm, Int.toNat_natCast, nm_at m (by omega) _ true (mostOf i) (by omega), List.take_succ_eq_append_getElem (by omega), ← hg, hm]
theorem rlog_at (X : ByteArray) : ∀ (log acc : List ByteArray), (∀ t ∈ log, t.size ≤ 262154) → rlog log.length (logT log ++ X) true acc = some (acc ++ log, X, true)
  | [], acc, _ => by rw [List.length_nil, rlog, logT, nil_ba, List.append_nil]
  | t :: r, acc, h => by
    have ht := h t (List.mem_cons_self)
    rw [List.length_cons, rlog, logT, ba_assoc, nm_at t.size (by omega) _ true 262154 (by omega)]
    simp only
    rw [if_pos ⟨by first | rfl | trivial, by rw [ByteArray.size_append, ByteArray.size_append]; omega⟩, Int.toNat_natCast, ba_assoc, extract_mid, extract_head, rlog_at X r _ (fun u hu => h u (List.mem_cons_of_mem _ hu)), List.append_assoc]
    rfl
/-- The parse of a message's bytes with something behind. -/
theorem wire_run {ns : List Int} {log : List ByteArray} {body : List S63} (hn : ns.length = 11) (hok : okMsg ns log body = true) (x : ByteArray) :
    rnums 11 (encM ns log body ++ x) = (ns, vs log.length ++ (logT log ++ (vs body.length ++ (recsB 0 body ++ x))), true) ∧
    nm (vs log.length ++ (logT log ++ (vs body.length ++ (recsB 0 body ++ x)))) true 4096 = ((log.length : Int), logT log ++ (vs body.length ++ (recsB 0 body ++ x)), true) ∧
    rlog log.length (logT log ++ (vs body.length ++ (recsB 0 body ++ x))) true [] = some (log, vs body.length ++ (recsB 0 body ++ x), true) ∧
    nm (vs body.length ++ (recsB 0 body ++ x)) true 256 = ((body.length : Int), recsB 0 body ++ x, true) := by
  obtain ⟨h1, h2, h3, h4, h5, h6⟩ := okMsg_parts hok
  refine ⟨?_, nm_at _ (by omega) _ _ _ (by omega), ?_, nm_at _ (by omega) _ _ _ (by omega)⟩
  · have := rnums_at ns (vs log.length ++ (logT log ++ (vs body.length ++ (recsB 0 body ++ x)))) hn h1 11 (Nat.le_refl _)
    rw [List.take_of_length_le (by omega), List.drop_eq_nil_of_le (by omega), numsT, nil_ba] at this
    unfold encM
    simp only [ba_assoc]
    exact this
  · have := rlog_at (vs body.length ++ (recsB 0 body ++ x)) log [] h5
    rw [List.nil_append] at this
    exact this
theorem wire_at {ns : List Int} {log : List ByteArray} {body : List S63} {s : ByteArray} (hn : ns.length = 11) (h : wireB ns log body = (s, 0)) : wireOf s = (ns, log, body, 0) := by
  obtain ⟨hok, hs, hsz⟩ := wireB_ok hn h
  obtain ⟨e1, e2, e3, e4⟩ := wire_run hn hok ⟨#[]⟩
  have hp := okMsg_parts hok
  have hb : (recsB 0 body).size ≤ s.size := by rw [hs]; unfold encM; simp only [ByteArray.size_append]; omega
  have e5 := recOf_at 0 body ⟨#[]⟩ (by decide) hp.2.2.2.2.2 (by show _ + 0 ≤ _; omega)
  rw [if_pos (show (⟨#[]⟩ : ByteArray).size = 0 from rfl)] at e5
  rw [ba_nil, ← hs] at e1
  rw [wireOf_some hsz e1 e2 e3 e4 e5, if_pos ⟨rfl, rfl, hok⟩]
theorem wire_more {ns : List Int} {log : List ByteArray} {body : List S63} {s x : ByteArray} (hn : ns.length = 11) (h : wireB ns log body = (s, 0)) (hx : x.size ≠ 0) (hsx : s.size + x.size ≤ 1048576) : wireOf (s ++ x) = (List.replicate 11 0, [], [], 140) := by
  obtain ⟨hok, hs, hsz⟩ := wireB_ok hn h
  obtain ⟨e1, e2, e3, e4⟩ := wire_run hn hok x
  have hp := okMsg_parts hok
  have hb : (recsB 0 body).size ≤ s.size := by rw [hs]; unfold encM; simp only [ByteArray.size_append]; omega
  have e5 := recOf_at 0 body x (by decide) hp.2.2.2.2.2 (by omega)
  rw [if_neg hx] at e5
  rw [← hs] at e1
  rw [wireOf_some (by rw [ByteArray.size_append]; omega) e1 e2 e3 e4 e5, if_neg (fun h => absurd h.2.1 (by decide))]
theorem rnums_more (R : ByteArray) : ∀ i P ns s1, rnums i P = (ns, s1, true) → rnums i (P ++ R) = (ns, s1 ++ R, true)
  | 0, P, ns, s1, h => by
    rw [rnums] at h ⊢
    simp only [Prod.mk.injEq, and_true] at h
    obtain ⟨rfl, rfl⟩ := h
    rfl
  | i + 1, P, ns, s1, h => by
    rw [rnums] at h
    obtain ⟨⟨n0, s0, o0⟩, h0⟩ : ∃ v, rnums i P = v := ⟨_, rfl⟩
    rw [h0] at h
    simp only at h
    obtain ⟨⟨x, t, o⟩, hn⟩ : ∃ v, nm s0 o0 (mostOf i) = v := ⟨_, rfl⟩
    rw [hn] at h
    simp only [Prod.mk.injEq] at h
    obtain ⟨rfl, rfl, rfl⟩ := h
    obtain ⟨rfl, h2⟩ := nm_more (t := R) hn
    rw [rnums, rnums_more R i P n0 s0 h0]
    simp only
    rw [h2]
theorem rlog_more (R : ByteArray) : ∀ m s acc log s' o', rlog m s true acc = some (log, s', o') → rlog m (s ++ R) true acc = some (log, s' ++ R, o')
  | 0, s, acc, log, s', o', h => by
    rw [rlog] at h ⊢
    simp only [Option.some.injEq, Prod.mk.injEq] at h ⊢
    obtain ⟨rfl, rfl, rfl⟩ := h
    exact ⟨rfl, rfl, rfl⟩
  | m + 1, s, acc, log, s', o', h => by
    rw [rlog] at h
    obtain ⟨⟨x, t, o⟩, hn⟩ : ∃ v, nm s true 262154 = v := ⟨_, rfl⟩
    have hb := nm_bd s true 262154 (by decide)
    rw [hn] at h hb
    simp only at h hb
    by_cases hc : o = true ∧ x ≤ (t.size : Int)
    · rw [if_pos hc] at h
      obtain ⟨rfl, hc⟩ := hc
      have ih := rlog_more R m _ _ log s' o' h
      obtain ⟨_, h2⟩ := nm_more (t := R) hn
      rw [rlog, h2]
      simp only
      rw [if_pos ⟨by first | rfl | trivial, by rw [ByteArray.size_append]; omega⟩, extract_app t R x.toNat (by omega), extract_app0 t R x.toNat (by omega)]
      exact ih
    · rw [if_neg hc] at h; simp at h
theorem rlog_true : ∀ m s ok acc log s', rlog m s ok acc = some (log, s', true) → ok = true
  | 0, s, ok, acc, log, s', h => by
    rw [rlog] at h
    simp only [Option.some.injEq, Prod.mk.injEq] at h
    exact h.2.2
  | m + 1, s, ok, acc, log, s', h => by
    rw [rlog] at h
    by_cases hc : (nm s ok 262154).2.2 = true ∧ (nm s ok 262154).1 ≤ (nm s ok 262154).2.1.size
    · exact ((nm_bd s ok 262154 (by decide)).2.2.2 hc.1).2
    · rw [if_neg hc] at h; simp at h
/-- Bytes that are a message: how they are read. -/
theorem wire_parts {P : ByteArray} (hs : P.size ≤ 1048576) : wireOf P = (List.replicate 11 0, [], [], 140) ∨ ∃ ns s1 m s2 log s3 n s4 body, rnums 11 P = (ns, s1, true) ∧ nm s1 true 4096 = (((m : Nat) : Int), s2, true) ∧ rlog m s2 true [] = some (log, s3, true) ∧ nm s3 true 256 = (n, s4, true) ∧ recOf s4 0 n = some (body, 0) := by
  obtain ⟨⟨ns, s1, o1⟩, e1⟩ : ∃ v, rnums 11 P = v := ⟨_, rfl⟩
  obtain ⟨⟨c, s2, o2⟩, e2⟩ : ∃ v, nm s1 o1 4096 = v := ⟨_, rfl⟩
  have hcb := nm_bd s1 o1 4096 (by decide)
  rw [e2] at hcb
  simp only at hcb
  obtain ⟨m, rfl⟩ : ∃ m : Nat, c = m := ⟨c.toNat, by omega⟩
  cases e3 : rlog m s2 o2 [] with
  | none => exact Or.inl (wireOf_none hs e1 e2 e3)
  | some v =>
    obtain ⟨log, s3, o3⟩ := v
    obtain ⟨⟨n, s4, o4⟩, e4⟩ : ∃ v, nm s3 o3 256 = v := ⟨_, rfl⟩
    cases e5 : recOf s4 0 n with
    | none =>
      refine Or.inl ?_
      unfold wireOf
      rw [if_neg (by omega), e1]
      simp only
      rw [e2]
      simp only [Int.toNat_natCast]
      rw [e3]
      simp only
      rw [e4]
      simp only
      rw [e5]
    | some v =>
      obtain ⟨body, e⟩ := v
      rw [wireOf_some hs e1 e2 e3 e4 e5]
      by_cases hc : o4 = true ∧ e = 0 ∧ okMsg ns log body = true
      · obtain ⟨rfl, rfl, h9⟩ := hc
        have h3 := nm_bd s3 o3 256 (by decide)
        rw [e4] at h3
        obtain rfl : o3 = true := (h3.2.2.2 rfl).2
        obtain rfl : o2 = true := rlog_true _ _ _ _ _ _ e3
        have h1 := nm_bd s1 o1 4096 (by decide)
        rw [e2] at h1
        obtain rfl : o1 = true := (h1.2.2.2 rfl).2
        exact Or.inr ⟨ns, s1, m, s2, log, s3, n, s4, body, e1, e2, e3, e4, e5⟩
      · rw [if_neg hc]; exact Or.inl rfl
theorem app_cut {a b c : ByteArray} (h : a ++ b = c) : a = c.extract 0 a.size ∧ a.size + b.size = c.size := by
  subst h
  exact ⟨(extract_head a b).symm, (ByteArray.size_append).symm⟩
theorem wire_cut {ns : List Int} {log : List ByteArray} {body : List S63} {s : ByteArray} (hn : ns.length = 11) (h : wireB ns log body = (s, 0)) (k : Nat) (hk : k < s.size) : wireOf (s.extract 0 k) = (List.replicate 11 0, [], [], 140) := by
  obtain ⟨hok, hs, hsz⟩ := wireB_ok hn h
  obtain ⟨e1, e2, e3, e4⟩ := wire_run hn hok ⟨#[]⟩
  have hp := okMsg_parts hok
  have hb : (recsB 0 body).size ≤ s.size := by rw [hs]; unfold encM; simp only [ByteArray.size_append]; omega
  obtain ⟨P, hP⟩ : ∃ P, s.extract 0 k = P := ⟨_, rfl⟩
  obtain ⟨R, hR⟩ : ∃ R, s.extract k s.size = R := ⟨_, rfl⟩
  have z1 : P.size = k := by rw [← hP, extract_size s 0 k (by omega)]; omega
  have z2 : R.size = s.size - k := by rw [← hR, extract_size s k s.size (Nat.le_refl _)]
  have hPR : P ++ R = s := by
    rw [← hP, ← hR]
    apply ba_ext
    rw [app_list, data_list, data_list, List.drop_zero, Nat.sub_zero, List.take_of_length_le (l := List.drop _ _) (by rw [List.length_drop, len_list]; omega), List.take_append_drop]
  rw [hP]
  rcases wire_parts (P := P) (by omega) with hw | ⟨ns', s1, m, s2, log', s3, n, s4, body', f1, f2, f3, f4, f5⟩
  · exact hw
  · exfalso
    have g1 := rnums_more R 11 P ns' s1 f1
    rw [hPR, hs] at g1
    rw [ba_nil] at e1
    rw [e1] at g1
    simp only [Prod.mk.injEq, and_true] at g1
    obtain ⟨rfl, g1⟩ := g1
    obtain ⟨_, g2⟩ := nm_more (t := R) f2
    rw [← g1, e2] at g2
    simp only [Prod.mk.injEq, and_true] at g2
    obtain ⟨g2m, g2⟩ := g2
    obtain rfl : log.length = m := by omega
    have g3 := rlog_more R _ _ _ _ _ _ f3
    rw [← g2, e3] at g3
    simp only [Option.some.injEq, Prod.mk.injEq, and_true] at g3
    obtain ⟨rfl, g3⟩ := g3
    obtain ⟨_, g4⟩ := nm_more (t := R) f4
    rw [← g3, e4] at g4
    simp only [Prod.mk.injEq, and_true] at g4
    obtain ⟨rfl, g4⟩ := g4
    rw [ba_nil] at g4
    obtain ⟨q1, q2⟩ := app_cut g4.symm
    have := recOf_cut 0 body s4.size (by decide) hp.2.2.2.2.2 (by omega) (by omega)
    rw [← q1, f5] at this
    simp at this
/-- Messages of like bytes are the same. -/
theorem wire_inj {ns ms : List Int} {la lb : List ByteArray} {ba bb : List S63} {s : ByteArray} (hn : ns.length = 11) (hm : ms.length = 11) (h1 : wireB ns la ba = (s, 0)) (h2 : wireB ms lb bb = (s, 0)) : ns = ms ∧ la = lb ∧ ba = bb := by
  have e1 := wire_at hn h1
  rw [wire_at hm h2] at e1
  simp only [Prod.mk.injEq, and_true] at e1
  exact ⟨e1.1.symm, e1.2.1.symm, e1.2.2.symm⟩
theorem wireB_pos {ns : List Int} {log : List ByteArray} {body : List S63} {s : ByteArray} (hn : ns.length = 11) (h : wireB ns log body = (s, 0)) : 0 < s.size := by
  obtain ⟨_, hs, _⟩ := wireB_ok hn h
  have hpos : 0 < (vs log.length).size := by
    have := pv_pos log.length
    unfold vs
    rw [size_strOfNums]
    exact this
  rw [hs]
  unfold encM
  simp only [ByteArray.size_append]
  omega
end Go.Proofs.Ytojnhklgfdfkcaa.WK
