/- The words, wholeness and cost as the document says (HuffCodes): plain. -/
import Derived.Test.YtmmoenleldcadaaFnx4
import Derived.Test.YtmmoenleldcadaaGH
namespace Go.Proofs.Ytmmoenleldcadaa.Pure
open Go.RowKit Go.Proofs.Ytmmoenleldcadaa.Fn Go.Proofs.Ytmmoenleldcadaa.HF Go.Proofs.Ytmmoenleldcadaa.HP Go.Proofs.Ytmmoenleldcadaa.MB Go.Proofs.YtmmoenleldcadaaW.PrintWords Go.Proofs.YtmmoenleldcadaaW.PrintLast Go.Proofs.YtmmoenleldcadaaW.PrintMore
theorem at_ {α : Type} {f : Nat → Option α} (hm : ∀ k, LeO (f k) (f (k + 1))) {K k : Nat} {r : α} (h : f K = some r) (hk : K ≤ k) : f k = some r := by
  obtain ⟨d, rfl⟩ := Nat.exists_eq_add_of_le hk
  exact up hm h d
theorem same_loop (a : List Int) (ha : a.length ≤ 1000000) : ∀ (d i : Nat), i + d = a.length → ∃ k, postroadlaw03_same.l0 k a a (i : Int) = some true := by
  intro d
  induction d with
  | zero =>
    intro i hi
    exact ⟨1, by rw [postroadlaw03_same.l0, if_neg (by omega)]⟩
  | succ d ih =>
    intro i hi
    obtain ⟨k, hk⟩ := ih (i + 1) (by omega)
    have w1 : wrap64 ((i : Int) + 1) = ((i + 1 : Nat) : Int) := by unfold wrap64; omega
    exact ⟨k + 1, by rw [postroadlaw03_same.l0, if_pos (by omega), if_pos (by omega), if_pos (by omega), if_pos rfl, w1, hk]⟩
theorem same_ok (a : List Int) (ha : a.length ≤ 1000000) : ∃ k, postroadlaw03_same.f k a a = some true := by
  obtain ⟨k, hk⟩ := same_loop a ha a.length 0 (by omega)
  exact ⟨k, by unfold postroadlaw03_same.f; rw [if_pos rfl]; exact hk⟩
/-- The words so far: all of lengths below L, and of length L those ahead of i. -/
def outP (l : List Int) (L i : Nat) : List Int := (List.range l.length).map fun j => if 0 < l.getD j 0 ∧ (l.getD j 0 < (L : Int) ∨ (l.getD j 0 = (L : Int) ∧ j < i)) then codeAt l j else 0
theorem outP_len (l : List Int) (L i : Nat) : (outP l L i).length = l.length := by unfold outP; rw [List.length_map, List.length_range]
theorem getD_at (l : List Int) (j : Nat) (h : j < l.length) : l.getD j 0 = l[j] := by rw [List.getD_eq_getElem?_getD, List.getElem?_eq_getElem h]; rfl
theorem outP_next (l : List Int) (L : Nat) : outP l L l.length = outP l (L + 1) 0 := by
  unfold outP
  refine List.map_congr_left fun j hj => ?_
  have := List.mem_range.1 hj
  by_cases c : 0 < l.getD j 0 ∧ (l.getD j 0 < (L : Int) ∨ (l.getD j 0 = (L : Int) ∧ j < l.length))
  · rw [if_pos c, if_pos (by omega)]
  · rw [if_neg c, if_neg (by omega)]
theorem outP_set (l : List Int) (L i : Nat) (hi : i < l.length) (h0 : 0 < L) (hL : l[i] = (L : Int)) : (outP l L i).set i (codeAt l i) = outP l L (i + 1) := by
  refine List.ext_getElem (by rw [List.length_set, outP_len, outP_len]) fun j h1 h2 => ?_
  have hjl : j < l.length := by rw [outP_len] at h2; exact h2
  have g : ∀ (a b : Nat) (h : j < (outP l a b).length), (outP l a b)[j] = if 0 < l.getD j 0 ∧ (l.getD j 0 < (a : Int) ∨ (l.getD j 0 = (a : Int) ∧ j < b)) then codeAt l j else 0 := fun a b h => by
    simp only [outP, List.getElem_map, List.getElem_range]
  rw [List.getElem_set, g L (i + 1), g L i]
  by_cases e : i = j
  · subst e
    rw [if_pos rfl, getD_at l i hi, if_pos (by omega)]
  · rw [if_neg e]
    by_cases c : 0 < l.getD j 0 ∧ (l.getD j 0 < (L : Int) ∨ (l.getD j 0 = (L : Int) ∧ j < i))
    · rw [if_pos c, if_pos (by omega)]
    · rw [if_neg c, if_neg (by omega)]
theorem outP_same (l : List Int) (L i : Nat) (hi : i < l.length) (hL : l[i] ≠ (L : Int)) : outP l L i = outP l L (i + 1) := by
  unfold outP
  refine List.map_congr_left fun j hj => ?_
  have hjl := List.mem_range.1 hj
  by_cases e : i = j
  · subst e
    rw [getD_at l i hi]
    by_cases c : 0 < l[i] ∧ (l[i] < (L : Int) ∨ (l[i] = (L : Int) ∧ i < i))
    · rw [if_pos c, if_pos (by omega)]
    · rw [if_neg c, if_neg (by omega)]
  · by_cases c : 0 < l.getD j 0 ∧ (l.getD j 0 < (L : Int) ∨ (l.getD j 0 = (L : Int) ∧ j < i))
    · rw [if_pos c, if_pos (by omega)]
    · rw [if_neg c, if_neg (by omega)]
theorem outP_start (l : List Int) : outP l 1 0 = List.replicate l.length 0 := by
  unfold outP
  refine List.ext_getElem (by simp) fun j h1 h2 => ?_
  rw [List.getElem_map, List.getElem_range, List.getElem_replicate, if_neg (by omega)]
theorem outP_end (l : List Int) (h : ∀ x ∈ l, 0 ≤ x ∧ x ≤ 15) : outP l 16 0 = codesL l := by
  unfold outP codesL
  refine List.map_congr_left fun j hj => ?_
  have hjl := List.mem_range.1 hj
  have := h l[j] (List.getElem_mem _)
  rw [getD_at l j hjl]
  by_cases c : 0 < l[j]
  · rw [if_pos (by omega)]
  · rw [if_neg (by omega), codeAt_zero l j hjl (by omega)]
theorem refcodes_in (l : List Int) (ho : okL l = true) (L : Nat) (h0 : 1 ≤ L) (h15 : L ≤ 15)
    (hn : ∃ k, postroadref03_Codes.l0 k l (outP l (L + 1) 0) (nxt (fun k => cntL l k) L + cntL l (L : Int)) ((L + 1 : Nat) : Int) = some (codesL l, 0)) :
    ∀ (d i : Nat), i + d = l.length → ∃ k, postroadref03_Codes.l1 k l (outP l L i) (nxt (fun k => cntL l k) L + cntL (l.take i) (L : Int)) (L : Int) (i : Int) = some (codesL l, 0) := by
  obtain ⟨o1, o2, o3⟩ := okL_open ho
  have nb := nxt_bd (f := fun k => cntL l k) (fun k => ⟨(cntL_nn l k).1, by have := (cntL_nn l k).2; omega⟩) L
  have hp : (2 : Int) ^ L ≤ 32768 := by
    have := pow15 L h15
    have h2 : ((2 ^ L : Nat) : Int) ≤ 32768 := Int.ofNat_le.2 this
    rwa [Int.natCast_pow] at h2
  intro d
  induction d with
  | zero =>
    intro i hi
    obtain ⟨k, hk⟩ := hn
    refine ⟨k + 1, ?_⟩
    have w1 : wrap64 ((L : Int) + 1) = ((L + 1 : Nat) : Int) := by unfold wrap64; omega
    rw [postroadref03_Codes.l1, if_neg (by omega), w1, show i = l.length by omega, List.take_length, outP_next, hk]
  | succ d ih =>
    intro i hi
    have hil : i < l.length := by omega
    obtain ⟨k, hk⟩ := ih (i + 1) (by omega)
    refine ⟨k + 1, ?_⟩
    have w1 : wrap64 ((i : Int) + 1) = ((i + 1 : Nat) : Int) := by unfold wrap64; omega
    have cn := cntL_nn (l.take i) (L : Int)
    have cl : ((l.take i).length : Int) ≤ 288 := by rw [List.length_take]; omega
    rw [postroadref03_Codes.l1, if_pos (by omega), if_pos (by omega), rd_get l i hil, w1]
    by_cases e : l[i] = (L : Int)
    · have w2 : wrap64 (nxt (fun k => cntL l k) L + cntL (l.take i) (L : Int) + 1) = nxt (fun k => cntL l k) L + cntL (l.take (i + 1)) (L : Int) := by
        have := cnt_next l i hil
        rw [e] at this
        rw [this, wrap64_id _ (by omega) (by omega)]
        omega
      rw [if_pos e, if_pos (by rw [outP_len]; omega), Int.toNat_natCast, ← codeAt_eq l i L hil e (by omega), outP_set l L i hil (by omega) e, codeAt_eq l i L hil e (by omega), w2, hk]
    · have c2 : cntL (l.take (i + 1)) (L : Int) = cntL (l.take i) (L : Int) := by
        rw [List.take_succ_eq_append_getElem hil, cntL_snoc, if_neg e, Int.add_zero]
      rw [if_neg e, outP_same l L i hil e, ← c2, hk]
theorem refcodes_out (l : List Int) (ho : okL l = true) : ∀ (e L : Nat) (y : Int), L + e = 16 → 1 ≤ L → 2 * y = nxt (fun k => cntL l k) L → ∃ k, postroadref03_Codes.l0 k l (outP l L 0) y (L : Int) = some (codesL l, 0) := by
  obtain ⟨o1, o2, o3⟩ := okL_open ho
  intro e
  induction e with
  | zero =>
    intro L y hL h1 hy
    refine ⟨1, ?_⟩
    rw [postroadref03_Codes.l0, if_neg (by omega), show L = 16 by omega, outP_end l o2]
  | succ e ih =>
    intro L y hL h1 hy
    have nb := nxt_bd (f := fun k => cntL l k) (fun k => ⟨(cntL_nn l k).1, by have := (cntL_nn l k).2; omega⟩) L
    have hp : (2 : Int) ^ L ≤ 32768 := by
      have := pow15 L (by omega)
      have h2 : ((2 ^ L : Nat) : Int) ≤ 32768 := Int.ofNat_le.2 this
      rwa [Int.natCast_pow] at h2
    obtain ⟨k, hk⟩ := refcodes_in l ho L h1 (by omega) (ih (L + 1) (nxt (fun k => cntL l k) L + cntL l (L : Int)) (by omega) (by omega) (by
      show _ = if L = 0 then (0 : Int) else 2 * (nxt (fun k => cntL l k) L + cntL l (L : Int))
      rw [if_neg (by omega)])) l.length 0 (by omega)
    refine ⟨k + 1, ?_⟩
    have w2 : wrap64 (2 * y) = nxt (fun k => cntL l k) L := by rw [hy]; exact wrap64_id _ (by omega) (by omega)
    have hk2 : postroadref03_Codes.l1 k l (outP l L 0) (nxt (fun k => cntL l k) L + cntL (l.take 0) (L : Int)) (L : Int) 0 = _ := hk
    rw [List.take_zero, cntL_nil, Int.add_zero] at hk2
    rw [postroadref03_Codes.l0, if_pos (by omega), w2, hk2]
theorem refcodes_ok (l : List Int) : ∃ k, postroadref03_Codes.f k l = some (if okL l then codesL l else [], if okL l then 0 else 30) := by
  cases h : okL l with
  | false =>
    obtain ⟨k, hk⟩ := may_ok l
    refine ⟨k, ?_⟩
    unfold postroadref03_Codes.f
    rw [hk, h]
    rfl
  | true =>
    obtain ⟨o1, o2, o3⟩ := okL_open h
    obtain ⟨k0, hk0⟩ := refcodes_out l h 15 1 0 (by omega) (Nat.le_refl _) (by rfl)
    obtain ⟨k, hk1, hk2⟩ := both (fun k => postroadref03_May.mono l k) (fun k => (postroadref03_Codes.mono_l k).1 l (outP l 1 0) 0 ((1 : Nat) : Int)) (may_ok l) ⟨k0, hk0⟩
    refine ⟨k, ?_⟩
    unfold postroadref03_Codes.f
    rw [hk1, h]
    simp only [Option.bind_some, if_true]
    rw [if_pos (by omega), if_pos (by rw [Int.toNat_natCast]; omega), Int.toNat_natCast, ← outP_start]
    exact hk2
theorem refcost_in (fs ls : List Int) (hl : fs.length = ls.length) (hn : ls.length ≤ 288) (hc : countedL fs = true) (hr : ∀ x ∈ ls, 0 ≤ x ∧ x ≤ 15) : ∀ (d i : Nat) (s : Int), i + d = fs.length → 0 ≤ s → s ≤ i * 16492674416640 →
    ∃ k, postroadref03_Cost.l1 k fs ls s (i : Int) = some (costG (fs.drop i) (ls.drop i) s) := by
  intro d
  induction d with
  | zero =>
    intro i s hi h0 h1
    refine ⟨1, ?_⟩
    rw [postroadref03_Cost.l1, if_neg (by omega), List.drop_eq_nil_of_le (by omega)]
    rfl
  | succ d ih =>
    intro i s hi h0 h1
    have h2 : i < fs.length := by omega
    have h3 : i < ls.length := by omega
    have w1 : wrap64 ((i : Int) + 1) = ((i + 1 : Nat) : Int) := by unfold wrap64; omega
    have hf : 0 ≤ fs[i] ∧ fs[i] ≤ 1099511627776 := of_decide_eq_true (List.all_eq_true.1 hc _ (List.getElem_mem _))
    have hg := hr ls[i] (List.getElem_mem _)
    have mb := mul_bd fs[i] ls[i] hf.1 hf.2 hg.1 hg.2
    have w2 : wrap64 (fs[i] * ls[i]) = fs[i] * ls[i] := wrap64_id _ (by omega) (by omega)
    have w3 : wrap64 (s + fs[i] * ls[i]) = s + fs[i] * ls[i] := wrap64_id _ (by omega) (by omega)
    obtain ⟨k, hk⟩ := ih (i + 1) (s + fs[i] * ls[i]) (by omega) (by omega) (by omega)
    refine ⟨k + 1, ?_⟩
    rw [postroadref03_Cost.l1, if_pos (by omega), if_pos (by omega), costG_drop fs ls i h2 h3 s, rd_get fs i h2, rd_get ls i h3, w2, w3, w1, hk]
    by_cases c1 : fs[i] > 0
    · rw [if_pos c1, if_pos (by omega)]
      by_cases c2 : ls[i] = 0
      · rw [if_pos c2, if_pos ⟨c1, c2⟩]
      · rw [if_neg c2, if_neg (fun h => c2 h.2)]
    · rw [if_neg c1, if_pos (by omega), if_neg (fun h => c1 h.1)]
theorem refcost_out (fs ls : List Int) (hl : fs.length = ls.length) (hb : fs.length ≤ 100000000000000000) : ∀ (d i : Nat), i + d = fs.length → (fs.take i).all freqOk = true → ∃ k, postroadref03_Cost.l0 k fs ls (i : Int) = some (costL fs ls) := by
  intro d
  induction d with
  | zero =>
    intro i hi hc
    rw [List.take_of_length_le (by omega)] at hc
    have hcc : countedL fs = true := hc
    cases h : okL ls with
    | false =>
      obtain ⟨k, hk⟩ := may_ok ls
      refine ⟨k + 1, ?_⟩
      rw [postroadref03_Cost.l0, if_neg (by omega), hk, h]
      unfold costL
      rw [if_pos hl, if_pos hcc, h]
      rfl
    | true =>
      obtain ⟨o1, o2, o3⟩ := okL_open h
      obtain ⟨k, hk1, hk2⟩ := both (fun k => postroadref03_May.mono ls k) (fun k => (postroadref03_Cost.mono_l k).2 fs ls 0 0) (may_ok ls) (by
        obtain ⟨k, hk⟩ := refcost_in fs ls hl o1 hcc o2 fs.length 0 0 (by omega) (Int.le_refl _) (by omega)
        exact ⟨k, hk⟩)
      refine ⟨k + 1, ?_⟩
      rw [postroadref03_Cost.l0, if_neg (by omega), hk1, h]
      unfold costL
      rw [if_pos hl, if_pos hcc, h, if_pos rfl]
      exact hk2
  | succ d ih =>
    intro i hi hc
    have h2 : i < fs.length := by omega
    have w1 : wrap64 ((i : Int) + 1) = ((i + 1 : Nat) : Int) := by unfold wrap64; omega
    have bad : freqOk fs[i] = false → costL fs ls = (0, 1) := fun hb => by
      have : countedL fs = false := by
        cases hh : countedL fs with
        | false => rfl
        | true =>
          have := List.all_eq_true.1 hh fs[i] (List.getElem_mem _)
          rw [hb] at this
          cases this
      unfold costL
      rw [if_pos hl, this]
      rfl
    by_cases c1 : fs[i] < 0
    · refine ⟨1, ?_⟩
      rw [postroadref03_Cost.l0, if_pos (by omega), if_pos (by omega), rd_get fs i h2, if_pos c1, bad (decide_eq_false (by omega))]
    · by_cases c2 : fs[i] > 1099511627776
      · refine ⟨1, ?_⟩
        rw [postroadref03_Cost.l0, if_pos (by omega), if_pos (by omega), rd_get fs i h2, if_neg c1, if_pos c2, bad (decide_eq_false (by omega))]
      · obtain ⟨k, hk⟩ := ih (i + 1) (by omega) (by
          rw [List.take_succ_eq_append_getElem h2, List.all_append, hc]
          have : freqOk fs[i] = true := decide_eq_true (by omega)
          simp [this])
        refine ⟨k + 1, ?_⟩
        rw [postroadref03_Cost.l0, if_pos (by omega), if_pos (by omega), rd_get fs i h2, if_neg c1, if_neg c2, w1, hk]
theorem refcost_ok (fs ls : List Int) (hb : fs.length ≤ 100000000000000000) : ∃ k, postroadref03_Cost.f k fs ls = some (costL fs ls) := by
  unfold postroadref03_Cost.f
  by_cases h : fs.length = ls.length
  · obtain ⟨k, hk⟩ := refcost_out fs ls h hb fs.length 0 (by omega) (by rw [List.take_zero]; rfl)
    exact ⟨k, by rw [if_pos (by omega)]; exact hk⟩
  · exact ⟨0, by rw [if_neg (by omega)]; unfold costL; rw [if_neg h]⟩
theorem codes_tail (l : List Int) : ∀ (d i : Nat) (x : List Int), i + d = x.length → x.length ≤ 1000000 → ∃ k, postroadlaw03_HuffCodes.l0 k l x (if okL l then codesL l else []) (i : Int) = some true := by
  intro d
  induction d with
  | zero =>
    intro i x hi hx
    have hs := same_ok (if okL l then codesL l else []) (by
      split
      · rename_i h
        rw [codesL_len]
        have := (okL_open h).1
        omega
      · exact Nat.zero_le _)
    obtain ⟨k, hk1, hk2⟩ := both (fun k => postroadlaw03_same.mono _ _ k) postroadlaw03_awake.mono hs awake_ok
    refine ⟨k + 1, ?_⟩
    rw [postroadlaw03_HuffCodes.l0, if_neg (by omega)]
    unfold huff_Codes.f
    simp only [Option.bind_some]
    rw [hk1]
    simp only [Option.bind_some, if_true, hk2]
  | succ d ih =>
    intro i x hi hx
    obtain ⟨k, hk⟩ := ih (i + 1) (x.set i (-7)) (by rw [List.length_set]; omega) (by rw [List.length_set]; exact hx)
    refine ⟨k + 1, ?_⟩
    have w1 : wrap64 ((i : Int) + 1) = ((i + 1 : Nat) : Int) := by unfold wrap64; omega
    rw [postroadlaw03_HuffCodes.l0, if_pos (by omega), if_pos (by omega), Int.toNat_natCast, w1, hk]
theorem HuffCodes : postroadlaw03_HuffCodes.Pure := by
  intro l fs _ _ _ _ hfs _
  have hj : ∀ x : List Int, x.length ≤ 1000000 → ∃ k, postroadlaw03_HuffCodes.j0 k l x (if okL l then codesL l else []) false = some true := fun x hx => by
    obtain ⟨k, hk⟩ := codes_tail l x.length 0 x (by omega) hx
    exact ⟨k + 1, by rw [postroadlaw03_HuffCodes.j0, if_neg (by decide)]; exact hk⟩
  have hlen : (if okL l then codesL l else []).length ≤ 1000000 := by
    split
    · rename_i h
      rw [codesL_len]
      have := (okL_open h).1
      omega
    · exact Nat.zero_le _
  obtain ⟨k1, h1⟩ := refcodes_ok l
  obtain ⟨k2, h2⟩ := refcost_ok fs l (by omega)
  obtain ⟨k3, h3⟩ := same_ok _ hlen
  obtain ⟨k4, h4⟩ := hj _ hlen
  obtain ⟨k5, h5⟩ : ∃ k, okL l = true → postroadref03_Full.f k l = some (wholeL l) := by
    cases h : okL l with
    | false => exact ⟨0, fun e => by cases e⟩
    | true =>
      obtain ⟨k, hk⟩ := full_ok l h
      exact ⟨k, fun _ => hk⟩
  have g1 := at_ (fun k => postroadref03_Codes.mono l k) h1 (k := k1 + k2 + k3 + k4 + k5) (by omega)
  have g2 := at_ (fun k => postroadref03_Cost.mono fs l k) h2 (k := k1 + k2 + k3 + k4 + k5) (by omega)
  have g3 := at_ (fun k => postroadlaw03_same.mono _ _ k) h3 (k := k1 + k2 + k3 + k4 + k5) (by omega)
  have g4 := at_ (fun k => (postroadlaw03_HuffCodes.mono_l k).1 l _ _ false) h4 (k := k1 + k2 + k3 + k4 + k5) (by omega)
  have g5 : okL l = true → postroadref03_Full.f (k1 + k2 + k3 + k4 + k5) l = some (wholeL l) := fun e => at_ (fun k => postroadref03_Full.mono l k) (h5 e) (by omega)
  refine ⟨k1 + k2 + k3 + k4 + k5, ?_⟩
  generalize k1 + k2 + k3 + k4 + k5 = k at g1 g2 g3 g4 g5
  unfold postroadlaw03_HuffCodes.f huff_Codes.f huff_Whole.f huff_Cost.f
  rw [g1, g2]
  simp only [Option.bind_some]
  rw [g3]
  simp only [Option.bind_some, if_true]
  cases h : okL l with
  | false =>
    rw [h] at g4
    simp only [Bool.false_and, bne_self_eq_false, Bool.false_eq_true, if_false] at g4 ⊢
    rw [if_neg (by decide)]
    exact g4
  | true =>
    rw [h] at g4
    rw [g5 h]
    simp only [Bool.true_and, if_true, Option.bind_some, bne_self_eq_false, Bool.false_eq_true, if_false] at g4 ⊢
    exact g4
end Go.Proofs.Ytmmoenleldcadaa.Pure
