/- Parts: PLen6 PLen7 HWhl HDyn -/
import Derived.Test.YtaghmhcccighgaaK17
import Derived.Test.YtaghmhcccighgaaK03
import Derived.Test.YtaghmhcccighgaaK05
import Derived.Test.YtaghmhcccighgaaK13
set_option linter.unusedVariables false
set_option linter.unusedSimpArgs false
section
/- The lengths as a whole: each symbol's, their shares, their cost; plain. -/
namespace Go.Proofs.Ytaghmhcccighgaa.HF
open Go.Proofs.YtaghmhcccighgaaW.PrintWords Go.Proofs.Ytaghmhcccighgaa.HP
/-- What is known of the lengths. -/
structure LensOk (l : List Int) (m : Nat) (d : Int → Int) : Prop where
  at_ : ∀ s : Nat, (h : s < l.length) → rd (lensL l m) (s : Int) = if 0 < l[s] then d (s : Int) else 0
  rg : ∀ s : Nat, (h : s < l.length) → 0 < l[s] → 1 ≤ d (s : Int) ∧ d (s : Int) ≤ m
  one : (coinsF 0 l).length = 1 → ∀ s : Nat, (h : s < l.length) → 0 < l[s] → d (s : Int) = 1
  share : 2 ≤ (coinsF 0 l).length → sumG (fun _ s => ((2 ^ (15 - (d s).toNat) : Nat) : Int)) (coinsF 0 l) = 32768
  cost : 2 ≤ (coinsF 0 l).length → sumG (fun f s => f * d s) (coinsF 0 l) = sumW ((levels (isort (coinsF 0 l)) (m - 1)).take (2 * (coinsF 0 l).length - 2))
theorem rd_rep (n : Nat) (s : Int) : rd (List.replicate n 0) s = 0 := by
  unfold rd
  rw [List.getD_eq_getElem?_getD, List.getElem?_replicate]
  split <;> rfl
theorem not_coin {l : List Int} {s : Nat} (h : s < l.length) (h0 : ¬ 0 < l[s]) (p : PkA) (hp : p ∈ coinsF 0 l) : (s : Int) ∉ p.2 := fun hm => by
  obtain ⟨j, hj, h1, rfl⟩ := coin_mem l 0 p hp
  have := List.mem_singleton.1 hm
  have e : j = s := by omega
  subst e
  exact h0 h1
theorem depth_zero {l : List Int} (D : List Nat) {s : Nat} (h : s < l.length) (h0 : ¬ 0 < l[s]) : depth (isort (coinsF 0 l)) D (s : Int) = 0 := by
  unfold depth
  refine List.count_eq_zero.2 fun hm => ?_
  obtain ⟨c, _, hc⟩ := List.mem_flatMap.1 hm
  obtain ⟨p, hp, hs⟩ := List.mem_flatMap.1 hc
  exact not_coin h h0 p ((isort_perm _).mem_iff.1 (List.mem_of_mem_take hp)) hs
theorem lens_ok {l : List Int} {m : Nat} (hf : ∀ f ∈ l, f ≤ 1099511627776) (hm : 1 ≤ m) (h15 : m ≤ 15) (hp : (coinsF 0 l).length ≤ 2 ^ m) : ∃ d, LensOk l m d := by
  by_cases hn : 2 ≤ (coinsF 0 l).length
  · have hl := (isort_perm (coinsF 0 l)).length_eq
    have hge := levels_ge (isort (coinsF 0 l)) (m := m) (by rw [hl]; exact hp) (m - 1) (by omega)
    rw [hl, show m - (m - 1) = 1 by omega] at hge
    have hpos : ∀ p ∈ isort (coinsF 0 l), 0 < p.1 := fun p hp => by
      obtain ⟨j, hj, h1, rfl⟩ := coin_mem l 0 p ((isort_perm _).mem_iff.1 hp)
      exact h1
    obtain ⟨c, cs, C⟩ := chain (isort_sorted (coinsF 0 l)) hpos (m - 1) (2 * (coinsF 0 l).length - 2) (by omega)
    have hc := C.top (by omega) (by omega)
    have hco := Coins.of l
    have e1 : ¬ (coinsF 0 l).length = 1 := by omega
    have e2 : ¬ (coinsF 0 l).length < 2 := by omega
    have hD : (c :: cs).length = m := by rw [List.length_cons, C.len]; omega
    have hrd : ∀ s : Nat, s < l.length → rd (lensL l m) (s : Int) = (depth (isort (coinsF 0 l)) (c :: cs) (s : Int) : Int) := fun s hs => by
      unfold lensL
      rw [if_neg e1, if_neg e2, tally_eq, bumps_rd _ _ s (by rw [List.length_replicate]; exact hs)]
      · rw [rd_rep, Int.zero_add, C.sy.count_eq]
        rfl
      · intro i hi
        rw [List.length_replicate]
        unfold symsL at hi
        obtain ⟨p, hp1, hp2⟩ := List.mem_flatMap.1 hi
        have hpb := levels_PB (SC := isort (coinsF 0 l)) (m := l.length) (fun q hq => by
          have := (isort_perm _).mem_iff.1 hq
          exact coins_PB l 0 hf (by omega) q (by rw [show ((0 : Nat) : Int) = 0 from rfl]; exact this)) (m - 1) p (List.mem_of_mem_take hp1)
        exact hpb.rng i hp2
    refine ⟨fun s => (depth (isort (coinsF 0 l)) (c :: cs) s : Int), ?_, ?_, ?_, ?_, ?_⟩
    · intro s hs
      rw [hrd s hs]
      by_cases h0 : 0 < l[s]
      · rw [if_pos h0]
      · rw [if_neg h0, depth_zero _ hs h0]
        rfl
    · intro s hs h0
      have k1 := depth_le (l := l) (c :: cs) (s : Int)
      rw [hD] at k1
      have hin : (l[s], [(0 : Int) + (s : Int)]) ∈ (isort (coinsF 0 l)).take c := by
        rw [hc, List.take_length]
        exact (isort_perm _).mem_iff.2 (mem_coin l 0 s hs h0)
      have k2 := hco.in_ hin
      have k3 : sig (l[s], [(0 : Int) + (s : Int)]) = (s : Int) := by show (0 : Int) + (s : Int) = s; omega
      rw [k3] at k2
      have k4 := depth_cons (isort (coinsF 0 l)) c cs (s : Int)
      omega
    · intro h; omega
    · intro _
      have hk := kraft_sum hco (c :: cs) C.ne C.le
      rw [C.kr_, hD, hl] at hk
      have e3 : (2 * (coinsF 0 l).length - 2) * 2 ^ (m - 1) = ((coinsF 0 l).length - 1) * 2 ^ m := by
        rw [show 2 ^ m = 2 * 2 ^ (m - 1) by rw [show m = (m - 1) + 1 by omega, Nat.pow_succ, Nat.add_sub_cancel]; omega, ← Nat.mul_assoc]
        congr 1
        omega
      have e4 : (coinsF 0 l).length * 2 ^ m = ((coinsF 0 l).length - 1) * 2 ^ m + 2 ^ m := by
        rw [← Nat.succ_mul]
        congr 1
        omega
      rw [e3, e4] at hk
      have e5 : sumG (fun _ s => ((2 ^ (m - depth (isort (coinsF 0 l)) (c :: cs) s) : Nat) : Int)) (isort (coinsF 0 l)) = ((2 ^ m : Nat) : Int) := by omega
      have e6 : ∀ L : List PkA, sumG (fun _ s => ((2 ^ (15 - ((depth (isort (coinsF 0 l)) (c :: cs) s : Nat) : Int).toNat) : Nat) : Int)) L = ((2 ^ (15 - m) : Nat) : Int) * sumG (fun _ s => ((2 ^ (m - depth (isort (coinsF 0 l)) (c :: cs) s) : Nat) : Int)) L := by
        intro L
        induction L with
        | nil => simp [sumG]
        | cons p L ih =>
          rw [sumG_cons, sumG_cons, ih, Int.mul_add]
          congr 1
          have k1 := depth_le (l := l) (c :: cs) (sig p)
          rw [hD] at k1
          rw [Int.toNat_natCast, ← Int.natCast_mul, ← Nat.pow_add]
          congr 2
          omega
      rw [← sumG_perm _ (isort_perm (coinsF 0 l)), e6, e5, ← Int.natCast_mul, ← Nat.pow_add, show 15 - m + m = 15 by omega]
      rfl
    · intro _
      rw [← sumG_perm _ (isort_perm (coinsF 0 l)), cost_sum hco, ← C.wt]
  · by_cases h1 : (coinsF 0 l).length = 1
    · refine ⟨fun _ => 1, ?_, fun s hs h0 => ⟨Int.le_refl _, by omega⟩, fun _ _ _ _ => rfl, fun h => by omega, fun h => by omega⟩
      obtain ⟨p, hpe⟩ := List.length_eq_one_iff.1 h1
      obtain ⟨j, hj, hj0, hpj⟩ := coin_mem l 0 p (by rw [hpe]; exact List.mem_singleton_self _)
      have hset : lensL l m = (List.replicate l.length 0).set j 1 := by
        unfold lensL
        rw [if_pos h1, hpe, hpj]
        show (List.replicate l.length 0).set ((0 : Int) + (j : Int)).toNat 1 = _
        rw [Int.zero_add, Int.toNat_natCast]
      intro s hs
      rw [hset]
      unfold rd
      rw [Int.toNat_natCast, List.getD_eq_getElem?_getD, List.getElem?_set]
      by_cases e : j = s
      · subst e
        rw [if_pos rfl, if_pos (by rw [List.length_replicate]; exact hs), if_pos hj0]
        rfl
      · have h0 : ¬ 0 < l[s] := fun h0 => by
          have := mem_coin l 0 s hs h0
          rw [hpe, List.mem_singleton, hpj] at this
          have := congrArg Prod.snd this
          simp only [List.cons.injEq, and_true] at this
          omega
        rw [if_neg e, if_neg h0, List.getElem?_replicate]
        split <;> rfl
    · refine ⟨fun _ => 1, ?_, fun s hs h0 => ⟨Int.le_refl _, by omega⟩, fun _ _ _ _ => rfl, fun h => by omega, fun h => by omega⟩
      intro s hs
      have h0 : ¬ 0 < l[s] := fun h0 => by
        have := List.length_pos_of_mem (mem_coin l 0 s hs h0)
        omega
      unfold lensL
      rw [if_neg h1, if_pos (by omega), rd_rep, if_neg h0]
end Go.Proofs.Ytaghmhcccighgaa.HF
end
section
/- Sums over the coins are sums over the symbols: shares and cost of the lengths; plain. -/
namespace Go.Proofs.Ytaghmhcccighgaa.HF
open Go.Proofs.YtaghmhcccighgaaW.PrintWords Go.Proofs.Ytaghmhcccighgaa.HP
theorem coinsF_cons (i f : Int) (l : List Int) : coinsF i (f :: l) = if 0 < f then (f, [i]) :: coinsF (i + 1) l else coinsF (i + 1) l := rfl
theorem share_coins (d : Int → Int) : ∀ (l L : List Int) (i : Int), L.length = l.length → (∀ s : Nat, (h : s < l.length) → (h' : s < L.length) → L[s] = if 0 < l[s] then d (i + s) else 0) → (∀ s : Nat, (h : s < l.length) → 0 < l[s] → 1 ≤ d (i + s)) →
    shareS L = sumG (fun _ s => ((2 ^ (15 - (d s).toNat) : Nat) : Int)) (coinsF i l)
  | [], [], _, _, _, _ => rfl
  | [], _ :: _, _, h, _, _ => by simp at h
  | _ :: _, [], _, h, _, _ => by simp at h
  | f :: l, x :: L, i, hl, h, h1 => by
    have ih := share_coins d l L (i + 1) (by simpa using hl) (fun s hs hs' => by
      have := h (s + 1) (by simp; omega) (by simp; omega)
      simp only [List.getElem_cons_succ] at this
      rw [this, show i + ((s + 1 : Nat) : Int) = i + 1 + (s : Int) by omega]) (fun s hs h0 => by
      have := h1 (s + 1) (by simp; omega) (by simpa using h0)
      rw [show i + ((s + 1 : Nat) : Int) = i + 1 + (s : Int) by omega] at this
      exact this)
    have hx := h 0 (by simp) (by simp)
    simp only [List.getElem_cons_zero] at hx
    rw [show i + ((0 : Nat) : Int) = i by omega] at hx
    rw [shareS_cons, ih]
    rw [coinsF_cons]
    by_cases h0 : 0 < f
    · have hd := h1 0 (by simp) (by simpa using h0)
      rw [show i + ((0 : Nat) : Int) = i by omega] at hd
      rw [if_pos h0] at hx
      rw [if_pos h0, sumG_cons, if_pos (by omega), hx]
      rfl
    · rw [if_neg h0] at hx
      rw [if_neg h0, if_neg (by omega), Int.zero_add]
theorem cost_coins (d : Int → Int) : ∀ (l L : List Int) (i s0 : Int), L.length = l.length → (∀ f ∈ l, 0 ≤ f) → (∀ s : Nat, (h : s < l.length) → (h' : s < L.length) → L[s] = if 0 < l[s] then d (i + s) else 0) → (∀ s : Nat, (h : s < l.length) → 0 < l[s] → 1 ≤ d (i + s)) →
    costG l L s0 = (s0 + sumG (fun f s => f * d s) (coinsF i l), 0)
  | [], [], _, s0, _, _, _, _ => by show (s0, (0 : Int)) = (s0 + 0, 0); rw [Int.add_zero]
  | [], _ :: _, _, _, h, _, _, _ => by simp at h
  | _ :: _, [], _, _, h, _, _, _ => by simp at h
  | f :: l, x :: L, i, s0, hl, hf, h, h1 => by
    have ih := fun s1 => cost_coins d l L (i + 1) s1 (by simpa using hl) (fun g hg => hf g (by simp [hg])) (fun s hs hs' => by
      have := h (s + 1) (by simp; omega) (by simp; omega)
      simp only [List.getElem_cons_succ] at this
      rw [this, show i + ((s + 1 : Nat) : Int) = i + 1 + (s : Int) by omega]) (fun s hs h0 => by
      have := h1 (s + 1) (by simp; omega) (by simpa using h0)
      rw [show i + ((s + 1 : Nat) : Int) = i + 1 + (s : Int) by omega] at this
      exact this)
    have hx := h 0 (by simp) (by simp)
    simp only [List.getElem_cons_zero] at hx
    rw [show i + ((0 : Nat) : Int) = i by omega] at hx
    show (if 0 < f ∧ x = 0 then (0, 30) else costG l L (s0 + f * x)) = _
    rw [coinsF_cons]
    by_cases h0 : 0 < f
    · have hd := h1 0 (by simp) (by simpa using h0)
      rw [show i + ((0 : Nat) : Int) = i by omega] at hd
      rw [if_pos h0] at hx
      rw [if_neg (by omega), ih, if_pos h0, sumG_cons, hx]
      show (s0 + f * d i + _, (0 : Int)) = (s0 + (f * d i + _), 0)
      rw [Int.add_assoc]
    · have hf0 := hf f (by simp)
      have : f = 0 := by omega
      subst this
      rw [if_neg (by omega), ih, if_neg (by omega), Int.zero_mul, Int.add_zero]
/-- The lengths are those of a code; their cost; whole where there are two or more. -/
theorem lens_facts {l : List Int} {m : Nat} (hl : l.length ≤ 288) (hf : ∀ f ∈ l, 0 ≤ f ∧ f ≤ 1099511627776) (hm : 1 ≤ m) (h15 : m ≤ 15) (hp : (coinsF 0 l).length ≤ 2 ^ m) :
    ∃ d, LensOk l m d ∧ okL (lensL l m) = true ∧ costG l (lensL l m) 0 = (sumG (fun f s => f * d s) (coinsF 0 l), 0) ∧ (2 ≤ (coinsF 0 l).length → wholeL (lensL l m) = true) := by
  obtain ⟨d, D⟩ := lens_ok (fun f h => (hf f h).2) hm h15 hp
  have hlen : (lensL l m).length = l.length := by
    unfold lensL
    split
    · rw [List.length_set, List.length_replicate]
    · split
      · rw [List.length_replicate]
      · rw [tally_len, List.length_replicate]
  have hat : ∀ s : Nat, (h : s < l.length) → (h' : s < (lensL l m).length) → (lensL l m)[s] = if 0 < l[s] then d (0 + (s : Int)) else 0 := fun s h h' => by
    have := D.at_ s h
    rw [rd_get _ s h'] at this
    rw [this, Int.zero_add]
  have hrg : ∀ s : Nat, (h : s < l.length) → 0 < l[s] → 1 ≤ d (0 + (s : Int)) := fun s h h0 => by
    rw [Int.zero_add]
    exact (D.rg s h h0).1
  have hsh := share_coins d l (lensL l m) 0 hlen hat hrg
  have hco := cost_coins d l (lensL l m) 0 0 hlen (fun f h => (hf f h).1) hat hrg
  rw [Int.zero_add] at hco
  have hall : (lensL l m).all lenOk = true := List.all_eq_true.2 fun x hx => by
    obtain ⟨s, hs, rfl⟩ := List.mem_iff_getElem.1 hx
    rw [hat s (by omega) hs]
    refine decide_eq_true ?_
    split
    · rename_i h0
      rw [Int.zero_add]
      have := D.rg s (by omega) h0
      omega
    · omega
  have hle : shareS (lensL l m) ≤ 32768 := by
    by_cases h2 : 2 ≤ (coinsF 0 l).length
    · rw [hsh, D.share h2]
      exact Int.le_refl _
    · rw [hsh]
      match hc : coinsF 0 l with
      | [] => simp [sumG]
      | [p] =>
        obtain ⟨j, hj, hj0, hpj⟩ := coin_mem l 0 p (by rw [hc]; exact List.mem_singleton_self _)
        have h1 := D.one (by rw [hc]; rfl) j hj hj0
        rw [sumG_cons, sumG_nil, Int.add_zero, hpj]
        show ((2 ^ (15 - (d ((0 : Int) + (j : Int))).toNat) : Nat) : Int) ≤ 32768
        rw [Int.zero_add, h1]
        decide
      | _ :: _ :: _ => rw [hc] at h2; simp at h2
  have hsl : shareL (lensL l m) = shareS (lensL l m) := by
    unfold shareL
    rw [decide_eq_true (show (lensL l m).length ≤ 288 by omega), hall]
    rfl
  refine ⟨d, D, ?_, hco, fun h2 => ?_⟩
  · rw [okL_share, hsl, decide_eq_true (shareS_nn _), decide_eq_true hle]
    rfl
  · unfold wholeL
    rw [rooms_share _ hall, hsh, D.share h2]
    rfl
end Go.Proofs.Ytaghmhcccighgaa.HF
end
section
/- deflate's whole; walked. -/
namespace Go.Proofs.Ytaghmhcccighgaa.DF
open Go.RowKit Go.Proofs.YtaghmhcccighgaaW.PrintWords Go.Proofs.YtaghmhcccighgaaW.PrintLast Go.Proofs.YtaghmhcccighgaaW.PrintMore Go.Proofs.Ytaghmhcccighgaa.HW Go.Proofs.Ytaghmhcccighgaa.MB Go.Proofs.Ytaghmhcccighgaa.HF
attribute [local go_sem] max2_int min2_int max_two min_two max_three min_three max_four min_four   -- for this text's walks alone
theorem coins_lenC (x : Int) (r : List Int) (i : Int) : (coinsF i (x :: r)).length = (if 0 < x then 1 else 0) + (coinsF (i + 1) r).length := by
  rw [coinsF_cons]
  split
  · rw [List.length_cons, Nat.add_comm]
  · rw [Nat.zero_add]
theorem coins_set : ∀ (l : List Int) (i : Int) (k : Nat) (h : k < l.length), l[k] = 0 → (coinsF i (l.set k 1)).length = (coinsF i l).length + 1
  | [], _, k, h, _ => absurd h (Nat.not_lt_zero k)
  | x :: r, i, 0, h, h0 => by
    have h0' : x = 0 := h0
    subst h0'
    rw [List.set_cons_zero, coins_lenC, coins_lenC, if_pos (by decide), if_neg (by decide)]
    omega
  | x :: r, i, k + 1, h, h0 => by
    rw [List.set_cons_succ, coins_lenC, coins_lenC, coins_set r (i + 1) k (by simpa using h) (by simpa using h0)]
    omega
theorem coins_all : ∀ (l : List Int) (i : Int), (∀ x ∈ l, 0 < x) → (coinsF i l).length = l.length
  | [], _, _ => rfl
  | x :: r, i, h => by
    rw [coins_lenC, if_pos (h x (List.mem_cons_self ..)), coins_all r (i + 1) (fun y hy => h y (List.mem_cons_of_mem _ hy)), List.length_cons, Nat.add_comm]
theorem coins_leL : ∀ (l : List Int) (i : Int), (coinsF i l).length ≤ l.length
  | [], _ => Nat.le_refl _
  | x :: r, i => by
    rw [coins_lenC, List.length_cons]
    have := coins_leL r (i + 1)
    split <;> omega
/-- Lengths that whole may give. -/
def WhG (l : List Int) (m : Nat) (L : List Int) : Prop := L.length = l.length ∧ RT.isWhole L = true ∧ (∀ x ∈ L, 0 ≤ x ∧ x ≤ m) ∧ ∀ i, i < l.length → 0 < rd l (i : Int) → 0 < rd L (i : Int)
theorem WhG.of_set {l L : List Int} {m k : Nat} (hk : k < l.length) (h : WhG (l.set k 1) m L) : WhG l m L := by
  obtain ⟨h1, h2, h3, h4⟩ := h
  rw [List.length_set] at h1 h4
  refine ⟨h1, h2, h3, fun i hi h0 => h4 i hi ?_⟩
  rw [rd_set _ _ _ _ hk]
  split
  · decide
  · exact h0
/-- Frequencies that may be. -/
def FqOk (l : List Int) (m : Nat) : Prop := 2 ≤ l.length ∧ l.length ≤ 288 ∧ (1 ≤ m ∧ m ≤ 15) ∧ l.length ≤ 2 ^ m ∧ ∀ x ∈ l, 0 ≤ x ∧ x ≤ 1099511627776
theorem FqOk.set {l : List Int} {m k : Nat} (h : FqOk l m) : FqOk (l.set k 1) m := by
  unfold FqOk at h ⊢
  rw [List.length_set]
  refine ⟨h.1, h.2.1, h.2.2.1, h.2.2.2.1, fun x hx => ?_⟩
  rcases List.mem_or_eq_of_mem_set hx with hx | hx
  · exact h.2.2.2.2 x hx
  · rw [hx]; decide
theorem FqOk.lens {l : List Int} {m : Nat} (h : FqOk l m) : okLens l (m : Int) = true := by
  unfold okLens
  rw [Bool.and_eq_true, Bool.and_eq_true, Bool.and_eq_true]
  refine ⟨decide_eq_true h.2.1, decide_eq_true (by have := h.2.2.1; omega), ?_, decide_eq_true (by rw [Int.toNat_natCast]; exact Nat.le_trans (coins_leL l 0) h.2.2.2.1)⟩
  unfold countedL
  exact List.all_eq_true.2 (fun x hx => decide_eq_true (h.2.2.2.2 x hx))
theorem FqOk.facts {l : List Int} {m : Nat} (h : FqOk l m) : ((lensL l m).length = l.length ∧ okL (lensL l m) = true) ∧ (2 ≤ (coinsF 0 l).length → wholeL (lensL l m) = true) ∧ ((okL (lensL l m) && wholeL (lensL l m)) = true → WhG l m (lensL l m)) := by
  obtain ⟨d, D, ho, _, hw⟩ := lens_facts h.2.1 h.2.2.2.2 h.2.2.1.1 h.2.2.1.2 (Nat.le_trans (coins_leL l 0) h.2.2.2.1)
  have hlen : (lensL l m).length = l.length := by
    unfold lensL
    split
    · rw [List.length_set, List.length_replicate]
    · split
      · rw [List.length_replicate]
      · rw [tally_len, List.length_replicate]
  refine ⟨⟨hlen, ho⟩, hw, fun e => ⟨hlen, e, fun x hx => ?_, fun i hi h0 => ?_⟩⟩
  · obtain ⟨i, hi, rfl⟩ := List.getElem_of_mem hx
    rw [hlen] at hi
    have := D.at_ i hi
    rw [rd_get _ i (by rw [hlen]; exact hi)] at this
    rw [this]
    split
    · rename_i h0
      have := D.rg i hi h0
      omega
    · omega
  · rw [rd_get l i hi] at h0
    rw [D.at_ i hi, if_pos h0]
    have := D.rg i hi h0
    omega
/-- What whole tells. -/
def WhQ (l : List Int) (m g : Nat) (W : World) (e : Ending) (w' : World) : Prop := ∃ v L, e = .returned v ∧ WhG l m L ∧ Kd.R (Kd.int .i64) 3 w' W.heap.size (fun _ => True) v L ∧ Fr (fun k => k = g) W w'
set_option maxRecDepth 100000 in
set_option maxHeartbeats 8000000 in
theorem whole_rec (m : Nat) : ∀ (d : Nat) (W : World) (B g c : Nat) (l : List Int), Kd.R (Kd.int .i64) 3 W B (fun _ => True) (.slice (some ⟨g, 0, none⟩) l.length c) l → FqOk l m → 2 ≤ (coinsF 0 l).length + d →
    Calls Try.prog 49 #[.slice (some ⟨g, 0, none⟩) l.length c, .int .i64 m] W (WhQ l m g W) := by
  intro d
  induction d with
  | zero =>
    intro W B g c l hr hq hd
    have HR := Aside0.mk hr
    have HQ := Aside0.mk hq
    have hl := hq.2.1
    have HL := Aside0.mk (lengths_any (some ⟨g, 0, none⟩) c l (m : Int) W (Kd.R_reads' hr).2.2 (Kd.R_reads' hr).2.1)
    have HD := Aside0.mk hd
    clear hr hq hd
    go_enter Try.func49, Try.ntmps49
    go_wp2_with fail
    refine HL.out.mono ?_
    rintro e w1 ⟨v0, rfl, hr0, hb1⟩
    rw [HQ.out.lens, if_pos rfl, Int.toNat_natCast] at hr0
    rw [HQ.out.lens, if_pos rfl]
    obtain ⟨A0, c0, hv0⟩ := Kd.R_slice hr0
    subst hv0
    have HR0 := Aside0.mk hr0
    have HB1 := Aside0.mk hb1
    have HW := Aside0.mk (whole_any A0 c0 (lensL l m) w1 (Kd.R_reads' hr0).2.2 (Kd.R_reads' hr0).2.1)
    clear hr0 hb1 HL
    go_wp2_with fail
    refine HW.out.mono ?_
    rintro e w2 ⟨rfl, hb2⟩
    rw [if_pos HQ.out.facts.1.2]
    have HT := Aside0.mk (show (okL (lensL l m) && wholeL (lensL l m)) = true by rw [HQ.out.facts.1.2, HQ.out.facts.2.1 HD.out]; rfl)
    rw [HT.out]
    have HB2 := Aside0.mk (HB1.out.trans (hb2.mono HB1.out.size))
    have HR2 := Aside0.mk (Kd.R_mono (Kd.R_step (Kd.R_tight rfl HR0.out) (fun k hk hlt => hb2.block k hlt)) (fun _ _ => trivial : ∀ k, _ → True))
    clear hb2 HW HB1 HR0
    go_wp2_with fail
    go_ret
    exact ⟨_, _, rfl, HQ.out.facts.2.2 HT.out, HR2.out, Fr.of_below_all HB2.out _⟩
  | succ d ih =>
    intro W B g c l hr hq hd
    have HR := Aside0.mk hr
    have HQ := Aside0.mk hq
    have HIH := Aside0.mk ih
    have hl := hq.2.1
    have HL := Aside0.mk (lengths_any (some ⟨g, 0, none⟩) c l (m : Int) W (Kd.R_reads' hr).2.2 (Kd.R_reads' hr).2.1)
    have HD := Aside0.mk hd
    clear hr hq hd ih
    go_enter Try.func49, Try.ntmps49
    go_wp2_with fail
    refine HL.out.mono ?_
    rintro e w1 ⟨v0, rfl, hr0, hb1⟩
    rw [HQ.out.lens, if_pos rfl, Int.toNat_natCast] at hr0
    rw [HQ.out.lens, if_pos rfl]
    obtain ⟨A0, c0, hv0⟩ := Kd.R_slice hr0
    subst hv0
    have HR0 := Aside0.mk hr0
    have HB1 := Aside0.mk hb1
    have HW := Aside0.mk (whole_any A0 c0 (lensL l m) w1 (Kd.R_reads' hr0).2.2 (Kd.R_reads' hr0).2.1)
    clear hr0 hb1 HL
    go_wp2_with fail
    refine HW.out.mono ?_
    rintro e w2 ⟨rfl, hb2⟩
    rw [if_pos HQ.out.facts.1.2]
    have HB2 := Aside0.mk (HB1.out.trans (hb2.mono HB1.out.size))
    have HR2 := Aside0.mk (Kd.R_mono (Kd.R_step (Kd.R_tight rfl HR0.out) (fun k hk hlt => hb2.block k hlt)) (fun _ _ => trivial : ∀ k, _ → True))
    clear hb2 HW HB1 HR0
    cases hb : (okL (lensL l m) && wholeL (lensL l m)) with
    | true =>
      have HT := Aside0.mk hb
      clear hb
      go_wp2_with fail
      go_ret
      exact ⟨_, _, rfl, HQ.out.facts.2.2 HT.out, HR2.out, Fr.of_below_all HB2.out _⟩
    | false =>
      have HC : Aside0 ((coinsF 0 l).length < 2) := ⟨by
        rcases Nat.lt_or_ge (coinsF 0 l).length 2 with h | h
        · exact h
        · have h1 := HQ.out.facts.2.1 h
          have h2 := HQ.out.facts.1.2
          rw [h1, h2] at hb
          cases hb⟩
      have HRL := Aside0.mk (Kd.R_mono (Kd.R_step (Kd.R_tight rfl HR.out) (fun k hk hlt => HB2.out.block k hlt)) (fun _ _ => trivial : ∀ k, _ → True))
      clear hb HR HR2
      go_wp2_with fail
      go_loop [25] (fun v25 => ∃ k : Nat, v25 = .int .i64 k ∧ k ≤ l.length ∧ Aside0 (∀ i, i < k → ∀ h : i < l.length, 0 < l[i])) (fun v25 => l.length - (intOf v25).toNat)
      case atStart => exact ⟨0, rfl, Nat.zero_le _, ⟨fun i hi => by omega⟩⟩
      case round =>
        obtain ⟨k, rfl, hk, HP⟩ := hrel
        by_cases hlt : k < l.length
        · have b1 : decide ((k : Int) < (l.length : Int)) = true := decide_eq_true (by omega)
          have p0 : (0 : Int) ≤ (k : Int) := by omega
          have p1 : (k : Int) < (l.length : Int) := by omega
          obtain ⟨ca, fa⟩ := Kd.R_celln 0 HRL.out (k : Int) (by omega) (by omega)
          rw [Int.toNat_natCast] at ca fa
          have ca' : w2.cell? ⟨g, k, none⟩ = some (.int .i64 l[k]) := by
            rw [ca]
            show some (Value.int .i64 (rdOf 0 l (k : Int))) = _
            rw [show rdOf 0 l (k : Int) = l[k] from rd_get l k hlt]
          clear ca
          have HLT := Aside0.mk hlt
          by_cases h0 : l[k] = 0
          · rw [h0] at ca'
            have hput := Kd.R_putg HRL.out (k : Int) 1
            rw [Int.toNat_natCast] at hput
            have hcs := coins_set l 0 k hlt h0
            have h1 := HD.out
            have hlen : (l.set k 1).length = l.length := List.length_set
            have HCALL := Aside0.mk (HIH.out (w2.setCell ⟨g, k, none⟩ (.int .i64 1)) B g c (l.set k 1) (by rw [hlen]; exact hput.1) HQ.out.set (by omega))
            rw [hlen] at HCALL
            clear hput hcs h1 hlen h0
            go_wp2_with fail
            refine HCALL.out.mono ?_
            rintro e w3 ⟨v, L, rfl, hG, hR3, hf3⟩
            have HG := Aside0.mk (hG.of_set HLT.out)
            have hsz : (w2.setCell ⟨g, k, none⟩ (.int .i64 1)).heap.size = w2.heap.size := by simp
            rw [hsz] at hR3
            have HR3 := Aside0.mk (Kd.R_lower hR3 HB2.out.size)
            have HF3 := Aside0.mk ((((Fr.of_below_all HB2.out (fun k => k = g)).setCell (p := ⟨g, k, none⟩) (Or.inl rfl) (.int .i64 1))).then_ hf3 (fun q hq => Or.inl hq))
            clear hG hR3 hf3 HCALL hsz
            go_wp2_with fail
            go_ret
            exact ⟨v, L, rfl, HG.out, HR3.out, HF3.out⟩
          · have b2 : (l[k] == 0) = false := by simpa using h0
            have HP2 : Aside0 (∀ i, i < k + 1 → ∀ h : i < l.length, 0 < l[i]) := ⟨fun i hi h => by
              by_cases hik : i = k
              · subst hik
                have := (HQ.out.2.2.2.2 l[i] (List.getElem_mem h)).1
                omega
              · exact HP.out i (by omega) h⟩
            obtain ⟨z, hz⟩ : ∃ z, l[k] = z := ⟨_, rfl⟩
            rw [hz] at ca' b2 h0
            clear HP hz
            go_wp2_with fail
            go_round
            case rel => exact ⟨k + 1, by go_num, HLT.out, HP2⟩
            case measure => simp [intOf]; have := HLT.out; omega
        · exfalso
          have h1 := coins_all l 0 (fun x hx => by
            obtain ⟨i, hi, rfl⟩ := List.getElem_of_mem hx
            exact HP.out i (by omega) hi)
          have h2 := HC.out
          have h3 := HQ.out.1
          omega
theorem whole_ok {W : World} {B g c m : Nat} {l : List Int} (hr : Kd.R (Kd.int .i64) 3 W B (fun _ => True) (.slice (some ⟨g, 0, none⟩) l.length c) l) (hq : FqOk l m) : Calls Try.prog 49 #[.slice (some ⟨g, 0, none⟩) l.length c, .int .i64 m] W (WhQ l m g W) :=
  whole_rec m 2 W B g c l hr hq (by omega)
end Go.Proofs.Ytaghmhcccighgaa.DF
end
section
/- A block of kind 2 is written; walked. -/
namespace Go.Proofs.Ytaghmhcccighgaa.DF
open Go.RowKit Go.Proofs.YtaghmhcccighgaaW.PrintWords Go.Proofs.YtaghmhcccighgaaW.PrintLast Go.Proofs.YtaghmhcccighgaaW.PrintMore Go.Proofs.Ytaghmhcccighgaa.HW Go.Proofs.Ytaghmhcccighgaa.MB Go.Proofs.Ytaghmhcccighgaa.HF Go.Proofs.Ytaghmhcccighgaa.Fn
attribute [local go_sem] max2_int min2_int max_two min_two max_three min_three max_four min_four   -- for this text's walks alone
def orderZ : List Int := [16, 17, 18, 0, 8, 7, 9, 6, 10, 5, 11, 4, 12, 3, 13, 2, 14, 1, 15]
/-- The lengths of the lengths' code, as bits. -/
def firstB (first : List Int) (o : List Int) : List Bool := o.flatMap fun k => bitsOf (rd first k).toNat 3
def wdsB (l xs : List Int) : List Bool := xs.flatMap (wd l)
theorem firstB_snoc (first o : List Int) (k : Int) : firstB first (o ++ [k]) = firstB first o ++ bitsOf (rd first k).toNat 3 := by unfold firstB; simp [List.flatMap_append]
theorem wdsB_snoc (l xs : List Int) (x : Int) : wdsB l (xs ++ [x]) = wdsB l xs ++ wd l x := by unfold wdsB; simp [List.flatMap_append]
theorem firstB_len (first : List Int) : ∀ o : List Int, (firstB first o).length = 3 * o.length
  | [] => rfl
  | k :: o => by
    show (bitsOf _ 3 ++ firstB first o).length = _
    rw [List.length_append, bitsOf_length, firstB_len first o, List.length_cons]
    omega
theorem wdsB_len {l : List Int} (ho : okL l = true) : ∀ xs : List Int, (∀ x ∈ xs, okS l x) → (wdsB l xs).length ≤ 15 * xs.length
  | [], _ => Nat.le_refl _
  | x :: xs, h => by
    have h1 := (wd_len ho (h x (List.mem_cons_self ..))).2
    have h2 := wdsB_len ho xs (fun y hy => h y (List.mem_cons_of_mem _ hy))
    show (wd l x ++ wdsB l xs).length ≤ _
    rw [List.length_append, List.length_cons]
    omega
/-- A block of kind 2 behind its head. -/
structure DynB (xs : List (Nat × Nat)) (b : List Bool) (lens dist first : List Int) : Prop where
  n1 : lens.length = 286
  n2 : dist.length = 30
  n3 : first.length = 19
  w1 : RT.isWhole lens = true
  w2 : RT.isWhole dist = true
  w3 : RT.isWhole first = true
  f7 : ∀ x ∈ first, 0 ≤ x ∧ x ≤ 7
  l15 : ∀ x ∈ lens ++ dist, 0 ≤ x ∧ x ≤ 15
  si : ∀ x ∈ xs, SymIn lens dist x
  se : okS lens 256
  al : ∀ x ∈ lens ++ dist, okS first x
  bs : b = bitsOf 29 5 ++ bitsOf 29 5 ++ bitsOf 15 4 ++ firstB first orderZ ++ wdsB first (lens ++ dist) ++ (symsW lens dist xs ++ wd lens 256)
def DyQ (xs : List (Nat × Nat)) (B2 g : Nat) (v : Value) (l : List Bool) (W : World) (e : Ending) (w' : World) : Prop := ∃ b lens dist first, DynB xs b lens dist first ∧ WrQ b B2 g v l W (.tuple #[]) e w'
/-- A row of numbers. -/
def RI (w : World) (B g n c : Nat) (xs : List Int) : Prop := Kd.R (Kd.int .i64) 3 w B (fun _ => True) (.slice (some ⟨g, 0, none⟩) n c) xs
section
variable {W w w' : World} {B g n c : Nat} {xs : List Int}
theorem RI.lt (h : RI w B g n c xs) : g < w.heap.size := Kd.R_lt h g rfl
theorem RI.keep {S : Nat → Prop} (h : RI w B g n c xs) (hf : Fr S w w') (hn : ¬ S g) : RI w' B g n c xs :=
  Kd.R_mono (Kd.R_step (Kd.R_tight rfl h) (fun k hk hlt => hf.block k hlt (fun e => hn (by
    have hk2 : some k = some g := hk
    rw [← Option.some.inj hk2]; exact e)))) (fun _ _ => trivial)
theorem RI.below (h : RI w B g n c xs) (hb : Below w.heap.size w w') : RI w' B g n c xs := h.keep (Fr.of_below_all hb (fun _ => False)) (fun h => h)
theorem RI.len (h : RI w B g n c xs) : n = xs.length := (Kd.R_reads' h).1
theorem RI.typed (h : RI w B g n c xs) : ∃ cells, w.heap[g]? = some (.cells cells 3 (0, 0)) := by
  obtain ⟨_, inner, ho, _⟩ := h
  exact own_typed ho g rfl
theorem RI.keepW {B2 q : Nat} {v : Value} {l : List Bool} (h : RI w B g n c xs) (hw : IsW w B2 q v l) (hf : Fr (WS q v) w w') : RI w' B g n c xs := by
  refine h.keep hf (fun e => ?_)
  obtain ⟨cells, hc⟩ := h.typed
  rcases e with e | e
  · subst e
    have := hw.1
    unfold WBlk at this
    rw [hc] at this
    injection this with this
    injection this with _ h3
    exact absurd h3 (by decide)
  · obtain ⟨_, _, bs, ho, _⟩ := hw
    exact own_ne ho hc (by decide) e.symm
theorem RI.at_ (h : RI w B g n c xs) {j : Nat} (hj : j < n) : w.cell? ⟨g, j, none⟩ = some (.int .i64 (rd xs (j : Int))) ∧ w.frozen? ⟨g, j, none⟩ = false := by
  have := Kd.R_celln 0 h (j : Int) (by omega) (by omega)
  rw [Int.toNat_natCast] at this
  exact this
theorem RI.set (h : RI w B g n c xs) (j : Nat) (x : Int) : RI (w.setCell ⟨g, j, none⟩ (.int .i64 x)) B g n c (xs.set j x) := by
  have := (Kd.R_putg h (j : Int) x).1
  rw [Int.toNat_natCast] at this
  exact this
theorem RI.of {v : Value} (h : Kd.R (Kd.int .i64) 3 w B (fun _ => True) v xs) (hn : 0 < xs.length) : ∃ g c, v = .slice (some ⟨g, 0, none⟩) xs.length c ∧ RI w B g xs.length c xs ∧ xs.length ≤ c := by
  obtain ⟨g, c, hv⟩ := R_first h hn
  rw [hv] at h
  exact ⟨g, c, hv, h, (Kd.R_reads' h).2.1⟩
end
def orderO : Obj := .cells #[.int .i64 16, .int .i64 17, .int .i64 18, .int .i64 0, .int .i64 8, .int .i64 7, .int .i64 9, .int .i64 6, .int .i64 10, .int .i64 5, .int .i64 11, .int .i64 4, .int .i64 12, .int .i64 3, .int .i64 13, .int .i64 2, .int .i64 14, .int .i64 1, .int .i64 15] 3
theorem RI_order (w : World) : RI (w.alloc orderO) w.heap.size w.heap.size 19 19 orderZ := by
  refine Kd.R_of_own (enc := Value.int .i64) (h1 := fun _ => rfl) ?_ (fun _ _ => trivial)
  exact ⟨rfl, Or.inr ⟨w.heap.size, 19, _, rfl, Nat.le_refl _, heap_alloc_new w _, Nat.le_refl _, by unfold maxLen; decide, rfl, rfl⟩⟩
theorem order_rng : ∀ i : Nat, i < 19 → 0 ≤ rd orderZ (i : Int) ∧ rd orderZ (i : Int) ≤ 18 := by decide +kernel
/-- dynamic's state, once there are lengths. -/
structure DyS (W w : World) (B2 g : Nat) (v v1 : Value) (l pre : List Bool) (A : Option Addr) (L : List S60) (gl cl : Nat) (lens : List Int) (gd cd : Nat) (dist : List Int) : Prop where
  iw : IsW w B2 g v1 (l ++ pre)
  fr : Fr (WS g v) W w
  at_ : AtB W v v1
  hB : B2 ≤ W.heap.size
  ro : RdL w A L
  rl : RI w W.heap.size gl 286 cl lens
  rdd : RI w W.heap.size gd 30 cd dist
section
variable {W w w' : World} {B2 g : Nat} {v v1 v2 : Value} {l pre b : List Bool} {A : Option Addr} {L : List S60} {gl cl : Nat} {lens : List Int} {gd cd : Nat} {dist : List Int}
theorem DyS.below (h : DyS W w B2 g v v1 l pre A L gl cl lens gd cd dist) (hb : Below w.heap.size w w') : DyS W w' B2 g v v1 l pre A L gl cl lens gd cd dist :=
  ⟨h.iw.below hb, h.fr.add hb, h.at_, h.hB, h.ro.below hb, h.rl.below hb, h.rdd.below hb⟩
theorem DyS.step (h : DyS W w B2 g v v1 l pre A L gl cl lens gd cd dist) (hi : IsW w' B2 g v2 (l ++ pre ++ b)) (hf : Fr (WS g v1) w w') (ha : AtB w v1 v2) : DyS W w' B2 g v v2 l (pre ++ b) A L gl cl lens gd cd dist :=
  ⟨by rw [← List.append_assoc]; exact hi, WS_then h.fr hf h.at_, h.at_.trans ha h.fr.size, h.hB, h.ro.keepW h.iw hf, h.rl.keepW h.iw hf, h.rdd.keepW h.iw hf⟩
theorem DyS.other {q B n c : Nat} {xs : List Int} (h : DyS W w B2 g v v1 l pre A L gl cl lens gd cd dist) (hq : RI w B q n c xs) (h1 : W.heap.size ≤ q) (h2 : gl ≠ q) (h3 : gd ≠ q) (hf : Fr (fun k => k = q) w w') : DyS W w' B2 g v v1 l pre A L gl cl lens gd cd dist := by
  obtain ⟨cells, hc⟩ := hq.typed
  refine ⟨h.iw.keep hf (fun e => ?_) (fun k hk e => ?_), h.fr.then_ hf (fun k hk => Or.inr (hk ▸ h1)), h.at_, h.hB, h.ro.keep hf (fun k cs hk e => ?_), h.rl.keep hf h2, h.rdd.keep hf h3⟩
  · subst e
    have := h.iw.1
    unfold WBlk at this
    rw [hc] at this
    injection this with this
    injection this with _ h3
    exact absurd h3 (by decide)
  · obtain ⟨_, _, bs, ho, _⟩ := h.iw
    subst e
    exact own_ne ho hc (by decide) hk.symm
  · subst e
    rw [hc] at hk
    injection hk with hk
    injection hk with _ h3
    exact absurd h3 (by decide)
theorem DyS.bits (h : DyS W w B2 g v v1 l pre A L gl cl lens gd cd dist) (hl : (l ++ pre).length ≤ 100000000000) (x m : Nat) (h1 : m ≤ 57) (h2 : x < 2 ^ m) : Calls Try.prog 20 #[.pointer (some ⟨g, 0, none⟩), .int .i64 x, .int .i64 m] w (WrQ (bitsOf x m) B2 g v1 (l ++ pre) w (.int .i64 0)) :=
  bits_ok B2 g v1 (l ++ pre) x m w h.iw h1 h2 (Nat.le_trans hl (by decide)) (Nat.le_trans h.hB h.fr.size)
end
/-- How often lengths come. -/
def OftI (zs : List Int) (f : List Int) (b : Int) : Prop := f.length = 19 ∧ (∀ x ∈ f, 0 ≤ x ∧ x ≤ b) ∧ ∀ z ∈ zs, 0 < rd f z
theorem OftI.bump {zs : List Int} {f : List Int} {b : Int} (h : OftI zs f b) {j : Nat} (hj : j < 19) (hz : ∀ z ∈ zs, 0 ≤ z) : OftI (zs ++ [(j : Int)]) (f.set j (rd f (j : Int) + 1)) (b + 1) := by
  obtain ⟨h1, h2, h3⟩ := h
  have hjf : j < f.length := by omega
  refine ⟨by rw [List.length_set]; exact h1, bump_rng hjf h2, fun z hm => ?_⟩
  rcases List.mem_append.1 hm with hm | hm
  · exact bump_rd hjf z (hz z hm) (h3 z hm)
  · rw [List.mem_singleton] at hm
    subst hm
    exact bump_self hjf (rd_rng h1 h2 hj).1
theorem CntI.fq {zs : List (Nat × Nat)} {f g : List Int} {b : Int} (h : CntI zs f g b) (hb : b ≤ 1099511627776) : FqOk f 15 ∧ FqOk g 15 := by
  obtain ⟨h1, h2, h3, h4, _⟩ := h
  refine ⟨⟨by omega, by omega, by decide, by rw [h1]; decide, fun x hx => ?_⟩, ⟨by omega, by omega, by decide, by rw [h2]; decide, fun x hx => ?_⟩⟩
  · have := h3 x hx; omega
  · have := h4 x hx; omega
theorem CntI.sym {zs : List (Nat × Nat)} {f g lens dist : List Int} {b : Int} (h : CntI zs f g b) (hv : ∀ x ∈ zs, SymV x) (hl : WhG f 15 lens) (hd : WhG g 15 dist) : (∀ x ∈ zs, SymIn lens dist x) ∧ okS lens 256 := by
  obtain ⟨h1, h2, h3, h4, h5, h6⟩ := h
  obtain ⟨l1, _, _, l4⟩ := hl
  obtain ⟨d1, _, _, d4⟩ := hd
  refine ⟨fun x hx => ?_, ⟨by decide, by omega, by have h9 : 0 < rd lens 256 := l4 256 (by omega) h5; omega⟩⟩
  rcases hv x hx with ⟨e, e2⟩ | ⟨e, e3, e258, e1, e32⟩
  · rcases h6 x hx with ⟨_, h7⟩ | ⟨e', _⟩
    · exact Or.inl ⟨e, by omega, by omega, by have := l4 x.2 (by omega) h7; omega⟩
    · exact absurd e e'
  · rcases h6 x hx with ⟨e', _⟩ | ⟨_, h7, h8⟩
    · exact absurd e' e
    · have hb := lenS_bd e3 e258
      have hc := dis_spec x.1 e1 e32
      exact Or.inr ⟨e, ⟨e3, e258, e1, e32⟩, ⟨by omega, by omega, by have := l4 _ (by omega) h7; omega⟩, ⟨by omega, by omega, by have := d4 _ (by omega) h8; omega⟩⟩
theorem whole_okL {l : List Int} (h : RT.isWhole l = true) : okL l = true := by
  unfold RT.isWhole at h
  rw [Bool.and_eq_true] at h
  exact h.1
set_option maxRecDepth 100000 in
set_option maxHeartbeats 64000000 in
theorem dynamic_ok {W : World} {B2 g : Nat} {v : Value} {l : List Bool} (hw : IsW W B2 g v l) (hB : B2 ≤ W.heap.size) (A : Option Addr) (c : Nat) (xs : List (Nat × Nat)) (hr : RdL W A (xs.map toS)) (hc : xs.length ≤ c) (hx : ∀ x ∈ xs, SymV x) (hl : l.length + 48 * xs.length ≤ 1000000000) :
    Calls Try.prog 35 #[.pointer (some ⟨g, 0, none⟩), .slice A xs.length c] W (DyQ xs B2 g v l W) := by
  have HCO := Aside0.mk (counted_okD A c xs hr (by omega) hx)
  have HX := Aside0.mk hx
  have HW := Aside0.mk (And.intro hw hB)
  have HL := Aside0.mk hl
  have HCC := Aside0.mk hc
  have hn9 : xs.length ≤ 100000000 := by omega
  clear hr hx hw hB hl hc
  go_enter Try.func35, Try.ntmps35
  go_wp2_with fail
  refine HCO.out.mono ?_
  rintro e w1 ⟨g1, g2, ff, gg, rfl, hci, hcs⟩
  have HCI := Aside0.mk hci
  have HCS := Aside0.mk hcs
  have hf := hci.1
  have hg := hci.2.1
  have HFQ := Aside0.mk (hci.fq (by omega))
  have HW1 := Aside0.mk (whole_ok (m := 15) (l := ff) (W := w1) (c := 286) (by rw [hf]; exact hcs.r1) HFQ.out.1)
  rw [hf] at HW1
  clear hci hcs HCO hf hg
  go_wp2_with fail
  refine HW1.out.mono ?_
  rintro e w2 ⟨vl, lens, rfl, hG1, hR1, hf1⟩
  have HG1 := Aside0.mk hG1
  obtain ⟨gl, cl, hvl, hRl, hcl⟩ := RI.of hR1 (by have := hG1.1; have := HCI.out.1; omega)
  have hlen : lens.length = 286 := by have := hG1.1; have := HCI.out.1; omega
  rw [hlen] at hvl hRl hcl
  subst hvl
  have HF1 := Aside0.mk hf1
  have HRG := Aside0.mk (RI.keep (B := W.heap.size) (show RI w1 W.heap.size g2 30 30 gg from HCS.out.r2) hf1 (fun e => HCS.out.ne e.symm))
  have HRO := Aside0.mk (HCS.out.ro.keep hf1 (fun k cells hk e => by
    subst e
    exact Kd.R_ne HCS.out.r1 hk (by decide) rfl))
  have hg2 := HCI.out.2.1
  have HW2 := Aside0.mk (whole_ok (m := 15) (l := gg) (W := w2) (c := 30) (by rw [hg2]; exact HRG.out) HFQ.out.2)
  rw [hg2] at HW2
  have HRL := Aside0.mk hRl
  have HGL := Aside0.mk (And.intro hlen hcl)
  clear hG1 hR1 hf1 hRl hcl hlen hg2 HW1
  go_wp2_with fail
  refine HW2.out.mono ?_
  rintro e w3 ⟨vd, dist, rfl, hG2, hR2, hf2⟩
  obtain ⟨gd, cd, hvd, hRd, hcd⟩ := RI.of hR2 (by have := hG2.1; have := HCI.out.2.1; omega)
  have hdlen : dist.length = 30 := by have := hG2.1; have := HCI.out.2.1; omega
  rw [hdlen] at hvd hRd hcd
  subst hvd
  have HG2 := Aside0.mk hG2
  have HB2 := Aside0.mk (show Below W.heap.size W w2 from HCS.out.be.trans (HF1.out.below HCS.out.be.size (fun k hk => by rw [hk]; exact Kd.R_base HCS.out.r1 g1 rfl)))
  have HB3 := Aside0.mk (show Below W.heap.size W w3 from HB2.out.trans (hf2.below HB2.out.size (fun k hk => by rw [hk]; exact Kd.R_base HCS.out.r2 g2 rfl)))
  have hgl2 : gl ≠ g2 := by
    have h1 := Kd.R_base HRL.out gl rfl
    have h2 : g2 < w1.heap.size := RI.lt (show RI w1 W.heap.size g2 30 30 gg from HCS.out.r2)
    omega
  have HD3 : Aside0 (DyS W w3 B2 g v v l [] A (xs.map toS) gl cl lens gd cd dist) := ⟨{
    iw := by rw [List.append_nil]; exact HW.out.1.below HB3.out
    fr := Fr.of_below_all HB3.out _
    at_ := AtB.refl _ _
    hB := HW.out.2
    ro := HRO.out.keep hf2 (fun k cells hk e => by subst e; exact Kd.R_ne HRG.out hk (by decide) rfl)
    rl := (show RI w3 w1.heap.size gl 286 cl lens from HRL.out.keep hf2 (fun e => hgl2 e)) |> fun h => Kd.R_lower h HCS.out.be.size
    rdd := Kd.R_lower hRd HB2.out.size }⟩
  have HSI := Aside0.mk (HCI.out.sym HX.out HG1.out HG2.out)
  have HGD := Aside0.mk (And.intro hdlen hcd)
  have hq : HCS.out.be = HCS.out.be := rfl
  clear hG2 hR2 hf2 hRd hcd hdlen hgl2 HW2 HRL HRO HRG HF1 HCS HCI HFQ HB2 HB3 HW hq
  obtain ⟨all, hall⟩ : ∃ all, lens ++ dist = all := ⟨_, rfl⟩
  have hallL : all.length = 316 := by rw [← hall, List.length_append, HGL.out.1, HGD.out.1]
  have HALL := Aside0.mk hall
  have HAR : Aside0 (∀ x ∈ all, 0 ≤ x ∧ x ≤ 15) := ⟨fun x hx => by
    rw [← HALL.out] at hx
    rcases List.mem_append.1 hx with hx | hx
    · exact HG1.out.2.2.1 x hx
    · exact HG2.out.2.2.1 x hx⟩
  clear hall
  have HBR := Aside0.mk (Below.refl w3.heap.size w3)
  have HCL := Aside0.mk (Kd.R_reads' HD3.out.rl).2.2
  have HCD := Aside0.mk (Kd.R_reads' HD3.out.rdd).2.2
  have hgl286 := HGL.out.1
  have hgd30 := HGD.out.1
  go_upto_region 3 with (first | ((with_reducible refine gate_dst (N := 28) rfl ?_); (try (refine gate_guard (by rfl) ?_; dsimp only)); refine Kd.R_lit (Kd.int .i64) _ 3 ?hg (N := 28) ?hd (xs := ([] : List Int)) (inner := []) (ok := fun _ => True) (okp := fun _ => True) ?hr ?hp (fun _ hk => hk) trivial (Below.refl w3.heap.size w3) (Nat.le_refl _) (by simp) ?_; (case hd => rfl); (case hg => rfl); (case hr => first | (go_simp; done) | (go_simp; rfl)); (case hp => exact Reps.none _ _); intro v5 w5 ho hb hg hn; have HO := Aside0.mk ho; have HB := Aside0.mk hb; clear ho hb hg hn) | ((with_reducible refine gate_builtin (b := .append) (xs := #[.tmp 28, .tmp 29]) rfl ?_); at_builtin; refine Kd.R_append_rows (Kd.int .i64) (w0 := w3) w3.heap.size rfl (.tmp 28) (.tmp 29) 48 3 (.int .i64 0) 8 rfl Try.underlying48 info3 rfl (by decide) (by decide) v5 [] lens (some ⟨gl, 0, none⟩) 286 cl (fun _ => True) (fun _ => False) rfl (by first | (go_simp; done) | (go_simp; rfl)) HO.out (Kd.C_below (by have := HCL.out; rw [HGL.out.1] at this; exact this) HB.out) (fun _ _ h => h) (fun _ hk => hk.elim) (fun _ _ => trivial) HB.out HB.out.size (by simp) ?_; intro v6 w6 ho hb hg hat; have HO6 := Aside0.mk ho; have HB6 := Aside0.mk hb; clear ho hb hg hat HO HB) | ((with_reducible refine gate_builtin (b := .append) (xs := #[.tmp 30, .tmp 31]) rfl ?_); at_builtin; refine Kd.R_append_rows (Kd.int .i64) (w0 := w3) w3.heap.size rfl (.tmp 30) (.tmp 31) 48 3 (.int .i64 0) 8 rfl Try.underlying48 info3 rfl (by decide) (by decide) v6 lens dist (some ⟨gd, 0, none⟩) 30 cd (fun _ => True) (fun _ => False) rfl (by first | (go_simp; done) | (go_simp; rfl)) (by simpa using HO6.out) (Kd.C_below (by have := HCD.out; rw [HGD.out.1] at this; exact this) HB6.out) (fun _ _ h => h) (fun _ hk => hk.elim) (fun _ _ => trivial) HB6.out HB6.out.size (by rw [HGL.out.1]; decide) ?_; intro v7 w7 ho hb hg hat; have HO7 := Aside0.mk ho; have HB7 := Aside0.mk hb; clear ho hb hg hat HO6 HB6))
  have HO8 : Aside0 (Kd.R (Kd.int .i64) 3 w7 w3.heap.size (fun _ => True) v7 all) := ⟨by
    have := HO7.out
    rw [HALL.out] at this
    exact this⟩
  obtain ⟨ga, ca, hva, hRa, hca⟩ := RI.of HO8.out (by omega)
  rw [hallL] at hva hRa hca
  subst hva
  have HD7 := Aside0.mk (HD3.out.below HB7.out)
  have HRA := Aside0.mk hRa
  have HCA := Aside0.mk hca
  have HLT := Aside0.mk (And.intro (RI.lt HD7.out.rl) (And.intro (RI.lt HD7.out.rdd) (And.intro (RI.lt hRa) HD7.out.fr.size)))
  clear HO7 HO8 hRa hca HD3 HB7 HCL HCD HBR hgl286 hgd30
  have hm19 : ∀ w, (Instr.makeSlice 48 (.int .i64 19) (.int .i64 19)).run Try.prog w = .ok (.slice (some ⟨w.heap.size, 0, none⟩) 19 19) (w.alloc (.cells (Array.replicate 19 (.int .i64 0)) 3)) := fun _ => by kernel_rfl
  go_upto_region 4 with (fail)
  have hb8 := below_alloc (Below.refl w7.heap.size w7) (.cells (Array.replicate 19 (.int .i64 0)) 3)
  have HO8 := Aside0.mk (show RI (w7.alloc (.cells (Array.replicate 19 (.int .i64 0)) 3)) w7.heap.size w7.heap.size 19 19 (List.replicate 19 0) from R_fresh w7 19 (by decide))
  have HD8 := Aside0.mk (HD7.out.below hb8)
  have HA8 := Aside0.mk (HRA.out.below hb8)
  obtain ⟨q, hq⟩ : ∃ q, w7.heap.size = q := ⟨_, rfl⟩
  rw [hq] at HO8 HLT
  rw [hq]
  clear hm19 hb8 HD7 HRA hq
  generalize w7.alloc (.cells (Array.replicate 19 (.int .i64 0)) 3) = w8 at HO8 HD8 HA8 ⊢
  have HI0 : Aside0 (OftI [] (List.replicate 19 (0 : Int)) 0) := ⟨⟨List.length_replicate, fun x hx => by rw [List.eq_of_mem_replicate hx]; decide, fun z hz => by cases hz⟩⟩
  go_wp2_with fail
  go_loopw [36] (fun v36 wr => ∃ (i : Nat) (oft : List Int), v36 = .int .i64 i ∧ i ≤ 316 ∧ Aside0 (DyS W wr B2 g v v l [] A (xs.map toS) gl cl lens gd cd dist) ∧ Aside0 (RI wr w3.heap.size ga 316 ca all) ∧ Aside0 (RI wr q q 19 19 oft) ∧ Aside0 (OftI (all.take i) oft i)) (fun v36 _ => 316 - (intOf v36).toNat)
  case atStart => exact ⟨0, _, rfl, by decide, HD8, HA8, HO8, HI0⟩
  case round =>
    clear HD8 HA8 HO8 HI0
    obtain ⟨i, oft, rfl, hi, HD, HA, HO, HI⟩ := hrel
    by_cases hlt : i < 316
    · have b1 : decide ((i : Int) < 316) = true := decide_eq_true (by omega)
      have p0 : (0 : Int) ≤ (i : Int) := by omega
      have p1 : (i : Int) < 316 := by omega
      obtain ⟨ca1, _⟩ := HA.out.at_ (j := i) hlt
      have hil : i < all.length := by omega
      obtain ⟨x, hxi⟩ : ∃ x : Nat, rd all (i : Int) = x ∧ x ≤ 15 := by
        have h1 := HAR.out all[i] (List.getElem_mem hil)
        rw [rd_get all i hil]
        exact ⟨(all[i]).toNat, by omega, by omega⟩
      have hx15 := hxi.2
      have HTK : Aside0 (all.take (i + 1) = all.take i ++ [(x : Int)]) := ⟨by rw [List.take_succ_eq_append_getElem hil, ← rd_get all i hil, hxi.1]⟩
      rw [hxi.1] at ca1
      obtain ⟨o1, o2⟩ := HO.out.at_ (j := x) (by omega)
      have HR := Aside0.mk (rd_rng HI.out.1 HI.out.2.1 (j := x) (by omega))
      have HI2 : Aside0 (OftI (all.take (i + 1)) (oft.set x (rd oft (x : Int) + 1)) ((i + 1 : Nat) : Int)) := ⟨by
        rw [HTK.out]
        exact HI.out.bump (by omega) (fun z hz => (HAR.out z (List.mem_of_mem_take hz)).1)⟩
      have HO2 := Aside0.mk (HO.out.set x (rd oft (x : Int) + 1))
      have hf := (Fr.refl (fun k => k = q) wr).setCell (p := ⟨q, x, none⟩) (Or.inl rfl) (.int .i64 (rd oft (x : Int) + 1))
      have HD2 := Aside0.mk (HD.out.other HO.out (by have := HLT.out; omega) (by have := HLT.out; omega) (by have := HLT.out; omega) hf)
      have HA2 := Aside0.mk (HA.out.keep hf (by have := HLT.out; omega))
      obtain ⟨y, hy⟩ : ∃ y, rd oft (x : Int) = y := ⟨_, rfl⟩
      rw [hy] at o1 HR HI2 HO2 HD2 HA2
      have hy0 := HR.out.1
      have hy1 : y ≤ 1000 := by have := HR.out.2; omega
      have p2 : (0 : Int) ≤ (x : Int) := by omega
      have p3 : (x : Int) < 19 := by omega
      have HK := Aside0.mk hlt
      clear HD HA HO HI hy hf hxi hil hlt
      go_wp2_with fail
      go_roundw
      case rel => exact ⟨i + 1, _, by go_num, HK.out, HD2, HA2, HO2, HI2⟩
      case measure => simp [intOf]; have := HK.out; omega
    · have hie : i = 316 := by omega
      subst hie
      have HI2 : Aside0 (OftI all oft 316) := ⟨by have := HI.out; rw [List.take_of_length_le (by omega)] at this; exact this⟩
      have b1 : decide (((316 : Nat) : Int) < 316) = false := by decide
      clear hlt hi HI
      have hol := HI2.out.1
      have HW3 := Aside0.mk (whole_ok (m := 7) (l := oft) (W := wr) (c := 19) (by rw [hol]; exact HO.out) ⟨by omega, by omega, by decide, by rw [hol]; decide, fun x hx => by have := HI2.out.2.1 x hx; omega⟩)
      rw [hol] at HW3
      clear hol
      go_wp2_with fail
      refine HW3.out.mono ?_
      rintro e w9 ⟨vf, first, rfl, hG3, hR3, hf3⟩
      obtain ⟨gf, cf, hvf, hRf, hcf⟩ := RI.of hR3 (by have := hG3.1; have := HI2.out.1; omega)
      have hfl : first.length = 19 := by have := hG3.1; have := HI2.out.1; omega
      rw [hfl] at hvf hRf hcf
      subst hvf
      have HRF := Aside0.mk hRf
      have HGF := Aside0.mk (And.intro hfl hG3)
      have HD9 := Aside0.mk (HD.out.other HO.out (by have := HLT.out; omega) (by have := HLT.out; omega) (by have := HLT.out; omega) hf3)
      have HA9 := Aside0.mk (HA.out.keep hf3 (by have := HLT.out; omega))
      have HFS : Aside0 (∀ x ∈ all, okS first x) := ⟨fun x hx => by
        have h1 := HAR.out x hx
        have h2 := HI2.out.2.2 x hx
        obtain ⟨n, rfl⟩ : ∃ n : Nat, x = n := ⟨x.toNat, by omega⟩
        have h3 := hG3.2.2.2 n (by have := HI2.out.1; omega) h2
        exact ⟨by omega, by rw [hfl]; omega, by omega⟩⟩
      clear hG3 hR3 hf3 hRf hcf hfl HW3 HI2 HD HA HO
      have HP := Aside0.mk (HD9.out.bits (by have := HL.out; rw [List.append_nil]; omega) 29 5 (by decide) (by decide))
      go_wp2_with fail
      refine HP.out.mono ?_
      rintro e w10 ⟨rfl, v10, hi, hf, ha⟩
      have HD10 := Aside0.mk (HD9.out.step hi hf ha)
      have HA10 := Aside0.mk (HA9.out.keepW HD9.out.iw hf)
      have HRF10 := Aside0.mk (HRF.out.keepW HD9.out.iw hf)
      clear hi hf ha HP HD9 HA9 HRF
      have HP := Aside0.mk (HD10.out.bits (by have := HL.out; rw [List.nil_append, List.length_append, bitsOf_length]; omega) 29 5 (by decide) (by decide))
      go_wp2_with fail
      refine HP.out.mono ?_
      rintro e w11 ⟨rfl, v11, hi, hf, ha⟩
      have HD11 := Aside0.mk (HD10.out.step hi hf ha)
      have HA11 := Aside0.mk (HA10.out.keepW HD10.out.iw hf)
      have HRF11 := Aside0.mk (HRF10.out.keepW HD10.out.iw hf)
      clear hi hf ha HP HD10 HA10 HRF10
      have HP := Aside0.mk (HD11.out.bits (by have := HL.out; rw [List.nil_append, List.length_append, List.length_append, bitsOf_length]; omega) 15 4 (by decide) (by decide))
      go_wp2_with fail
      refine HP.out.mono ?_
      rintro e w12 ⟨rfl, v12, hi, hf, ha⟩
      have HD12 := Aside0.mk (HD11.out.step hi hf ha)
      have HA12 := Aside0.mk (HA11.out.keepW HD11.out.iw hf)
      have HRF12 := Aside0.mk (HRF11.out.keepW HD11.out.iw hf)
      rw [List.nil_append] at HD12
      clear hi hf ha HP HD11 HA11 HRF11
      go_wp2_with fail
      have hb13 := below_alloc (Below.refl w12.heap.size w12) orderO
      have HO13 := Aside0.mk (RI_order w12)
      have HD13 := Aside0.mk (HD12.out.below hb13)
      have HA13 := Aside0.mk (HA12.out.below hb13)
      have HRF13 := Aside0.mk (HRF12.out.below hb13)
      unfold orderO at HO13 HD13 HA13 HRF13
      obtain ⟨qo, hqo⟩ : ∃ qo, w12.heap.size = qo := ⟨_, rfl⟩
      rw [hqo] at HO13
      rw [hqo]
      clear hb13 HD12 HA12 HRF12 hqo
      generalize w12.alloc (.cells #[.int .i64 16, .int .i64 17, .int .i64 18, .int .i64 0, .int .i64 8, .int .i64 7, .int .i64 9, .int .i64 6, .int .i64 10, .int .i64 5, .int .i64 11, .int .i64 4, .int .i64 12, .int .i64 3, .int .i64 13, .int .i64 2, .int .i64 14, .int .i64 1, .int .i64 15] 3) = w13 at HO13 HD13 HA13 HRF13 ⊢
      obtain ⟨pre0, hpre0⟩ : ∃ p, bitsOf 29 5 ++ bitsOf 29 5 ++ bitsOf 15 4 = p := ⟨_, rfl⟩
      have hp0l : pre0.length = 14 := by rw [← hpre0]; simp only [List.length_append, bitsOf_length]
      rw [hpre0] at HD13
      have HP0 := Aside0.mk (And.intro hpre0 hp0l)
      have HD13' : Aside0 (DyS W w13 B2 g v v12 l (pre0 ++ firstB first (orderZ.take 0)) A (xs.map toS) gl cl lens gd cd dist) := ⟨by
        have := HD13.out
        rw [List.take_zero]
        show DyS W w13 B2 g v v12 l (pre0 ++ []) A (xs.map toS) gl cl lens gd cd dist
        rw [List.append_nil]
        exact this⟩
      clear HD13 hpre0 hp0l
      go_loopw [63] (fun v63 wr => ∃ (i : Nat) (v1 : Value), v63 = .int .i64 i ∧ i ≤ 19 ∧ Aside0 (DyS W wr B2 g v v1 l (pre0 ++ firstB first (orderZ.take i)) A (xs.map toS) gl cl lens gd cd dist) ∧ Aside0 (RI wr w3.heap.size ga 316 ca all) ∧ Aside0 (∃ B, RI wr B gf 19 cf first) ∧ Aside0 (∃ B, RI wr B qo 19 19 orderZ)) (fun v63 _ => 19 - (intOf v63).toNat)
      case atStart => exact ⟨0, v12, rfl, by decide, HD13', HA13, ⟨_, HRF13.out⟩, ⟨_, HO13.out⟩⟩
      case round =>
        clear HD13' HA13 HRF13 HO13
        obtain ⟨i, v1, rfl, hi, HD, HA, HRF, HO⟩ := hrel
        by_cases hlt : i < 19
        · have b1 : decide ((i : Int) < 19) = true := decide_eq_true (by omega)
          have p0 : (0 : Int) ≤ (i : Int) := by omega
          have p1 : (i : Int) < 19 := by omega
          obtain ⟨Bo, hro⟩ := HO.out
          obtain ⟨Bf, hrf⟩ := HRF.out
          have c1 := (hro.at_ (j := i) hlt).1
          have hor := order_rng i hlt
          obtain ⟨x, hx⟩ : ∃ x : Nat, rd orderZ (i : Int) = x := ⟨(rd orderZ (i : Int)).toNat, by omega⟩
          rw [hx] at c1 hor
          have hx19 : x < 19 := by omega
          have c2 := (hrf.at_ (j := x) hx19).1
          have h7 := HGF.out.2.2.2.1 (rd first (x : Int)) (by rw [rd_get first x (by rw [HGF.out.1]; exact hx19)]; exact List.getElem_mem _)
          obtain ⟨y, hy⟩ : ∃ y : Nat, rd first (x : Int) = y := ⟨(rd first (x : Int)).toNat, by omega⟩
          have HTK : Aside0 (firstB first (orderZ.take (i + 1)) = firstB first (orderZ.take i) ++ bitsOf y 3) := ⟨by
            rw [List.take_succ_eq_append_getElem (by exact hlt), firstB_snoc, ← rd_get orderZ i hlt, hx, hy, Int.toNat_natCast]⟩
          rw [hy] at c2 h7
          have HP := Aside0.mk (HD.out.bits (by have := HL.out; have h1 := HP0.out.2; have h2 := firstB_len first (orderZ.take i); have h3 : (orderZ.take i).length ≤ 19 := List.length_take_le' _ _; rw [List.length_append, List.length_append]; omega) y 3 (by decide) (by omega))
          have p2 : (0 : Int) ≤ (x : Int) := by omega
          have p3 : (x : Int) < 19 := by omega
          have HK := Aside0.mk hlt
          clear hx hy hlt hi h7 hor hro hrf
          go_wp2_with fail
          refine HP.out.mono ?_
          rintro e w14 ⟨rfl, v14, hi, hf, ha⟩
          have HD2 := Aside0.mk (HD.out.step hi hf ha)
          rw [List.append_assoc, ← HTK.out] at HD2
          have HA2 := Aside0.mk (HA.out.keepW HD.out.iw hf)
          have HRF2 : Aside0 (∃ B, RI w14 B gf 19 cf first) := ⟨by obtain ⟨B, h⟩ := HRF.out; exact ⟨B, h.keepW HD.out.iw hf⟩⟩
          have HO2 : Aside0 (∃ B, RI w14 B qo 19 19 orderZ) := ⟨by obtain ⟨B, h⟩ := HO.out; exact ⟨B, h.keepW HD.out.iw hf⟩⟩
          clear hi hf ha HP HD HA HRF HO c1 c2
          go_wp2_with fail
          go_roundw
          case rel => exact ⟨i + 1, v14, by go_num, HK.out, HD2, HA2, HRF2, HO2⟩
          case measure => simp [intOf]; have := HK.out; omega
        · have hie : i = 19 := by omega
          subst hie
          have b1 : decide (((19 : Nat) : Int) < 19) = false := by decide
          have HD2 : Aside0 (DyS W wr B2 g v v1 l (pre0 ++ firstB first orderZ) A (xs.map toS) gl cl lens gd cd dist) := HD
          obtain ⟨Bf, hrf⟩ := HRF.out
          have hok := whole_okL HGF.out.2.2.1
          have HN := Aside0.mk (newTable_ok (some ⟨gf, 0, none⟩) cf first wr (Kd.R_reads' hrf).2.2 (by have := (Kd.R_reads' hrf).2.1; have := HGF.out.1; omega))
          rw [HGF.out.1] at HN
          have HOK := Aside0.mk hok
          clear hlt hi HD HRF HO hrf hok
          go_wp2_with fail
          refine HN.out.mono ?_
          rintro e w15 ⟨hy, _, hb15⟩
          obtain ⟨tf, lvf, wvf, svf, rfl, htf⟩ := hy HOK.out
          have HT15 := Aside0.mk htf
          have HD15 := Aside0.mk (HD2.out.below hb15)
          have HA15 := Aside0.mk (HA.out.below hb15)
          clear hy hb15 htf HN HD2 HA
          obtain ⟨pre1, hpre1⟩ : ∃ p, pre0 ++ firstB first orderZ = p := ⟨_, rfl⟩
          have hp1l : pre1.length = 71 := by rw [← hpre1, List.length_append, firstB_len, HP0.out.2]; rfl
          rw [hpre1] at HD15
          have HP1 := Aside0.mk (And.intro hpre1 hp1l)
          have HD15' : Aside0 (DyS W w15 B2 g v v1 l (pre1 ++ wdsB first (all.take 0)) A (xs.map toS) gl cl lens gd cd dist) := ⟨by
            have := HD15.out
            rw [List.take_zero]
            show DyS W w15 B2 g v v1 l (pre1 ++ []) A (xs.map toS) gl cl lens gd cd dist
            rw [List.append_nil]
            exact this⟩
          clear HD15 hpre1 hp1l
          go_wp2_with fail
          go_loopw [81] (fun v81 wr => ∃ (i : Nat) (v1 : Value), v81 = .int .i64 i ∧ i ≤ 316 ∧ Aside0 (DyS W wr B2 g v v1 l (pre1 ++ wdsB first (all.take i)) A (xs.map toS) gl cl lens gd cd dist) ∧ Aside0 (RI wr w3.heap.size ga 316 ca all) ∧ Aside0 (∃ B, IsTab wr B tf first lvf wvf svf)) (fun v81 _ => 316 - (intOf v81).toNat)
          case atStart => exact ⟨0, v1, rfl, by decide, HD15', HA15, ⟨_, HT15.out⟩⟩
          case round =>
            clear HD15' HA15 HT15
            obtain ⟨i, v1, rfl, hi, HD, HA, HT⟩ := hrel
            by_cases hlt : i < 316
            · have b1 : decide ((i : Int) < 316) = true := decide_eq_true (by omega)
              have p0 : (0 : Int) ≤ (i : Int) := by omega
              have p1 : (i : Int) < 316 := by omega
              have c1 := (HA.out.at_ (j := i) hlt).1
              have hil : i < all.length := by omega
              have hok := HFS.out all[i] (List.getElem_mem hil)
              have HTK : Aside0 (wdsB first (all.take (i + 1)) = wdsB first (all.take i) ++ wd first (rd all (i : Int))) := ⟨by
                rw [List.take_succ_eq_append_getElem hil, wdsB_snoc, rd_get all i hil]⟩
              rw [← rd_get all i hil] at hok
              obtain ⟨x, hx⟩ : ∃ x, rd all (i : Int) = x := ⟨_, rfl⟩
              rw [hx] at c1 hok HTK
              obtain ⟨Bt, ht⟩ := HT.out
              have HP := Aside0.mk (putD ht HOK.out HD.out.iw (by have := HL.out; have h1 := HP1.out.2; have h2 := wdsB_len HOK.out (all.take i) (fun z hz => HFS.out z (List.mem_of_mem_take hz)); have h3 : (all.take i).length ≤ 316 := Nat.le_trans (List.length_take_le _ _) (by omega); rw [List.length_append, List.length_append]; omega) (Nat.le_trans HD.out.hB HD.out.fr.size) x hok)
              have HK := Aside0.mk hlt
              clear hx hlt hi ht hil hok
              go_wp2_with fail
              refine HP.out.mono ?_
              rintro e w16 ⟨rfl, v16, hi, hf, ha⟩
              have HD2 := Aside0.mk (HD.out.step hi hf ha)
              rw [List.append_assoc, ← HTK.out] at HD2
              have HA2 := Aside0.mk (HA.out.keepW HD.out.iw hf)
              have HT2 : Aside0 (∃ B, IsTab w16 B tf first lvf wvf svf) := ⟨by obtain ⟨B, h⟩ := HT.out; exact ⟨B, h.keepW HD.out.iw hf⟩⟩
              clear hi hf ha HP HD HA HT c1
              go_wp2_with fail
              go_roundw
              case rel => exact ⟨i + 1, v16, by go_num, HK.out, HD2, HA2, HT2⟩
              case measure => simp [intOf]; have := HK.out; omega
            · have hie : i = 316 := by omega
              subst hie
              have b1 : decide (((316 : Nat) : Int) < 316) = false := by decide
              have HD2 : Aside0 (DyS W wr B2 g v v1 l (pre1 ++ wdsB first all) A (xs.map toS) gl cl lens gd cd dist) := ⟨by have := HD.out; rw [List.take_of_length_le (by omega)] at this; exact this⟩
              have HT1 := Aside0.mk (tables_ok (some ⟨gl, 0, none⟩) cl lens (some ⟨gd, 0, none⟩) cd dist wr (Kd.R_reads' HD2.out.rl).2.2 (by have := HGL.out; omega) (Kd.R_reads' HD2.out.rdd).2.2 (by have := HGD.out; omega) (whole_okL HG1.out.2.1) (whole_okL HG2.out.2.1))
              rw [HGL.out.1, HGD.out.1] at HT1
              clear hlt hi HD HA HT
              go_wp2_with fail
              refine HT1.out.mono ?_
              rintro e w17 ⟨t1, lv1, wv1, sv1, t2, lv2, wv2, sv2, rfl, ht1, ht2, hb17⟩
              have HD17 := Aside0.mk (HD2.out.below hb17)
              have HLL : Aside0 ((l ++ (pre1 ++ wdsB first all)).length + 48 * xs.length ≤ 10000000000) := ⟨by
                have := HL.out
                have h1 := HP1.out.2
                have h2 := wdsB_len HOK.out all HFS.out
                rw [List.length_append, List.length_append]
                omega⟩
              have HCP := Aside0.mk (cput_ok ht1 ht2 (whole_okL HG1.out.2.1) (whole_okL HG2.out.2.1) HD17.out.iw (Nat.le_trans HD17.out.hB HD17.out.fr.size) A c xs HD17.out.ro HCC.out HSI.out.1 HSI.out.2 HLL.out)
              clear ht1 ht2 hb17 HT1 HD2
              go_wp2_with fail
              refine HCP.out.mono ?_
              rintro e w18 ⟨rfl, v18, hi, hf, ha⟩
              have HD18 := Aside0.mk (HD17.out.step hi hf ha)
              clear hi hf ha HCP HD17
              go_wp2_with fail
              refine bodyPost_end (results_none rfl _ _ _) rfl ⟨_, lens, dist, first, ⟨HGL.out.1, HGD.out.1, HGF.out.1, HG1.out.2.1, HG2.out.2.1, HGF.out.2.2.1, HGF.out.2.2.2.1, ?_, HSI.out.1, HSI.out.2, ?_, ?_⟩, rfl, v18, HD18.out.iw, HD18.out.fr, HD18.out.at_⟩
              · rw [HALL.out]; exact HAR.out
              · rw [HALL.out]; exact HFS.out
              · rw [HALL.out, HP0.out.1, HP1.out.1]
end Go.Proofs.Ytaghmhcccighgaa.DF
end
