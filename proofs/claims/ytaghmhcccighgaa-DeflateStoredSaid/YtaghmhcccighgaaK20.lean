/- Parts: HMat3 HSyl HDef PRdh PRdi -/
import Derived.Test.YtaghmhcccighgaaK19
import Derived.Deep.QuietTactic
import Derived.BigQuiet
import Derived.Test.YtaghmhcccighgaaK12
import Derived.RegionTactic
import Derived.Test.YtaghmhcccighgaaK11
set_option linter.unusedVariables false
set_option linter.unusedSimpArgs false
section
/- The matcher's best; walked. -/
namespace Go.Proofs.Ytaghmhcccighgaa.DF
open Go.RowKit Go.Proofs.YtaghmhcccighgaaW.PrintWords Go.Proofs.YtaghmhcccighgaaW.PrintLast Go.Proofs.YtaghmhcccighgaaW.PrintMore Go.Proofs.Ytaghmhcccighgaa.HW Go.Proofs.Ytaghmhcccighgaa.MB
attribute [local go_sem] max2_int min2_int max_two min_two max_three min_three max_four min_four   -- for this text's walks alone
/-- best's state. -/
structure BeS (W w : World) (B M m : Nat) (pv : Value) (s : ByteArray) (a : Nat) (o : Nat × Nat) : Prop where
  im : IsM w B M m pv s a
  rc : w.heap[W.heap.size]? = some (.cells #[.int .i64 0, .int .i64 0] 60 (0, 0))
  oc : w.heap[W.heap.size + 1]? = some (.cells #[.int .i64 (o.1 : Int), .int .i64 (o.2 : Int)] 60 (0, 0))
  be : Below W.heap.size W w
  lt : M < W.heap.size ∧ m < W.heap.size ∧ ∀ k, pv.ownBlock = some k → k < W.heap.size
section
variable {W w w' : World} {B M m : Nat} {pv : Value} {s : ByteArray} {a : Nat} {o : Nat × Nat}
theorem IsM.plt (h : IsM W B M m pv s a) (k : Nat) (hk : pv.ownBlock = some k) : k < W.heap.size := by
  obtain ⟨ps, hr, _⟩ := h.ro
  exact Kd.R_lt hr k hk
theorem BeS.start (h : IsM W B M m pv s a) : BeS W ((W.alloc (.cells #[.int .i64 0, .int .i64 0] 60)).alloc (.cells #[.int .i64 0, .int .i64 0] 60)) B M m pv s a (0, 0) := by
  have h1 := below_alloc (Below.refl W.heap.size W) (.cells #[.int .i64 0, .int .i64 0] 60)
  have h2 := below_alloc h1 (.cells #[.int .i64 0, .int .i64 0] 60)
  have e : (W.alloc (.cells #[.int .i64 0, .int .i64 0] 60)).heap.size = W.heap.size + 1 := by simp
  have n1 := heap_alloc_new W (.cells #[.int .i64 0, .int .i64 0] 60)
  have n2 := heap_alloc_new (W.alloc (.cells #[.int .i64 0, .int .i64 0] 60)) (.cells #[.int .i64 0, .int .i64 0] 60)
  rw [e] at n2
  exact ⟨h.below h2, ((below_alloc (Below.refl _ _) _).block _ (by rw [e]; omega)).trans n1, n2, h2, h.lt, h.mlt, h.plt⟩
theorem BeS.below (h : BeS W w B M m pv s a o) (hb : Below w.heap.size w w') : BeS W w' B M m pv s a o :=
  ⟨h.im.below hb, (hb.block _ (blk_lt h.rc)).trans h.rc, (hb.block _ (blk_lt h.oc)).trans h.oc, h.be.trans (hb.mono h.be.size), h.lt⟩
theorem BeS.put (h : BeS W w B M m pv s a o) {x y : Nat} (hb : w'.heap[W.heap.size + 1]? = some (.cells #[.int .i64 (x : Int), .int .i64 (y : Int)] 60 (0, 0))) (hf : Fr (fun k => k = W.heap.size + 1) w w') : BeS W w' B M m pv s a (x, y) :=
  ⟨h.im.keep hf (by have := h.lt.1; omega) (by have := h.lt.2.1; omega) (fun k hk => by have := h.lt.2.2 k hk; omega), hf.blk h.rc (by omega), hb, h.be.trans (hf.below h.be.size (fun k hk => by omega)), h.lt⟩
theorem IsM.prev {g c : Nat} (h : IsM W B M m (.slice (some ⟨g, 0, none⟩) s.size c) s a) {q : Nat} (hq : q < a) (ha : q < s.size) : W.cell? ⟨g, q, none⟩ = some (.int .i64 (prevOf s q)) := by
  obtain ⟨ps, hr, hn, hp⟩ := h.ro
  have := (Kd.R_celln 0 hr (q : Int) (by omega) (by omega)).1
  rw [Int.toNat_natCast] at this
  rw [← hp q hq]
  exact this
theorem BeS.c1 (h : BeS W w B M m pv s a o) : w.cell? ⟨W.heap.size + 1, 1, none⟩ = some (.int .i64 (o.2 : Int)) := (blk_cell h.oc 1).trans rfl
theorem BeS.c0 (h : BeS W w B M m pv s a o) : w.cell? ⟨W.heap.size + 1, 0, none⟩ = some (.int .i64 (o.1 : Int)) := (blk_cell h.oc 0).trans rfl
end
/-- What best's loop keeps. -/
def RelB (s : ByteArray) (a : Nat) (t : Bool) (k : Nat) (p : Int) (o : Nat × Nat) : Prop :=
  (t = false ∧ best s a = o ∧ o.2 ≤ 258) ∨ (t = true ∧ -1 ≤ p ∧ p < a ∧ bestG s a (32 - k) p o = best s a ∧ o.1 ≤ a ∧ o.2 ≤ 258)
theorem RelB.start {s : ByteArray} {a : Nat} (h3 : a + 3 ≤ s.size) : RelB s a ((lastK s (k3 s a) a).map (fun j : Nat => (j : Int))).isSome 0 (((lastK s (k3 s a) a).map (fun j : Nat => (j : Int))).getD 0) (0, 0) := by
  have hb : best s a = bestG s a 32 (ofO (lastK s (k3 s a) a)) (0, 0) := if_pos h3
  cases hl : lastK s (k3 s a) a with
  | none =>
    rw [hl] at hb
    exact Or.inl ⟨rfl, hb, Nat.zero_le _⟩
  | some j =>
    have := (lastK_lt hl).1
    rw [hl] at hb
    exact Or.inr ⟨rfl, by show (-1 : Int) ≤ (j : Int); omega, by show (j : Int) < a; omega, hb.symm, Nat.zero_le _, Nat.zero_le _⟩
theorem RelB.step {s : ByteArray} {a k q : Nat} {o : Nat × Nat} (h : RelB s a true k (q : Int) o) (hk : k < 32) (h1 : (a : Int) - (q : Int) ≤ 32768) (h2 : o.2 < 64) : RelB s a true (k + 1) (prevOf s q) (if o.2 < mat s q a then (a - q, mat s q a) else o) := by
  rcases h with h | ⟨_, h3, h4, h5, h6, h7⟩
  · exact absurd h.1 (by decide)
  · refine Or.inr ⟨rfl, (prevOf_lt s q).2, by have := (prevOf_lt s q).1; omega, ?_, ?_, ?_⟩
    · rw [← h5, show 32 - k = (32 - (k + 1)) + 1 by omega]
      show _ = if 0 ≤ (q : Int) ∧ (a : Int) - (q : Int) ≤ 32768 ∧ o.2 < 64 then _ else _
      rw [if_pos (show 0 ≤ (q : Int) ∧ (a : Int) - (q : Int) ≤ 32768 ∧ o.2 < 64 from ⟨by omega, h1, h2⟩), Int.toNat_natCast]
    · split
      · show a - q ≤ a; omega
      · exact h6
    · split
      · exact (mat_spec s q a).1
      · exact h7
theorem RelB.end_ {s : ByteArray} {a k : Nat} {p : Int} {o : Nat × Nat} {t : Bool} (h : RelB s a t k p o) (hc : t = false ∨ ¬ (0 ≤ p ∧ (a : Int) - p ≤ 32768 ∧ k < 32 ∧ o.2 < 64)) : best s a = o := by
  rcases h with h | ⟨h1, _, _, h5, _⟩
  · exact h.2.1
  · rcases hc with hc | hc
    · rw [h1] at hc; cases hc
    · rw [← h5]
      by_cases hk : k < 32
      · rw [show 32 - k = (32 - (k + 1)) + 1 by omega]
        exact if_neg (fun e => hc ⟨e.1, e.2.1, hk, e.2.2⟩)
      · rw [show 32 - k = 0 by omega]
        rfl
theorem sym_one (x y : Int) : ∀ q ∈ (#[Value.int .i64 x, .int .i64 y] : Array Value).toList, q.oneCell' = true := by
  intro q hq
  rcases List.mem_cons.1 hq with rfl | hq
  · rfl
  · rcases List.mem_cons.1 hq with rfl | hq
    · rfl
    · cases hq
set_option maxRecDepth 100000 in
set_option maxHeartbeats 32000000 in
theorem best_okW {W : World} {B M m : Nat} {pv : Value} {s : ByteArray} {a : Nat} (h : IsM W B M m pv s a) (ha : a ≤ s.size) :
    Calls Try.prog 31 #[.pointer (some ⟨M, 0, none⟩), .int .i64 a] W fun e w' => e = .returned (.agg #[.int .i64 (best s a).1, .int .i64 (best s a).2]) ∧ Below W.heap.size W w' := by
  have hsz := h.sz
  have HB0 := Aside0.mk (BeS.start h)
  have p4 : (a : Int) ≤ 1000000000000000 := by omega
  by_cases h3 : a + 3 ≤ s.size
  · have b1 : decide ((s.size : Int) < (a : Int) + 3) = false := decide_eq_false (by omega)
    obtain ⟨ps0, hr0, hn0, _⟩ := h.ro
    obtain ⟨g, c, hpv⟩ := HF.R_first hr0 (by omega)
    rw [hn0] at hpv
    subst hpv
    clear hr0 hn0
    have H3 := Aside0.mk h3
    obtain ⟨⟨k0, k1, k2⟩, hk⟩ : ∃ k : K3, k3 s a = k := ⟨_, rfl⟩
    have hko : KOk (k0, k1, k2) := hk ▸ k3_ok s a
    have HK := Aside0.mk hk
    have HKO := Aside0.mk hko
    clear h3 h hk hko
    go_enter Try.func31, Try.ntmps31
    go_upto_region 2 with (fail)
    generalize (W.alloc (.cells #[.int .i64 0, .int .i64 0] 60)).alloc (.cells #[.int .i64 0, .int .i64 0] 60) = w1 at HB0 ⊢
    have c0 := HB0.out.im.c0
    have HKEY : Aside0 (∀ w', Below w1.heap.size w1 w' → Calls Try.prog 43 #[.pointer (some ⟨M, 0, none⟩), .int .i64 a] w' fun e w2 => e = .returned (.agg #[.int .u8 k0, .int .u8 k1, .int .u8 k2]) ∧ Below w'.heap.size w' w2) := ⟨fun w' hb => by
      have hN := HB0.out.im.below hb
      have := key_ok M s a w' hN.c0 hN.lt H3.out hN.sz
      rw [HK.out] at this
      exact this⟩
    have HR0 := Aside0.mk (RelB.start H3.out)
    obtain ⟨p, hp⟩ : ∃ p, ((lastK s (k3 s a) a).map (fun j : Nat => (j : Int))).getD 0 = p := ⟨_, rfl⟩
    obtain ⟨t, ht⟩ : ∃ t, ((lastK s (k3 s a) a).map (fun j : Nat => (j : Int))).isSome = t := ⟨_, rfl⟩
    rw [hp, ht] at HR0
    have HSS : Aside0 (∀ w', Below w1.heap.size w1 w' → Below w1.heap.size w1 w' ∧ w'.cell? ⟨M, 1, none⟩ = some (.map (some m)) ∧ (Instr.lookup 56 (.map (some m)) (.agg #[.int .u8 k0, .int .u8 k1, .int .u8 k2]) true).run Try.prog w' = .ok (.tuple #[.int .i64 p, .bool t]) w') := ⟨fun w' hb => by
      have hN := HB0.out.im.below hb
      obtain ⟨l, hm, hl⟩ := hN.mp
      refine ⟨hb, hN.c1, ?_⟩
      rw [run_lookup_ok hm HKO.out, hl, ← HK.out, hp, ht]⟩
    clear hp ht
    go_wp2_with fail
    have b1 : Below w1.heap.size w1 w1.drew := below_drew (Below.refl _ _)
    go_region_held3 (fun w' => Below w1.heap.size w1 w' ∧ w'.cell? ⟨M, 1, none⟩ = some (.map (some m)) ∧ (Instr.lookup 56 (.map (some m)) (.agg #[.int .u8 k0, .int .u8 k1, .int .u8 k2]) true).run Try.prog w' = .ok (.tuple #[.int .i64 p, .bool t]) w') ((exact HSS.out _ (by assumption))) ((first | (go_at_call 43; refine (HKEY.out _ (by assumption)).mono ?_; rintro e w2 ⟨rfl, hb2⟩; have b2 := b1.trans (hb2.mono b1.size); clear hb2)))
    have HB2 := Aside0.mk (HB0.out.below b2)
    clear HB0 b1 b2 HSS HKEY c0
    go_wp2_with fail
    go_loopw [6, 8] (fun v6 v8 wr => ∃ (p : Int) (k : Nat) (o : Nat × Nat), v6 = .int .i64 p ∧ v8 = .int .i64 k ∧ k ≤ 32 ∧ Aside0 (BeS W wr B M m (.slice (some ⟨g, 0, none⟩) s.size c) s a o) ∧ Aside0 (RelB s a t k p o)) (fun _ v8 _ => 32 - (intOf v8).toNat)
    case atStart => exact ⟨p, 0, (0, 0), rfl, rfl, by decide, HB2, HR0⟩
    case round =>
      clear HB2 HR0
      obtain ⟨p, k, o, rfl, rfl, hk, HB, HR⟩ := hrel
      have oc := HB.out.c1
      by_cases hc : t = true ∧ 0 ≤ p ∧ (a : Int) - p ≤ 32768 ∧ k < 32 ∧ o.2 < 64
      · obtain ⟨rfl, h0, h1, h2, h4⟩ := hc
        obtain ⟨q, rfl⟩ : ∃ q : Nat, p = q := ⟨p.toNat, by omega⟩
        have hqa : q < a := by
          rcases HR.out with h | h
          · exact absurd h.1 (by decide)
          · omega
        have HR2 := Aside0.mk (HR.out.step h2 h1 h4)
        have e1 : (0 : Int) ≤ (q : Int) := by omega
        have e2 : (k : Int) < 32 := by omega
        have e3 : (o.2 : Int) < 64 := by omega
        have HKK := Aside0.mk h2
        have HQA := Aside0.mk hqa
        clear h0 h2 h4 hk HR
        go_wp2_with fail
        obtain ⟨wo, hwo⟩ : ∃ wo : World, wo = wr := ⟨_, rfl⟩
        go_loopw [9] (fun v9 w3 => ∃ n : Nat, v9 = .int .i64 n ∧ n ≤ 258 ∧ Aside0 (matG s q a (258 - n) n = mat s q a) ∧ Aside0 (BeS W w3 B M m (.slice (some ⟨g, 0, none⟩) s.size c) s a o)) (fun v9 _ => 258 - (intOf v9).toNat)
        case atStart => exact ⟨0, rfl, by decide, ⟨rfl⟩, HB⟩
        case round =>
          clear HB oc
          obtain ⟨n, rfl, hn, HM, HB⟩ := hrel
          have c0 := HB.out.im.c0
          have oc := HB.out.c1
          have oz := HB.out.c0
          have hnn : (n : Int) ≤ 258 := by omega
          have s1 : IntKind.i64.wrap ((a : Int) + (n : Int)) = (a : Int) + n := IntWalk.i64_in _ (by omega)
          have s2 : IntKind.i64.wrap ((q : Int) + (n : Int)) = (q : Int) + n := IntWalk.i64_in _ (by omega)
          have t1 : (0 : Int) ≤ (a : Int) + n := by omega
          have t2 : (0 : Int) ≤ (q : Int) + n := by omega
          have t3 : ((a : Int) + (n : Int)).toNat = a + n := by omega
          have t4 : ((q : Int) + (n : Int)).toNat = q + n := by omega
          by_cases gg : n < 258 ∧ a + n < s.size ∧ bt s ((q : Int) + n) = bt s ((a : Int) + n)
          · obtain ⟨g1, g2, g3⟩ := gg
            have d1 : decide ((n : Int) < 258) = true := decide_eq_true (by omega)
            have d1' : (n : Int) < 258 := by omega
            have d2 : decide ((a : Int) + (n : Int) < (s.size : Int)) = true := decide_eq_true (by omega)
            have t5 : (a : Int) + (n : Int) < (s.size : Int) := by omega
            have t6 : (q : Int) + (n : Int) < (s.size : Int) := by omega
            have h7 : q + n < s.size := by omega
            have e5 := bt_in s (a + n) g2
            have e6 := bt_in s (q + n) h7
            rw [show ((a + n : Nat) : Int) = (a : Int) + n by omega] at e5
            rw [show ((q + n : Nat) : Int) = (q : Int) + n by omega] at e6
            have d3 : ((s[q + n].toNat : Int) == (s[a + n].toNat : Int)) = true := by rw [← e5, ← e6]; simpa using g3
            have HM2 : Aside0 (matG s q a (258 - (n + 1)) (n + 1) = mat s q a) := ⟨by
              rw [← HM.out, show 258 - n = (258 - (n + 1)) + 1 by omega]
              exact (matG_go s q a n _ ⟨g1, g2, g3⟩).symm⟩
            have HG := Aside0.mk g1
            clear HM g3 e5 e6 g1
            go_wp2_with fail
            go_quiet (fail)
            go_wp2_with fail
            go_roundw
            case rel => exact ⟨n + 1, by go_num, HG.out, HM2, ⟨HB.out.below (((Fr.refl (fun _ => False) _).drewN _).below (Nat.le_refl _) (fun _ h => h.elim))⟩⟩
            case measure => simp [intOf]; have := HG.out; omega
          · have HMN : Aside0 (mat s q a = n) := ⟨by rw [← HM.out]; exact matG_end s q a n gg _⟩
            by_cases g1 : n < 258
            rotate_left
            focus
              have d1 : decide ((n : Int) < 258) = false := decide_eq_false (by omega)
              clear gg
              go_wp2_with fail
              go_quiet (fail)
            rotate_left
            have d1 : decide ((n : Int) < 258) = true := decide_eq_true (by omega)
            have d1' : (n : Int) < 258 := by omega
            by_cases g2 : a + n < s.size
            rotate_left
            focus
              have d2 : decide ((a : Int) + (n : Int) < (s.size : Int)) = false := decide_eq_false (by omega)
              clear gg
              go_wp2_with fail
              go_quiet (fail)
            rotate_left 2
            focus
              have d2 : decide ((a : Int) + (n : Int) < (s.size : Int)) = true := decide_eq_true (by omega)
              have t5 : (a : Int) + (n : Int) < (s.size : Int) := by omega
              have t6 : (q : Int) + (n : Int) < (s.size : Int) := by omega
              have h7 : q + n < s.size := by omega
              have e5 := bt_in s (a + n) g2
              have e6 := bt_in s (q + n) h7
              rw [show ((a + n : Nat) : Int) = (a : Int) + n by omega] at e5
              rw [show ((q + n : Nat) : Int) = (q : Int) + n by omega] at e6
              have d3 : ((s[q + n].toNat : Int) == (s[a + n].toNat : Int)) = false := by
                rw [← e5, ← e6]
                cases hb : bt s ((q : Int) + n) == bt s ((a : Int) + n) with
                | false => rfl
                | true => exact absurd ⟨g1, g2, by simpa using hb⟩ gg
              clear gg e5 e6
              go_wp2_with fail
              go_quiet (fail)
            all_goals
              replace HB := Aside0.mk (HB.out.below (((Fr.refl (fun _ => False) wr).drewN nq).below (Nat.le_refl _) (fun _ h => h.elim)))
              clear c0 oc oz s1 s2
              generalize wr.drewN nq = wz at HB ⊢
              have oc := HB.out.c1
              have pc := HB.out.im.prev HQA.out (by omega)
              have c2 := HB.out.im.c2
              have HR3 := HR2
              rw [HMN.out] at HR3
              obtain ⟨p', hp'⟩ : ∃ p', prevOf s q = p' := ⟨_, rfl⟩
              have hp1 := prevOf_lt s q
              rw [hp'] at HR3 pc hp1
              have HPP := Aside0.mk hp'
              clear hp' HR2
              have e4 : (q : Int) < (a : Int) := by omega
              have e8 : (q : Int) < (s.size : Int) := by omega
              have HP1 := Aside0.mk hp1
              clear hp1
              by_cases hn2 : o.2 < n
              · have d5 : decide ((o.2 : Int) < (n : Int)) = true := decide_eq_true (by omega)
                have d6 : decide (o.2 < n) = true := decide_eq_true hn2
                rw [if_pos hn2] at HR3
                obtain ⟨f, hf⟩ : ∃ f : Nat, (a : Int) - (q : Int) = (f : Int) ∧ f = a - q := ⟨a - q, by omega, rfl⟩
                have hf1 := hf.1
                have HF := Aside0.mk hf.2
                clear hf
                go_wp2_with (((with_reducible refine gate_store (t := 60) (p := 5) (v := .tmp 94) rfl ?_); go_must (refine store_all rfl rfl rfl (W.heap.size + 1) #[.int .i64 (o.1 : Int), .int .i64 (o.2 : Int)] #[.int .i64 (f : Int), .int .i64 (n : Int)] 60 (by rfl) (by rfl) HB.out.oc rfl (by kernel_rfl) (sym_one _ _) ?_); intro w9 hr1 hf6; have HB9 := Aside0.mk (HB.out.put hr1 hf6); have c29 := HB9.out.im.c2; have pc9 := HB9.out.im.prev HQA.out (by omega); rw [HPP.out] at pc9; clear hr1 hf6))
                go_roundw
                case rel => exact ⟨p', k + 1, (f, n), rfl, by go_num, HKK.out, HB9, ⟨by have := HR3.out; rw [HF.out]; exact this⟩⟩
                case measure => simp [intOf]; have := HKK.out; omega
              · first
                | (exfalso; omega)
                | (have d5 : decide ((o.2 : Int) < (n : Int)) = false := decide_eq_false (by omega)
                   have d6 : decide (o.2 < n) = false := decide_eq_false hn2
                   rw [if_neg hn2] at HR3
                   go_wp2_with fail
                   go_roundw
                   (case rel => exact ⟨p', k + 1, o, rfl, by go_num, HKK.out, HB, HR3⟩)
                   (case measure => simp [intOf]; have := HKK.out; omega))
      · have HE : Aside0 (best s a = o) := ⟨HR.out.end_ (by
          cases t with
          | false => exact Or.inl rfl
          | true => exact Or.inr (fun h => hc ⟨rfl, h⟩))⟩
        have hk2 : (k : Int) ≤ 32 := by omega
        cases t with
        | false =>
          clear hc
          go_wp2_with (first | (refine load_all rfl rfl (W.heap.size + 1) rfl 60 #[.int .i64 (o.1 : Int), .int .i64 (o.2 : Int)] _ HB.out.oc Try.underlying60 rfl (by kernel_rfl) ?_) | ((with_reducible refine gate_store (t := 60) (p := 4) (v := .tmp 102) rfl ?_); go_must (refine store_all rfl rfl rfl W.heap.size #[.int .i64 0, .int .i64 0] #[.int .i64 (o.1 : Int), .int .i64 (o.2 : Int)] 60 (by rfl) (by rfl) HB.out.rc rfl (by kernel_rfl) (sym_one _ _) ?_); intro w9 hr1 hf6; have HR1 := Aside0.mk hr1; have HF6 := Aside0.mk hf6; clear hr1 hf6))
          refine bodyPost_ret (results_single rfl (.cell W.heap.size 60 #[.int .i64 (o.1 : Int), .int .i64 (o.2 : Int)] (0, 0) _ rfl HR1.out Try.underlying60 rfl (by kernel_rfl) .nil)) rfl ⟨by rw [HE.out], HB.out.be.trans (HF6.out.below HB.out.be.size (fun k hk => by rw [hk]; exact Nat.le_refl _))⟩
        | true =>
          have hc' : ¬ (0 ≤ p ∧ (a : Int) - p ≤ 32768 ∧ (k : Int) < 32 ∧ (o.2 : Int) < 64) := fun h => hc ⟨rfl, h.1, h.2.1, by omega, by omega⟩
          have HC := Aside0.mk hc'
          have hp1 : -1 ≤ p := by
            rcases HR.out with h | h
            · exact absurd h.1 (by decide)
            · exact h.2.1
          have hp2 : p < a := by
            rcases HR.out with h | h
            · exact absurd h.1 (by decide)
            · exact h.2.2.1
          clear hc hc'
          go_wp2_with (first | (refine load_all rfl rfl (W.heap.size + 1) rfl 60 #[.int .i64 (o.1 : Int), .int .i64 (o.2 : Int)] _ HB.out.oc Try.underlying60 rfl (by kernel_rfl) ?_) | ((with_reducible refine gate_store (t := 60) (p := 4) (v := .tmp 102) rfl ?_); go_must (refine store_all rfl rfl rfl W.heap.size #[.int .i64 0, .int .i64 0] #[.int .i64 (o.1 : Int), .int .i64 (o.2 : Int)] 60 (by rfl) (by rfl) HB.out.rc rfl (by kernel_rfl) (sym_one _ _) ?_); intro w9 hr1 hf6; have HR1 := Aside0.mk hr1; have HF6 := Aside0.mk hf6; clear hr1 hf6))
          all_goals (first | (refine bodyPost_ret (results_single rfl (.cell W.heap.size 60 #[.int .i64 (o.1 : Int), .int .i64 (o.2 : Int)] (0, 0) _ rfl HR1.out Try.underlying60 rfl (by kernel_rfl) .nil)) rfl ⟨by rw [HE.out], HB.out.be.trans (HF6.out.below HB.out.be.size (fun k hk => by rw [hk]; exact Nat.le_refl _))⟩) | (exact (HC.out ⟨by assumption, by assumption, by assumption, by assumption⟩).elim))
  · have b1 : decide ((s.size : Int) < (a : Int) + 3) = true := decide_eq_true (by omega)
    have HE : Aside0 (best s a = (0, 0)) := ⟨if_neg h3⟩
    clear h3 h
    go_enter Try.func31, Try.ntmps31
    go_upto_region 2 with (fail)
    generalize (W.alloc (.cells #[.int .i64 0, .int .i64 0] 60)).alloc (.cells #[.int .i64 0, .int .i64 0] 60) = w1 at HB0 ⊢
    have c0 := HB0.out.im.c0
    go_wp2_with (first | (refine load_all rfl rfl (W.heap.size + 1) rfl 60 #[.int .i64 0, .int .i64 0] _ HB0.out.oc Try.underlying60 rfl (by kernel_rfl) ?_) | ((with_reducible refine gate_store (t := 60) (p := 4) (v := .tmp 18) rfl ?_); go_must (refine store_all rfl rfl rfl W.heap.size #[.int .i64 0, .int .i64 0] #[.int .i64 0, .int .i64 0] 60 (by rfl) (by rfl) HB0.out.rc rfl (by kernel_rfl) (sym_one 0 0) ?_); intro w9 hr1 hf6; have HR1 := Aside0.mk hr1; have HF6 := Aside0.mk hf6; clear hr1 hf6))
    refine bodyPost_ret (results_single rfl (.cell W.heap.size 60 #[.int .i64 0, .int .i64 0] (0, 0) _ rfl HR1.out Try.underlying60 rfl (by kernel_rfl) .nil)) rfl ?_
    exact ⟨by rw [HE.out]; rfl, HB0.out.be.trans (HF6.out.below HB0.out.be.size (fun k hk => by rw [hk]; exact Nat.le_refl _))⟩
end Go.Proofs.Ytaghmhcccighgaa.DF
end
section
/- deflate's symbols; walked. -/
namespace Go.Proofs.Ytaghmhcccighgaa.DF
open Go.RowKit Go.Proofs.YtaghmhcccighgaaW.PrintWords Go.Proofs.YtaghmhcccighgaaW.PrintLast Go.Proofs.YtaghmhcccighgaaW.PrintMore Go.Proofs.Ytaghmhcccighgaa.HW Go.Proofs.Ytaghmhcccighgaa.MB Go.Proofs.Ytaghmhcccighgaa.Fn
attribute [local go_sem] max2_int min2_int max_two min_two max_three min_three max_four min_four   -- for this text's walks alone
theorem infoSym : (Try.prog.info? 60).map (fun i => (i.zero, i.size, i.bytes)) = some (some (.agg #[.int .i64 0, .int .i64 0]), 2, 16) := by kernel_rfl
theorem field1 (x y : Int) (w : World) : (Instr.field 60 (.agg #[.int .i64 x, .int .i64 y]) 1).run Try.prog w = .ok (.int .i64 y) w := by kernel_rfl
/-- What symbols gives. -/
def SyQ (s : ByteArray) (W : World) (e : Ending) (w' : World) : Prop := ∃ v, e = .returned v ∧ Kd.R k60 60 w' W.heap.size (fun _ => True) v ((symsOf s).map toS) ∧ Below W.heap.size W w'
structure SyS (W w : World) (M m : Nat) (pv ov : Value) (s : ByteArray) (i : Nat) (L : List S60) : Prop where
  im : IsM w W.heap.size M m pv s i
  ro : Kd.R k60 60 w W.heap.size (fun _ => True) ov L
  be : Below W.heap.size W w
section
variable {W w w' : World} {M m : Nat} {pv ov : Value} {s : ByteArray} {i : Nat} {L : List S60}
theorem SyS.keep (h : SyS W w M m pv ov s i L) (hb : Below w.heap.size w w') : SyS W w' M m pv ov s i L :=
  ⟨h.im.below hb, Kd.R_mono (Kd.R_step (Kd.R_tight rfl h.ro) (fun k hk hlt => hb.block k hlt)) (fun _ _ => trivial), h.be.trans (hb.mono h.be.size)⟩
theorem map_row {b e : Nat} {c : List Value} {v : Value} {n sz : Nat} (hr : w.ownsRow b e sz v n c) {l : List (K3 × Int)} (hm : MapIs w m l) : v.ownBlock ≠ some m := fun he => by
  obtain ⟨⟨es, clk, hb, _⟩, _⟩ := hm
  obtain ⟨cells, hc⟩ := own_typed hr m he
  rw [hb] at hc
  cases hc
theorem SyS.note (h : SyS W w M m pv ov s i L) (hi : IsM w' W.heap.size M m pv s (i + 1)) (hf : Fr (MS m pv) w w') : SyS W w' M m pv ov s (i + 1) L := by
  refine ⟨hi, Kd.R_mono (Kd.R_step (Kd.R_tight rfl h.ro) (fun k hk hlt => hf.block k hlt (fun e => ?_))) (fun _ _ => trivial), h.be.trans (hf.below h.be.size (fun k hk => ?_))⟩
  · rcases e with e | e
    · subst e
      obtain ⟨l, hm, _⟩ := h.im.mp
      obtain ⟨_, inner, ho, _⟩ := h.ro
      exact map_row ho hm hk.symm
    · obtain ⟨ps, hp, _⟩ := h.im.ro
      obtain ⟨_, inner, ho, _⟩ := hp
      obtain ⟨cells, hc⟩ := own_typed ho k e
      exact Kd.R_ne h.ro hc (by decide) hk
  · rcases hk with hk | hk
    · subst hk; exact h.im.hm
    · obtain ⟨ps, hp, _⟩ := h.im.ro
      exact Kd.R_base hp k hk
theorem SyS.far {x y : Int} (h : SyS W w M m pv ov s i L) {q : Nat} (h0 : W.heap.size ≤ q) (h1 : ¬ MS m pv q) (h2 : ov.ownBlock ≠ some q) (hq : w.heap[q]? = some (.cells #[.int .i64 x, .int .i64 y] 60 (0, 0))) (hf : Fr (fun k => k = q) w w') : SyS W w' M m pv ov s i L := by
  refine ⟨h.im.keep hf (fun e => ?_) (fun e => h1 (Or.inl e.symm)) (fun k hk e => h1 (Or.inr (e ▸ hk))), Kd.R_mono (Kd.R_step (Kd.R_tight rfl h.ro) (fun k hk hlt => hf.block k hlt (fun e => h2 (e ▸ hk.symm)))) (fun _ _ => trivial), h.be.trans (hf.below h.be.size (fun k hk => hk ▸ h0))⟩
  have := h.im.bx
  rw [e, hq] at this
  injection this with this
  injection this with _ h3
  exact absurd h3 (by decide)
theorem SyS.add (h : SyS W w M m pv ov s i L) {ov' : Value} {L' : List S60} (hr : Kd.R k60 60 w' W.heap.size (fun _ => True) ov' L') (hg : w.grownBy w' ov.ownBlock) (hb : Below W.heap.size W w') : SyS W w' M m pv ov' s i L' := by
  have hf := Fr.grown hg (Fr.refl (fun k => ov.ownBlock = some k) w) (fun k hk => Or.inl hk)
  refine ⟨h.im.keep hf (fun e => Kd.R_ne h.ro h.im.bx (by decide) e.symm) (fun e => ?_) (fun k hk e => ?_), hr, hb⟩
  · obtain ⟨l, hm, _⟩ := h.im.mp
    obtain ⟨_, inner, ho, _⟩ := h.ro
    exact map_row ho hm e
  · obtain ⟨ps, hp, _⟩ := h.im.ro
    obtain ⟨_, inner, ho, _⟩ := hp
    obtain ⟨cells, hc⟩ := own_typed ho k hk
    exact Kd.R_ne h.ro hc (by decide) e.symm
end
/-- What symbols' loop keeps. -/
def LoS (s : ByteArray) (a : Nat) (L : List S60) : Prop := a ≤ s.size ∧ L.length ≤ a ∧ L ++ (symsF s s.size a).map toS = (symsOf s).map toS
theorem LoS.start (s : ByteArray) : LoS s 0 [] := ⟨Nat.zero_le _, Nat.le_refl _, rfl⟩
theorem LoS.step {s : ByteArray} {a : Nat} {L : List S60} (h : LoS s a L) (ha : a < s.size) : LoS s (a + stepOf (symAt s a)) (L ++ [toS (symAt s a)]) := by
  have hp := stepOf_pos (symAt_ok s a)
  refine ⟨?_, by rw [List.length_append, List.length_singleton]; have := h.2.1; omega, ?_⟩
  · unfold stepOf
    rcases symAt_ok s a with h1 | h1
    · rw [if_pos h1.1]; omega
    · rw [if_neg (by omega)]; omega
  · rw [← h.2.2]
    obtain ⟨f, hf⟩ : ∃ f, s.size = f + 1 := ⟨s.size - 1, by omega⟩
    have e1 : symsF s s.size a = symAt s a :: symsF s s.size (a + stepOf (symAt s a)) := by
      rw [symsF_room s s.size f (a + stepOf (symAt s a)) (by omega) (by omega)]
      rw [show symsF s s.size a = symsF s (f + 1) a by rw [← hf]]
      exact if_pos ha
    rw [e1, List.map_cons, List.append_assoc]
    rfl
theorem LoS.done {s : ByteArray} {a : Nat} {L : List S60} (h : LoS s a L) (ha : ¬ a < s.size) : L = (symsOf s).map toS := by
  rw [← h.2.2]
  have e : symsF s s.size a = [] := by
    cases hs : s.size with
    | zero => rfl
    | succ f => exact if_neg (by omega)
  rw [e]
  simp
theorem SyS.start {W w : World} {A : Option Addr} {n c : Nat} {s : ByteArray} (hs : s.size ≤ 1048576) (ho : Kd.R (Kd.int .i64) 3 w W.heap.size (fun _ => True) (.slice A n c) (List.replicate s.size 0)) (hb : Below W.heap.size W w) (hm : MapIs w W.heap.size []) :
    SyS W (w.alloc (.cells #[.string s, .map (some W.heap.size), .slice A n c] 58)) w.heap.size W.heap.size (.slice A n c) (.slice none 0 0) s 0 [] :=
  ⟨⟨heap_alloc_new w _, ⟨[], hm.move ((below_alloc (Below.refl _ _) _).block _ hm.lt), fun k => rfl⟩, ⟨_, Kd.R_alloc ho _, List.length_replicate, fun i hi => by omega⟩, hb.size, Nat.le_refl _, by omega⟩, Kd.R_nil _ _ _ _ _, below_alloc hb _⟩
set_option maxRecDepth 100000 in
set_option maxHeartbeats 16000000 in
theorem symbols_ok (s : ByteArray) (hs : s.size ≤ 1048576) (W : World) : Calls Try.prog 16 #[.string s] W (SyQ s W) := by
  have hu := Try.underlying58
  have hu2 := Try.underlying34
  have hmm : ∀ w, (Instr.makeMap 56 none).run Try.prog w = .ok (.map (some w.heap.size)) (w.alloc (.map #[] 0)) := fun _ => by kernel_rfl
  have HSZ := Aside0.mk hs
  go_enter Try.func16, Try.ntmps16
  have hb0 := below_alloc (Below.refl W.heap.size W) (.map #[] 0)
  go_upto_region 2 with ((with_reducible refine gate_dst (N := 12) rfl ?_); go_must (refine Kd.R_make (Kd.int .i64) (w0 := W) W.heap.size 3 rfl (N := 12) rfl 48 _ _ rfl (s.size : Int) rfl rfl Try.underlying48 (.int .i64 0) 8 info3 rfl (by decide) (by decide) 0 (ok := fun _ => True) (okp := fun _ => True) rfl (fun _ hk => hk) trivial (by omega) (by omega) hb0 hb0.size ?_); intro v8 w8 ho hb hg _; rw [Int.toNat_natCast] at ho; obtain ⟨A8, c8, hv8⟩ := Kd.R_slice ho; subst hv8; have HS0 := Aside0.mk (SyS.start hs ho hb ((mapIs_new W).move (hg.block _ (mapIs_new W).lt (fun e => by cases e)))); have hn8 := List.length_replicate (n := s.size) (a := (0 : Int)); clear ho hb hg)
  rw [List.length_replicate] at HS0
  generalize w8.alloc (.cells #[.string s, .map (some W.heap.size), .slice A8 s.size c8] 58) = w0 at HS0 ⊢
  obtain ⟨M, hM⟩ : ∃ M, w8.heap.size = M := ⟨_, rfl⟩
  obtain ⟨m, hm⟩ : ∃ m, W.heap.size = m := ⟨_, rfl⟩
  obtain ⟨pv, hpv⟩ : ∃ pv, Value.slice A8 s.size c8 = pv := ⟨_, rfl⟩
  rw [hM, hm, hpv] at HS0
  rw [hM, hm, hpv]
  clear hM hm hpv hmm hb0 hn8
  have HL0 := Aside0.mk (LoS.start s)
  go_wp2_with fail
  go_loopw [4, 5] (fun v4 v5 wr => ∃ (a : Nat) (L : List S60), v5 = .int .i64 a ∧ Aside0 (SyS W wr M m pv v4 s a L) ∧ Aside0 (LoS s a L)) (fun _ v5 _ => s.size - (intOf v5).toNat)
  case atStart => exact ⟨0, [], rfl, HS0, HL0⟩
  case round =>
    clear HS0 HL0
    obtain ⟨a, L, rfl, HS, HL⟩ := hrel
    have hal := HL.out.1
    have ha20 : a ≤ 1048576 := by omega
    by_cases hlt : a < s.size
    · have b1 : decide ((a : Int) < (s.size : Int)) = true := decide_eq_true (by omega)
      have HLT := Aside0.mk hlt
      have HLS := Aside0.mk (HL.out.step hlt)
      have hbd := best_bd s a
      have hbd2 := best_bd s (a + 1)
      obtain ⟨f, hf⟩ : ∃ f, (best s a).1 = f := ⟨_, rfl⟩
      obtain ⟨n, hn⟩ : ∃ n, (best s a).2 = n := ⟨_, rfl⟩
      obtain ⟨f2, hf2⟩ : ∃ f2, (best s (a + 1)).1 = f2 := ⟨_, rfl⟩
      obtain ⟨n2, hn2⟩ : ∃ n2, (best s (a + 1)).2 = n2 := ⟨_, rfl⟩
      have hsy : symAt s a = if n < 3 ∨ (n < 64 ∧ n < n2) then (0, (bt s (a : Int)).toNat) else (f, n) := by
        unfold symAt
        rw [hn, hn2]
        split
        · rfl
        · rw [← hf, ← hn]
      have HF := Aside0.mk (And.intro hf hn)
      have HF2 := Aside0.mk (And.intro hf2 hn2)
      rw [hf, hn] at hbd
      rw [hf2, hn2] at hbd2
      have hn258 : n ≤ 258 := hbd.1
      have hn2258 : n2 ≤ 258 := hbd2.1
      clear hf hn hf2 hn2 hbd hbd2 HL
      have HSY := Aside0.mk hsy
      clear hsy hal
      have HB1 := Aside0.mk (best_okW HS.out.im (Nat.le_of_lt hlt))
      rw [HF.out.1, HF.out.2] at HB1
      go_wp2_with fail
      refine HB1.out.mono ?_
      rintro e w1 ⟨rfl, hb1⟩
      have HS1 := Aside0.mk (HS.out.keep hb1)
      clear HB1 HS hb1
      go_upto_region 6 with (fail)
      have X2 := heap_alloc_new w1 (.cells #[.int .i64 (f : Int), .int .i64 (n : Int)] 60)
      have HS2 := Aside0.mk (HS1.out.keep (below_alloc (Below.refl _ _) (.cells #[.int .i64 (f : Int), .int .i64 (n : Int)] 60)))
      obtain ⟨q, hq⟩ : ∃ q, w1.heap.size = q := ⟨_, rfl⟩
      have HQ : Aside0 (W.heap.size ≤ q ∧ ¬ MS m pv q ∧ u4.ownBlock ≠ some q) := ⟨by
        refine ⟨hq ▸ HS1.out.be.size, fun e => ?_, fun e => ?_⟩
        · rcases e with e | e
          · have := HS1.out.im.mlt; omega
          · have := HS1.out.im.plt q e; omega
        · have := Kd.R_lt HS1.out.ro q e; omega⟩
      rw [hq] at X2
      rw [hq]
      generalize w1.alloc (.cells #[.int .i64 (f : Int), .int .i64 (n : Int)] 60) = w2 at HS2 X2 ⊢
      have HX2 := Aside0.mk X2
      clear HS1 X2 hq
      have HN2 := Aside0.mk (note_ok HS2.out.im hlt)
      go_wp2_with fail
      refine HN2.out.mono ?_
      rintro e w3 ⟨rfl, hi3, hf3⟩
      have HS3 := Aside0.mk (HS2.out.note hi3 hf3)
      have HX3 := Aside0.mk (hf3.blk HX2.out HQ.out.2.1)
      clear hi3 hf3 HN2 HS2 HX2
      have x0 : w3.cell? ⟨q, 0, none⟩ = some (.int .i64 (f : Int)) := (blk_cell HX3.out 0).trans rfl
      have x1 : w3.cell? ⟨q, 1, none⟩ = some (.int .i64 (n : Int)) := (blk_cell HX3.out 1).trans rfl
      have xf := blk_frozen HX3.out 1
      have s1 : IntKind.i64.wrap ((a : Int) + 1) = (a : Int) + 1 := IntWalk.i64_in _ (by omega)
      by_cases lit : n < 3 ∨ (n < 64 ∧ n < n2)
      · have HSL : Aside0 (symAt s a = (0, (bt s (a : Int)).toNat)) := ⟨by rw [HSY.out, if_pos lit]⟩
        by_cases c1 : 3 ≤ n
        focus
          have d1 : decide (3 ≤ (n : Int)) = true := decide_eq_true (by omega)
          have d2 : decide ((n : Int) < 64) = true := decide_eq_true (by omega)
          have d3 : decide ((n : Int) < (n2 : Int)) = true := decide_eq_true (by omega)
          have d4 : decide (n < n2) = true := decide_eq_true (by omega)
          have d5 : n < n2 := by omega
          clear lit
          have HB2 := Aside0.mk (fun w' (hb : Below w3.heap.size w3 w') => best_okW (HS3.out.im.below hb) HLT.out)
          rw [HF2.out.1, HF2.out.2, show ((a + 1 : Nat) : Int) = (a : Int) + 1 by omega] at HB2
          have HSS : Aside0 (∀ w', Below w3.heap.size w3 w' → Below w3.heap.size w3 w' ∧ w'.cell? ⟨q, 1, none⟩ = some (.int .i64 (n : Int))) := ⟨fun w' hb => ⟨hb, (blk_cell ((hb.block _ (blk_lt HX3.out)).trans HX3.out) 1).trans rfl⟩⟩
          have hfd := field1 (f2 : Int) (n2 : Int)
          go_wp2_with fail
          have b1 : Below w3.heap.size w3 w3.drew := below_drew (Below.refl _ _)
          go_region_held3 (fun w' => Below w3.heap.size w3 w' ∧ w'.cell? ⟨q, 1, none⟩ = some (.int .i64 (n : Int))) ((exact HSS.out _ (by assumption))) ((first | (go_at_call 31; refine (HB2.out _ (by assumption)).mono ?_; rintro e w4 ⟨rfl, hb4⟩; have b4 := b1.trans (hb4.mono b1.size); clear hb4)))
          have HS4 := Aside0.mk (HS3.out.keep b4)
          have HX4 := Aside0.mk ((b4.block _ (blk_lt HX3.out)).trans HX3.out)
          clear HB2 HSS hfd b1 b4 HS3 HX3 x0 x1 xf
          have x1 : w4.cell? ⟨q, 1, none⟩ = some (.int .i64 (n : Int)) := (blk_cell HX4.out 1).trans rfl
          have xf := blk_frozen HX4.out 1
          go_upto_region 9 with (fail)
          obtain ⟨y, hy, hy2⟩ : ∃ y : Nat, (0 : Int) = (y : Int) ∧ y < 3 := ⟨0, rfl, by decide⟩
          have HXz : Aside0 ((w4.setCell ⟨q, 1, none⟩ (.int .i64 0)).heap[q]? = some (.cells #[.int .i64 (f : Int), .int .i64 (y : Int)] 60 (0, 0))) := ⟨by
            rw [← hy]
            simpa using blk_set HX4.out 1 (.int .i64 0)⟩
          have HSz := Aside0.mk (HS4.out.far HQ.out.1 HQ.out.2.1 HQ.out.2.2 HX4.out (w' := w4.setCell ⟨q, 1, none⟩ (.int .i64 0)) ((Fr.refl (fun k => k = q) w4).setCell (p := ⟨q, 1, none⟩) (Or.inl rfl) _))
          clear HS4 HX4 x1 xf d1 d2 d3 d4 d5 hy
          generalize w4.setCell ⟨q, 1, none⟩ (.int .i64 0) = wz at HSz HXz ⊢
        rotate_left
        focus
          have d1 : decide (3 ≤ (n : Int)) = false := decide_eq_false (by omega)
          have d2 : ¬ 3 ≤ (n : Int) := by omega
          go_wp2_with fail
          go_quiet (fail)
          go_upto_region 9 with (fail)
          obtain ⟨y, hy, hy2⟩ : ∃ y : Nat, n = y ∧ y < 3 := ⟨n, rfl, by omega⟩
          have HSz := Aside0.mk (HS3.out.keep (((Fr.refl (fun _ => False) w3).drewN nq).below (Nat.le_refl _) (fun _ h => h.elim)))
          have HXz : Aside0 ((w3.drewN nq).heap[q]? = some (.cells #[.int .i64 (f : Int), .int .i64 (y : Int)] 60 (0, 0))) := ⟨by rw [← hy]; exact HX3.out⟩
          clear HS3 HX3 x0 x1 xf d1 d2 hy lit
          generalize w3.drewN nq = wz at HSz HXz ⊢
        all_goals
          have x1 : wz.cell? ⟨q, 1, none⟩ = some (.int .i64 (y : Int)) := (blk_cell HXz.out 1).trans rfl
          have e1 : decide ((y : Int) < 3) = true := decide_eq_true (by omega)
          have e2 : (y : Int) < 3 := by omega
          obtain ⟨b, hb⟩ : ∃ b : Nat, s[a].toNat = b := ⟨_, rfl⟩
          have hl9 : toS (symAt s a) = ⟨0, (b : Int)⟩ := by
            rw [HSL.out, bt_in s a hlt, hb]
            rfl
          have hb3 : (b : Int) ≤ 255 := by have := (s[a]).toNat_lt; omega
          have hl8 : stepOf (symAt s a) = 1 := by rw [HSL.out]; rfl
          rw [hl9, hl8] at HLS
          have HN9 : Aside0 ((L.length + 1) * 16 ≤ 140737488355328) := ⟨by
            have := HLS.out.2.1
            rw [List.length_append, List.length_singleton] at this
            omega⟩
          have p0 : (0 : Int) ≤ (a : Int) := by omega
          have p1 : (a : Int) < (s.size : Int) := by omega
          clear hl9 hl8 HXz HSL HSY s1
          go_wp2_with ((with_reducible refine gate_builtin (b := .append) (xs := #[.tmp 47, .tmp 53]) rfl ?_); at_builtin; refine Kd.R_append k60 (w0 := W) (W := wz) W.heap.size rfl (.tmp 47) (.tmp 53) 34 60 (.agg #[.int .i64 0, .int .i64 0]) 16 rfl Try.underlying34 infoSym rfl (by decide) (by decide) u4 L ⟨0, (b : Int)⟩ [.int .i64 0, .int .i64 (b : Int)] (fun _ => True) (fun _ => False) rfl (by first | (go_simp; done) | (go_simp; rfl)) (k60_mkM _ _ _ _) (fun _ hk => hk.elim) (fun _ _ => trivial) HSz.out.ro HSz.out.be HSz.out.be.size HN9.out ?_; intro v9 w9 ho hb9 hg hat; have HS9 := Aside0.mk (HSz.out.add ho hg hb9); clear ho hb9 hg hat)
          go_roundw
          case rel => exact ⟨a + 1, _, by go_num, HS9, HLS⟩
          case measure => simp [intOf]; have := HLT.out; omega
      · have HSL : Aside0 (symAt s a = (f, n)) := ⟨by rw [HSY.out, if_neg lit]⟩
        have hn3 : 3 ≤ n := by omega
        have hco := best_ok s a
        unfold CopyOk at hco
        rw [HF.out.1, HF.out.2] at hco
        have hf1 : 1 ≤ f := by omega
        have han : a + n ≤ s.size := by omega
        have d1 : decide (3 ≤ (n : Int)) = true := decide_eq_true (by omega)
        clear hco
        by_cases c2 : n < 64
        focus
          have d2 : decide ((n : Int) < 64) = true := decide_eq_true (by omega)
          have d3 : decide ((n : Int) < (n2 : Int)) = false := decide_eq_false (by omega)
          have d4 : decide (n < n2) = false := decide_eq_false (by omega)
          have d5 : ¬ n < n2 := by omega
          clear lit
          have HB2 := Aside0.mk (fun w' (hb : Below w3.heap.size w3 w') => best_okW (HS3.out.im.below hb) HLT.out)
          rw [HF2.out.1, HF2.out.2, show ((a + 1 : Nat) : Int) = (a : Int) + 1 by omega] at HB2
          have HSS : Aside0 (∀ w', Below w3.heap.size w3 w' → Below w3.heap.size w3 w' ∧ w'.cell? ⟨q, 1, none⟩ = some (.int .i64 (n : Int))) := ⟨fun w' hb => ⟨hb, (blk_cell ((hb.block _ (blk_lt HX3.out)).trans HX3.out) 1).trans rfl⟩⟩
          have hfd := field1 (f2 : Int) (n2 : Int)
          go_wp2_with fail
          have b1 : Below w3.heap.size w3 w3.drew := below_drew (Below.refl _ _)
          go_region_held3 (fun w' => Below w3.heap.size w3 w' ∧ w'.cell? ⟨q, 1, none⟩ = some (.int .i64 (n : Int))) ((exact HSS.out _ (by assumption))) ((first | (go_at_call 31; refine (HB2.out _ (by assumption)).mono ?_; rintro e w4 ⟨rfl, hb4⟩; have b4 := b1.trans (hb4.mono b1.size); clear hb4)))
          have HSz := Aside0.mk (HS3.out.keep b4)
          have HXz := Aside0.mk ((b4.block _ (blk_lt HX3.out)).trans HX3.out)
          clear HB2 HSS hfd b1 b4 HS3 HX3 x0 x1 xf
          go_upto_region 9 with (fail)
          clear d2 d3 d4 d5
          obtain ⟨wz, hwz⟩ : ∃ wz, w4 = wz := ⟨_, rfl⟩
          rw [hwz] at HSz HXz
          rw [hwz]
          clear hwz
        rotate_left
        focus
          have d2 : decide ((n : Int) < 64) = false := decide_eq_false (by omega)
          have d3 : ¬ (n : Int) < 64 := by omega
          clear lit
          go_wp2_with fail
          go_quiet (fail)
          go_upto_region 9 with (fail)
          have HSz := Aside0.mk (HS3.out.keep (((Fr.refl (fun _ => False) w3).drewN nq).below (Nat.le_refl _) (fun _ h => h.elim)))
          have HXz : Aside0 ((w3.drewN nq).heap[q]? = some (.cells #[.int .i64 (f : Int), .int .i64 (n : Int)] 60 (0, 0))) := ⟨HX3.out⟩
          clear HS3 HX3 x0 x1 xf d2 d3
          generalize w3.drewN nq = wz at HSz HXz ⊢
        all_goals
          have x1 : wz.cell? ⟨q, 1, none⟩ = some (.int .i64 (n : Int)) := (blk_cell HXz.out 1).trans rfl
          have e1 : decide ((n : Int) < 3) = false := decide_eq_false (by omega)
          have e2 : ¬ (n : Int) < 3 := by omega
          have hl9 : toS (symAt s a) = ⟨(f : Int), (n : Int)⟩ := by rw [HSL.out]; rfl
          have hl8 : stepOf (symAt s a) = n := by rw [HSL.out]; exact if_neg (by show ¬ f = 0; omega)
          rw [hl9, hl8] at HLS
          have HN9 : Aside0 ((L.length + 1) * 16 ≤ 140737488355328) := ⟨by
            have := HLS.out.2.1
            rw [List.length_append, List.length_singleton] at this
            omega⟩
          clear hl9 hl8 HSL HSY
          go_wp2_with (first | (refine load_all rfl rfl q rfl 60 #[.int .i64 (f : Int), .int .i64 (n : Int)] _ HXz.out Try.underlying60 rfl (by kernel_rfl) ?_) | ((with_reducible refine gate_builtin (b := .append) (xs := #[.tmp 57, .tmp 59]) rfl ?_); at_builtin; refine Kd.R_append k60 (w0 := W) (W := wz) W.heap.size rfl (.tmp 57) (.tmp 59) 34 60 (.agg #[.int .i64 0, .int .i64 0]) 16 rfl Try.underlying34 infoSym rfl (by decide) (by decide) u4 L ⟨(f : Int), (n : Int)⟩ [.int .i64 (f : Int), .int .i64 (n : Int)] (fun _ => True) (fun _ => False) rfl (by first | (go_simp; done) | (go_simp; rfl)) (k60_mkM _ _ _ _) (fun _ hk => hk.elim) (fun _ _ => trivial) HSz.out.ro HSz.out.be HSz.out.be.size HN9.out ?_; intro v9 w9 ho hb9 hg hat; have HS9 := Aside0.mk (HSz.out.add ho hg hb9); have HX9 := Aside0.mk ((hg.block q (blk_lt HXz.out) (fun e => HQ.out.2.2 e.symm)).trans HXz.out); clear ho hb9 hg hat))
          have hl9 : Aside0 (LoS s (a + n) (L ++ [⟨(f : Int), (n : Int)⟩])) := HLS
          clear HLS x1 e1 e2 HXz HSz d1 s1
          obtain ⟨wo, hwo⟩ : ∃ wo : World, wo = wr := ⟨_, rfl⟩
          go_loopw [7] (fun v7 w5 => ∃ j : Nat, v7 = .int .i64 j ∧ a + 1 ≤ j ∧ j ≤ a + n ∧ Aside0 (SyS W w5 M m pv v9 s j (L ++ [⟨(f : Int), (n : Int)⟩])) ∧ Aside0 (w5.heap[q]? = some (.cells #[.int .i64 (f : Int), .int .i64 (n : Int)] 60 (0, 0)))) (fun v7 _ => a + n - (intOf v7).toNat)
          case atStart => exact ⟨a + 1, by go_num, Nat.le_refl _, by omega, HS9, HX9⟩
          case round =>
            clear HS9 HX9
            obtain ⟨j, rfl, hj1, hj2, HS5, HX5⟩ := hrel
            have x1 : wr.cell? ⟨q, 1, none⟩ = some (.int .i64 (n : Int)) := (blk_cell HX5.out 1).trans rfl
            have hj20 : (j : Int) ≤ 1048576 := by omega
            have han20 : (a : Int) + (n : Int) ≤ 1048576 := by omega
            by_cases hjn : j < a + n
            · have e1 : decide ((j : Int) < (a : Int) + (n : Int)) = true := decide_eq_true (by omega)
              have e2 : decide (j < a + n) = true := decide_eq_true hjn
              have e3 : (j : Int) < (a : Int) + (n : Int) := by omega
              have HJ := Aside0.mk hjn
              have HN5 := Aside0.mk (note_ok HS5.out.im (show j < s.size by omega))
              go_wp2_with fail
              refine HN5.out.mono ?_
              rintro e w6 ⟨rfl, hi6, hf6⟩
              have HS6 := Aside0.mk (HS5.out.note hi6 hf6)
              have HX6 := Aside0.mk (hf6.blk HX5.out HQ.out.2.1)
              clear hi6 hf6 HN5 HS5 HX5 x1
              go_wp2_with fail
              go_roundw
              case rel => exact ⟨j + 1, by go_num, by omega, HJ.out, HS6, HX6⟩
              case measure => simp [intOf]; have := HJ.out; omega
            · have hje : j = a + n := by omega
              have e1 : decide ((j : Int) < (a : Int) + (n : Int)) = false := decide_eq_false (by omega)
              have e2 : decide (j < a + n) = false := decide_eq_false hjn
              have e3 : ¬ (j : Int) < (a : Int) + (n : Int) := by omega
              subst hje
              go_wp2_with fail
              go_roundw
              case rel => exact ⟨a + n, _, by go_num, HS5, hl9⟩
              case measure => simp [intOf]; have := HLT.out; omega
    · have b1 : decide ((a : Int) < (s.size : Int)) = false := decide_eq_false (by omega)
      have HE := Aside0.mk (HL.out.done hlt)
      go_wp2_with fail
      go_ret
      exact ⟨_, rfl, by rw [← HE.out]; exact HS.out.ro, HS.out.be⟩
end Go.Proofs.Ytaghmhcccighgaa.DF
end
section
/- Deflate, Fixed; walked. -/
namespace Go.Proofs.Ytaghmhcccighgaa.DF
open Go.RowKit Go.Proofs.YtaghmhcccighgaaW.PrintWords Go.Proofs.YtaghmhcccighgaaW.PrintLast Go.Proofs.YtaghmhcccighgaaW.PrintMore Go.Proofs.Ytaghmhcccighgaa.HW Go.Proofs.Ytaghmhcccighgaa.MB Go.Proofs.Ytaghmhcccighgaa.HF Go.Proofs.Ytaghmhcccighgaa.Fn
attribute [local go_sem] max2_int min2_int max_two min_two max_three min_three max_four min_four   -- for this text's walks alone
theorem symsF_mem (s : ByteArray) : ∀ (f a : Nat) (x : Nat × Nat), x ∈ symsF s f a → ∃ b, SymOk s b x
  | 0, _, _, h => by cases h
  | f + 1, a, x, h => by
    unfold symsF at h
    split at h
    · rcases List.mem_cons.1 h with h | h
      · exact ⟨a, h ▸ symAt_ok s a⟩
      · exact symsF_mem s f _ x h
    · cases h
theorem symsF_len (s : ByteArray) : ∀ (f a : Nat), (symsF s f a).length ≤ f
  | 0, _ => Nat.le_refl _
  | f + 1, a => by
    unfold symsF
    split
    · rw [List.length_cons]
      have := symsF_len s f (a + stepOf (symAt s a))
      omega
    · exact Nat.zero_le _
theorem syms_v (s : ByteArray) : ∀ x ∈ symsOf s, SymV x := fun x hx => by
  obtain ⟨b, h⟩ := symsF_mem s _ _ x hx
  rcases h with ⟨h1, h2, h3⟩ | ⟨h1, h2, h3, h4, h5, _⟩
  · exact Or.inl ⟨h1, h3⟩
  · exact Or.inr ⟨by omega, h4, h5, h1, h3⟩
theorem syms_len (s : ByteArray) : (symsOf s).length ≤ s.size := symsF_len s s.size 0
theorem rdl_of_R {w : World} {B : Nat} {v : Value} {xs : List (Nat × Nat)} (h : Kd.R k60 60 w B (fun _ => True) v (xs.map toS)) : ∃ A c, v = .slice A xs.length c ∧ xs.length ≤ c ∧ RdL w A (xs.map toS) := by
  obtain ⟨A, c, hv⟩ := Kd.R_slice h
  subst hv
  have h2 := Kd.R_reads' h
  refine ⟨A, c, by rw [List.length_map], by have := h2.2.1; rwa [List.length_map] at this, h2.2.2, fun ad ha => ?_⟩
  obtain ⟨_, inner, ho, _⟩ := h
  exact own_typed ho ad.block (by rw [ha]; rfl)
/-- What Fixed gives. -/
def FxQ (s : ByteArray) (W : World) (e : Ending) (w' : World) : Prop := ∃ z, e = .returned (.tuple #[.string z, .int .i64 0]) ∧ STold z (FixB (symsOf s)) ∧ Below W.heap.size W w'
set_option maxRecDepth 100000 in
set_option maxHeartbeats 4000000 in
theorem fixedS_ok (s : ByteArray) (hs : s.size ≤ 1048576) (W : World) : Calls Try.prog 13 #[.string s] W (FxQ s W) := by
  have HS := Aside0.mk hs
  have b0 : decide (1048576 < (s.size : Int)) = false := decide_eq_false (by omega)
  clear hs
  go_enter Try.func13, Try.ntmps13
  go_wp2_with fail
  refine (symbols_ok s HS.out W).mono ?_
  rintro e w1 ⟨v, rfl, hr, hb1⟩
  obtain ⟨A, c, rfl, hc, hd⟩ := rdl_of_R hr
  have HB1 := Aside0.mk hb1
  have HP := Aside0.mk (byFixed_ok A c (symsOf s) hd hc (syms_v s) (by have := syms_len s; have := HS.out; omega))
  clear hr hb1 hc hd
  go_wp2_with fail
  refine HP.out.mono ?_
  rintro e w2 ⟨z, b, rfl, hb, hz, hb2⟩
  have HZ := Aside0.mk (hb ▸ hz)
  have HB2 := Aside0.mk (HB1.out.trans (hb2.mono HB1.out.size))
  clear hb hz hb2 HP
  go_wp2_with fail
  go_ret2
  exact ⟨z, rfl, HZ.out, HB2.out⟩
set_option maxHeartbeats 1000000 in
theorem fixed_long (s : ByteArray) (hs : 1048576 < s.size) (W : World) : Calls Try.prog 13 #[.string s] W fun e w' => e = .returned (.tuple #[.string ⟨#[]⟩, .int .i64 4]) ∧ W = w' := by
  have b0 : decide (1048576 < (s.size : Int)) = true := decide_eq_true (by omega)
  go_enter Try.func13, Try.ntmps13
  go_wp2_with fail
  go_ret2
  exact ⟨rfl, rfl⟩
set_option maxHeartbeats 1000000 in
theorem stored_long (s : ByteArray) (hs : 1048576 < s.size) (W : World) : Calls Try.prog 12 #[.string s] W fun e w' => e = .returned (.tuple #[.string ⟨#[]⟩, .int .i64 4]) ∧ W = w' := by
  have b0 : decide (1048576 < (s.size : Int)) = true := decide_eq_true (by omega)
  go_enter Try.func12, Try.ntmps12
  go_wp2_with fail
  go_ret2
  exact ⟨rfl, rfl⟩
set_option maxHeartbeats 1000000 in
theorem deflate_long (s : ByteArray) (hs : 1048576 < s.size) (W : World) : Calls Try.prog 11 #[.string s] W fun e w' => e = .returned (.tuple #[.string ⟨#[]⟩, .int .i64 4]) ∧ W = w' := by
  have HS := Aside0.mk hs
  go_enter Try.func11, Try.ntmps11
  go_wp2_with fail
  refine (stored_long s HS.out W).mono ?_
  rintro e w1 ⟨rfl, rfl⟩
  go_wp2_with fail
  go_ret2
  exact ⟨rfl, rfl⟩
/-- What Deflate gives: the shortest. -/
structure DeZ (s z zs zf zd : ByteArray) (b : List Bool) : Prop where
  ts : STold zs (stoF 17 s)
  tf : STold zf (FixB (symsOf s))
  db : DynsB (symsOf s) b
  td : STold zd b
  is : z = zs ∨ z = zf ∨ z = zd
  ls : z.size ≤ zs.size
  lf : z.size ≤ zf.size
def DeQ (s : ByteArray) (W : World) (e : Ending) (w' : World) : Prop := ∃ z zs zf zd b, e = .returned (.tuple #[.string z, .int .i64 0]) ∧ DeZ s z zs zf zd b ∧ Below W.heap.size W w'
/-- The shortest so far. -/
def PickI (zs zf zd : ByteArray) (k : Nat) (o : ByteArray) : Prop := (o = zs ∨ o = zf ∨ o = zd) ∧ o.size ≤ zs.size ∧ (1 ≤ k → o.size ≤ zf.size)
set_option maxRecDepth 100000 in
set_option maxHeartbeats 8000000 in
theorem deflate_ok (s : ByteArray) (hs : s.size ≤ 1048576) (W : World) : Calls Try.prog 11 #[.string s] W (DeQ s W) := by
  have HS := Aside0.mk hs
  clear hs
  go_enter Try.func11, Try.ntmps11
  go_wp2_with fail
  refine (stored_ok s HS.out W).mono ?_
  rintro e w1 ⟨zs, rfl, hzs, hb1⟩
  have HZS := Aside0.mk hzs
  have HB1 := Aside0.mk hb1
  clear hzs hb1
  go_wp2_with fail
  refine (symbols_ok s HS.out w1).mono ?_
  rintro e w2 ⟨v, rfl, hr, hb2⟩
  obtain ⟨A, c, rfl, hc, hd⟩ := rdl_of_R hr
  have HB2 := Aside0.mk (HB1.out.trans (hb2.mono HB1.out.size))
  have HD := Aside0.mk (And.intro hd (And.intro hc (show (symsOf s).length ≤ 2000000 by have := syms_len s; have := HS.out; omega)))
  have HP := Aside0.mk (byFixed_ok A c (symsOf s) hd hc (syms_v s) (by have := syms_len s; have := HS.out; omega))
  clear hr hb2 hc hd HB1
  go_wp2_with fail
  refine HP.out.mono ?_
  rintro e w3 ⟨zf, b, rfl, hb, hz, hb3⟩
  have HZF := Aside0.mk (hb ▸ hz)
  have HB3 := Aside0.mk (HB2.out.trans (hb3.mono HB2.out.size))
  have HP := Aside0.mk (byDynamic_ok A c (symsOf s) (HD.out.1.below hb3) HD.out.2.1 (syms_v s) HD.out.2.2)
  clear hb hz hb3 HB2
  go_wp2_with fail
  refine HP.out.mono ?_
  rintro e w4 ⟨zd, bd, rfl, hb, hz, hb4⟩
  have HZD := Aside0.mk (And.intro hb hz)
  have HB4 := Aside0.mk (HB3.out.trans (hb4.mono HB3.out.size))
  clear hb hz hb4 HP HB3
  go_wp2_with fail
  have HX := Aside0.mk (heap_alloc_new w4 (.cells #[.string zf, .string zd] 9))
  have HB5 := Aside0.mk (below_alloc HB4.out (.cells #[.string zf, .string zd] 9))
  obtain ⟨q, hq⟩ : ∃ q, w4.heap.size = q := ⟨_, rfl⟩
  rw [hq] at HX
  rw [hq]
  clear hq HB4
  generalize w4.alloc (.cells #[.string zf, .string zd] 9) = w5 at HX HB5 ⊢
  have x0 : w5.cell? ⟨q, 0, none⟩ = some (.string zf) := (blk_cell HX.out 0).trans rfl
  have x1 : w5.cell? ⟨q, 1, none⟩ = some (.string zd) := (blk_cell HX.out 1).trans rfl
  go_loop [4, 25] (fun v4 v25 => ∃ (k : Nat) (o : ByteArray), v25 = .int .i64 k ∧ v4 = .string o ∧ k ≤ 2 ∧ Aside0 (PickI zs zf zd k o)) (fun _ v25 => 2 - (intOf v25).toNat)
  case atStart => exact ⟨0, zs, rfl, rfl, by decide, ⟨⟨Or.inl rfl, Nat.le_refl _, fun h => by omega⟩⟩⟩
  case round =>
    obtain ⟨k, o, rfl, rfl, hk, HP⟩ := hrel
    by_cases hlt : k < 2
    · rcases Nat.lt_or_ge k 1 with h1 | h1
      · obtain rfl : k = 0 := by omega
        by_cases hc : zf.size < o.size
        · have b1 : decide ((zf.size : Int) < (o.size : Int)) = true := decide_eq_true (by omega)
          have b2 : decide (zf.size < o.size) = true := decide_eq_true hc
          have HP2 : Aside0 (PickI zs zf zd 1 zf) := ⟨⟨Or.inr (Or.inl rfl), by have := HP.out.2.1; omega, fun _ => Nat.le_refl _⟩⟩
          go_wp2_with fail
          go_round
          case rel => exact ⟨1, zf, rfl, rfl, by decide, HP2⟩
          case measure => simp [intOf]
        · have b1 : decide ((zf.size : Int) < (o.size : Int)) = false := decide_eq_false (by omega)
          have b2 : decide (zf.size < o.size) = false := decide_eq_false hc
          have HP2 : Aside0 (PickI zs zf zd 1 o) := ⟨⟨HP.out.1, HP.out.2.1, fun _ => by omega⟩⟩
          go_wp2_with fail
          go_round
          case rel => exact ⟨1, o, rfl, rfl, by decide, HP2⟩
          case measure => simp [intOf]
      · obtain rfl : k = 1 := by omega
        by_cases hc : zd.size < o.size
        · have b1 : decide ((zd.size : Int) < (o.size : Int)) = true := decide_eq_true (by omega)
          have b2 : decide (zd.size < o.size) = true := decide_eq_true hc
          have HP2 : Aside0 (PickI zs zf zd 2 zd) := ⟨⟨Or.inr (Or.inr rfl), by have := HP.out.2.1; omega, fun _ => by have := HP.out.2.2 (by decide); omega⟩⟩
          go_wp2_with fail
          go_round
          case rel => exact ⟨2, zd, rfl, rfl, by decide, HP2⟩
          case measure => simp [intOf]
        · have b1 : decide ((zd.size : Int) < (o.size : Int)) = false := decide_eq_false (by omega)
          have b2 : decide (zd.size < o.size) = false := decide_eq_false hc
          have HP2 : Aside0 (PickI zs zf zd 2 o) := ⟨⟨HP.out.1, HP.out.2.1, fun _ => HP.out.2.2 (by decide)⟩⟩
          go_wp2_with fail
          go_round
          case rel => exact ⟨2, o, rfl, rfl, by decide, HP2⟩
          case measure => simp [intOf]
    · obtain rfl : k = 2 := by omega
      have b1 : decide (((2 : Nat) : Int) < 2) = false := by decide
      go_wp2_with fail
      go_ret2
      exact ⟨o, zs, zf, zd, bd, rfl, ⟨HZS.out, HZF.out, HZD.out.1, HZD.out.2, HP.out.1, HP.out.2.1, HP.out.2.2 (by decide)⟩, HB5.out⟩
end Go.Proofs.Ytaghmhcccighgaa.DF
end
section
/- What was packed is read as it was: plain. -/
namespace Go.Proofs.Ytaghmhcccighgaa.DF
open Go.RowKit Go.Proofs.YtaghmhcccighgaaW.PrintWords Go.Proofs.Ytaghmhcccighgaa.MB Go.Proofs.Ytaghmhcccighgaa.Fn Go.Proofs.Ytaghmhcccighgaa.HF Go.Proofs.Ytaghmhcccighgaa.RT Go.Proofs.Ytaghmhcccighgaa.RT.Rd Go.Proofs.Ytaghmhcccighgaa.HP Go.Proofs.Ytaghmhcccighgaa.HI Go.Proofs.Ytaghmhcccighgaa.IW
theorem strOfNums_bytesOfD (s : ByteArray) : strOfNums (bytesOf s) = s := by
  unfold strOfNums bytesOf
  apply ByteArray.ext
  simp [List.map_map, Function.comp_def]
theorem told0 {z : ByteArray} {b : List Bool} (h : STold z b) : BitsAt z 0 b := by
  have h2 : STold z ([] ++ (b ++ [])) := by rw [List.append_nil]; exact h
  exact told_at h2
theorem block_run (m F f : Nat) (out o : List Int) {z : ByteArray} {p q lv k : Nat} (hl : lv < 2) (hk : k < 4) (h : BitsAt z p (bitsOf lv 1 ++ bitsOf k 2)) (hr : (kindT m F out k).run z (p + 3) = .ok o q) :
    (inflT m F (f + 1) out).run z p = if lv = 1 then .ok o q else (inflT m F f o).run z q := by
  have r1 := read_n (x := lv) (n := 1) (by omega) h.left
  have h2 := h.right
  rw [bitsOf_length] at h2
  have r2 := read_n (x := k) (n := 2) (by omega) h2
  rw [inflT_kind, bind_run _ r1, bind_run _ r2, bind_run _ hr]
  by_cases h1 : lv = 1
  · rw [if_pos h1, if_pos h1]; rfl
  · rw [if_neg h1, if_neg h1]
theorem finish {s z : ByteArray} {b : List Bool} {m : Nat} (hm : m ≤ 1048576) (hz : STold z b) (h : (inflT m manyF manyF []).run z 0 = .ok (bytesOf s) b.length) : inflR z (m : Int) = (s, (z.size : Int), 0) := by
  have h1 := infl_shut hm h
  rw [h1, strOfNums_bytesOfD, hz.1]
theorem fixD_same : ∀ j : Nat, j < 30 → wd fixD30 (j : Int) = wd fixD (j : Int) ∧ rd fixD (j : Int) ≠ 0 := by decide +kernel
theorem fix_in2 {x : Nat × Nat} (h : SymV x) : SymIn fixL fixD x ∧ symW fixL fixD30 x = symW fixL fixD x := by
  rcases fix_in h with ⟨e, h1⟩ | ⟨e, h2, h3, h4⟩
  · refine ⟨Or.inl ⟨e, h1⟩, ?_⟩
    unfold symW
    rw [if_pos e, if_pos e]
  · have hj := (dis_spec x.1 h2.2.2.1 h2.2.2.2).1
    refine ⟨Or.inr ⟨e, h2, h3, ⟨by omega, by show _ < ((32 : Nat) : Int); omega, (fixD_same _ hj).2⟩⟩, ?_⟩
    unfold symW
    rw [if_neg e, if_neg e, (fixD_same _ hj).1]
theorem fix_bits : ∀ xs : List (Nat × Nat), (∀ x ∈ xs, SymV x) → symsW fixL fixD30 xs = symsW fixL fixD xs
  | [], _ => rfl
  | x :: r, h => by
    show symW fixL fixD30 x ++ symsW fixL fixD30 r = symW fixL fixD x ++ symsW fixL fixD r
    rw [(fix_in2 (h x (List.mem_cons_self ..))).2, fix_bits r (fun y hy => h y (List.mem_cons_of_mem _ hy))]
theorem pre_zero (s : ByteArray) : pre s 0 = [] := rfl
/-- What Fixed gives is read as it was. -/
theorem fixed_law {s z : ByteArray} {m : Nat} (hm : m ≤ 1048576) (hs : s.size ≤ m) (hz : STold z (FixB (symsOf s))) : inflR z (m : Int) = (s, (z.size : Int), 0) := by
  refine finish hm hz ?_
  have hb := told0 hz
  have e : FixB (symsOf s) = bitsOf 1 1 ++ bitsOf 1 2 ++ (symsW fixL fixD (symsOf s) ++ wd fixL 256) := by
    unfold FixB
    rw [fix_bits _ (syms_v s)]
    rfl
  rw [e] at hb ⊢
  have h2 := hb.right
  rw [List.length_append, bitsOf_length, bitsOf_length, Nat.zero_add] at h2
  obtain ⟨F, hF⟩ : ∃ F, manyF = F + (symsOf s).length + 1 := ⟨manyF - (symsOf s).length - 1, by have := syms_len s; unfold manyF; omega⟩
  have hr := read_syms fixL_ok fixD_ok m hs (symsOf s) F 3 0 s.size (Nat.zero_le _) (tok_syms s) (fun x hx => (fix_in2 (syms_v s x hx)).1) fix_end h2
  rw [pre_zero, pre_all, ← hF] at hr
  have hk : (kindT m manyF [] 1).run z (0 + 3) = .ok (bytesOf s) (3 + (symsW fixL fixD (symsOf s) ++ wd fixL 256).length) := hr
  have hblk := block_run m manyF 9999999999999999 [] (bytesOf s) (lv := 1) (k := 1) (by decide) (by decide) hb.left hk
  rw [if_pos rfl] at hblk
  rw [show (inflT m manyF manyF []) = inflT m manyF (9999999999999999 + 1) [] from rfl, hblk]
  congr 1
  simp only [List.length_append, bitsOf_length]
/-- The lengths of the lengths' code are read. -/
theorem read_first {z : ByteArray} (first : List Int) (hf : ∀ x ∈ first, 0 ≤ x ∧ x ≤ 7) : ∀ (o : List Nat) (l : List Int) (p : Nat), (∀ k ∈ o, k < first.length) → BitsAt z p (firstB first (o.map (fun k : Nat => (k : Int)))) →
    (firstT o l).run z p = .ok (o.foldl (fun l k => l.set k (rd first (k : Int))) l) (p + 3 * o.length)
  | [], l, p, _, _ => rfl
  | k :: r, l, p, ho, h => by
    have hk := ho k (List.mem_cons_self ..)
    have h7 := hf _ (List.getElem_mem hk)
    have h2 : BitsAt z p (bitsOf (rd first (k : Int)).toNat 3 ++ firstB first (r.map (fun k : Nat => (k : Int)))) := h
    have e := rd_get first k hk
    have r1 := read_n (x := (rd first (k : Int)).toNat) (n := 3) (by omega) h2.left
    have h3 := h2.right
    rw [bitsOf_length] at h3
    unfold firstT
    rw [bind_run _ r1]
    rw [show (((rd first (k : Int)).toNat : Nat) : Int) = rd first (k : Int) by omega, read_first first hf r _ _ (fun j hj => ho j (List.mem_cons_of_mem _ hj)) h3]
    rw [List.foldl_cons, List.length_cons]
    congr 1
    omega
theorem fold_get (first : List Int) : ∀ (o : List Nat) (l : List Int) (i : Nat), i < l.length → (o.foldl (fun l k => l.set k (rd first (k : Int))) l).length = l.length ∧ rd (o.foldl (fun l k => l.set k (rd first (k : Int))) l) (i : Int) = if i ∈ o then rd first (i : Int) else rd l (i : Int)
  | [], l, i, _ => ⟨rfl, by rw [if_neg (List.not_mem_nil)]; rfl⟩
  | k :: r, l, i, h => by
    rw [List.foldl_cons]
    obtain ⟨h1, h2⟩ := fold_get first r (l.set k (rd first (k : Int))) i (by rw [List.length_set]; exact h)
    refine ⟨by rw [h1, List.length_set], ?_⟩
    rw [h2]
    by_cases hr : i ∈ r
    · rw [if_pos hr, if_pos (List.mem_cons_of_mem _ hr)]
    · rw [if_neg hr]
      by_cases hik : i = k
      · subst hik
        rw [if_pos (List.mem_cons_self ..), rd_set _ _ _ _ h, if_pos rfl]
      · rw [if_neg (by intro hm; rcases List.mem_cons.1 hm with e | e; exact hik e; exact hr e)]
        by_cases hkl : k < l.length
        · rw [rd_set _ _ _ _ hkl, if_neg hik]
        · rw [List.set_eq_of_length_le (by omega)]
theorem order_all : ∀ i : Nat, i < 19 → i ∈ orderL := by decide +kernel
theorem fold_first (first : List Int) (hl : first.length = 19) : orderL.foldl (fun l k => l.set k (rd first (k : Int))) (List.replicate 19 0) = first := by
  have hlen : (orderL.foldl (fun l k => l.set k (rd first (k : Int))) (List.replicate 19 0)).length = 19 := by
    have := (fold_get first orderL (List.replicate 19 0) 0 (by rw [List.length_replicate]; decide)).1
    rw [this, List.length_replicate]
  refine List.ext_getElem (by rw [hlen, hl]) (fun i h1 h2 => ?_)
  have h3 : i < 19 := by omega
  have h4 := (fold_get first orderL (List.replicate 19 0) i (by rw [List.length_replicate]; exact h3)).2
  rw [if_pos (order_all i h3), rd_get _ i h1, rd_get first i h2] at h4
  exact h4
/-- The lengths are read. -/
theorem read_lens {first : List Int} (ho : okL first = true) {z : ByteArray} (n : Nat) : ∀ (xs l : List Int) (F p : Nat), l.length + xs.length = n → (∀ x ∈ xs, okS first x ∧ x ≤ 15) → BitsAt z p (wdsB first xs) →
    (lengthsT first n (F + xs.length) l).run z p = .ok (l ++ xs) (p + (wdsB first xs).length)
  | [], l, F, p, hn, _, _ => by
    rw [List.length_nil, Nat.add_zero] at hn
    rw [lengthsT_end first n _ l (by omega), List.append_nil]
    rfl
  | x :: r, l, F, p, hn, hx, h => by
    rw [List.length_cons] at hn
    obtain ⟨hx1, hx2⟩ := hx x (List.mem_cons_self ..)
    have h2 : BitsAt z p (wd first x ++ wdsB first r) := h
    have r1 := read_wd ho hx1 h2.left
    rw [List.length_cons, ← Nat.add_assoc, lengthsT_step first n (F + r.length) l (by omega)]
    have hmany : (manyT first l).run z p = .ok (x, 1) (p + (wd first x).length) := by
      unfold manyT
      rw [bind_run _ r1, if_neg (by omega), if_neg (by omega), if_neg (by omega)]
      rfl
    rw [bind_run _ hmany, if_pos (by show l.length + 1 ≤ n; omega)]
    have ih := read_lens ho n r (l ++ [x]) F _ (by rw [List.length_append, List.length_singleton]; omega) (fun y hy => hx y (List.mem_cons_of_mem _ hy)) h2.right
    show (lengthsT first n (F + r.length) (l ++ List.replicate 1 x)).run z _ = _
    rw [show List.replicate 1 x = [x] from rfl, ih, List.append_assoc]
    show Res.ok (l ++ x :: r) _ = Res.ok (l ++ x :: r) (p + (wd first x ++ wdsB first r).length)
    rw [List.length_append, Nat.add_assoc]
end Go.Proofs.Ytaghmhcccighgaa.DF
end
section
/- What was packed by blocks of kind 2, what was stored, is read as it was: plain. -/
namespace Go.Proofs.Ytaghmhcccighgaa.DF
open Go.RowKit Go.Proofs.YtaghmhcccighgaaW.PrintWords Go.Proofs.Ytaghmhcccighgaa.MB Go.Proofs.Ytaghmhcccighgaa.Fn Go.Proofs.Ytaghmhcccighgaa.HF Go.Proofs.Ytaghmhcccighgaa.RT Go.Proofs.Ytaghmhcccighgaa.RT.Rd Go.Proofs.Ytaghmhcccighgaa.HP Go.Proofs.Ytaghmhcccighgaa.HI Go.Proofs.Ytaghmhcccighgaa.IW
theorem order_map : orderZ = orderL.map (fun k : Nat => (k : Int)) := by decide
/-- A block's tables are read. -/
theorem read_tabs {xs : List (Nat × Nat)} {b : List Bool} {lens dist first : List Int} (hd : DynB xs b lens dist first) {z : ByteArray} {p : Nat} (h : BitsAt z p (bitsOf 29 5 ++ bitsOf 29 5 ++ bitsOf 15 4 ++ firstB first orderZ ++ wdsB first (lens ++ dist))) :
    dynamicT.run z p = .ok (lens, dist) (p + (14 + 57 + (wdsB first (lens ++ dist)).length)) := by
  have b1 := h.left.left.left.left
  have b2 := h.left.left.left.right
  have b3 := h.left.left.right
  have b4 := h.left.right
  have b5 := h.right
  simp only [List.length_append, bitsOf_length, firstB_len] at b2 b3 b4 b5
  rw [show orderZ.length = 19 from rfl] at b5
  have r1 := read_n (x := 29) (n := 5) (by decide) b1
  have r2 := read_n (x := 29) (n := 5) (by decide) b2
  have r3 := read_n (x := 15) (n := 4) (by decide) b3
  rw [order_map] at b4
  have r4 := read_first first hd.f7 orderL (List.replicate 19 0) _ (fun k hk => by rw [hd.n3]; revert k; decide) b4
  rw [fold_first first hd.n3] at r4
  have r5 := read_lens (whole_okL hd.w3) 316 (lens ++ dist) [] 0 _ (by rw [List.length_nil, List.length_append, hd.n1, hd.n2]) (fun x hx => ⟨hd.al x hx, (hd.l15 x hx).2⟩) b5
  rw [List.nil_append, Nat.zero_add, List.length_append, hd.n1, hd.n2] at r5
  have ht : (lens ++ dist).take 286 = lens := by rw [List.take_append_of_le_length (by rw [hd.n1]; exact Nat.le_refl _), List.take_of_length_le (by rw [hd.n1]; exact Nat.le_refl _)]
  have hdr : (lens ++ dist).drop 286 = dist := by rw [← hd.n1, List.drop_left]
  have h256 : 0 < lens.getD 256 0 := by
    have h1 := hd.se.2.2
    have h2 := (hd.l15 (rd lens 256) (List.mem_append_left _ (by
      have := rd_get lens 256 (by rw [hd.n1]; decide)
      rw [show ((256 : Nat) : Int) = 256 from rfl] at this
      rw [this]
      exact List.getElem_mem _))).1
    have h3 : rd lens 256 = lens.getD 256 0 := rfl
    rw [h3] at h1 h2
    omega
  unfold dynamicT
  rw [bind_run _ r1, bind_run _ r2, bind_run _ r3, if_pos (by decide)]
  show ((firstT (orderL.take 19) (List.replicate 19 0)).bind _).run z _ = _
  rw [show orderL.take 19 = orderL from rfl, bind_run _ r4, if_pos hd.w3]
  show ((lengthsT first 316 316 []).bind _).run z _ = _
  rw [show p + (5 + 5 + 4) + 3 * orderL.length = p + (5 + 5 + 4 + 3 * 19) from rfl, bind_run _ r5]
  show (if 0 < ((lens ++ dist).take 286).getD 256 0 ∧ isWhole ((lens ++ dist).take 286) = true ∧ (isWhole ((lens ++ dist).drop 286) = true ∨ ((lens ++ dist).drop 286).sum ≤ 1) then ret ((lens ++ dist).take 286, (lens ++ dist).drop 286) else err 40).run z _ = _
  rw [ht, hdr, if_pos ⟨h256, hd.w1, Or.inl hd.w2⟩]
  show Res.ok (lens, dist) _ = Res.ok (lens, dist) _
  congr 1
  omega
/-- A block of kind 2 is read. -/
theorem read_dyn {s z : ByteArray} {xs : List (Nat × Nat)} {b : List Bool} {lens dist first : List Int} (hd : DynB xs b lens dist first) {m a e p : Nat} (hm : s.size ≤ m) (ha : a ≤ s.size) (ht : TokTo s a xs e) (hx : xs.length ≤ 100000000) (h : BitsAt z p b) :
    (kindT m manyF (pre s a) 2).run z p = .ok (pre s e) (p + b.length) := by
  have hb := h
  rw [hd.bs] at hb
  have r1 := read_tabs hd hb.left
  have h2 := hb.right
  simp only [List.length_append, bitsOf_length, firstB_len] at h2
  rw [show orderZ.length = 19 from rfl] at h2
  obtain ⟨F, hF⟩ : ∃ F, manyF = F + xs.length + 1 := ⟨manyF - xs.length - 1, by unfold manyF; omega⟩
  have r2 := read_syms (whole_okL hd.w1) (whole_okL hd.w2) m hm xs F _ a e ha ht hd.si hd.se h2
  rw [← hF] at r2
  have hto : tableO dist = some dist := by
    unfold tableO
    rw [isWhole_some hd.w2]
    rfl
  show (dynamicT.bind (fun z => packedT m z.1 (tableO z.2) manyF (pre s a))).run z p = _
  rw [bind_run _ r1]
  show (packedT m lens (tableO dist) manyF (pre s a)).run z _ = _
  rw [hto, show p + (14 + 57 + (wdsB first (lens ++ dist)).length) = p + (5 + 5 + 4 + 3 * 19 + (wdsB first (lens ++ dist)).length) from rfl, r2]
  rw [hd.bs]
  simp only [List.length_append, bitsOf_length, firstB_len]
  rw [show orderZ.length = 19 from rfl, Nat.add_assoc]
/-- All blocks of kind 2 are read. -/
theorem read_dyns {s z : ByteArray} {m : Nat} (hm : s.size ≤ m) {xs : List (Nat × Nat)} {b : List Bool} (hb : DynsB xs b) : ∀ (f a p : Nat), a ≤ s.size → TokTo s a xs s.size → xs.length ≤ 100000000 → BitsAt z p b → b.length ≤ f → (inflT m manyF f (pre s a)).run z p = .ok (bytesOf s) (p + b.length) := by
  induction hb with
  | @last xs b lens dist first hd =>
    intro f a p ha ht hx h hf
    simp only [List.length_append, bitsOf_length] at hf
    obtain ⟨f, rfl⟩ : ∃ k, f = k + 1 := ⟨f - 1, by omega⟩
    have h2 := h.right
    rw [List.length_append, bitsOf_length, bitsOf_length] at h2
    have hr := read_dyn hd hm ha ht hx h2
    have := block_run m manyF f (pre s a) (pre s s.size) (lv := 1) (k := 2) (by decide) (by decide) h.left hr
    rw [this, if_pos rfl, pre_all]
    congr 1
    simp only [List.length_append, bitsOf_length]
    omega
  | @more ys xs b r lens dist first hd hr ih =>
    intro f a p ha ht hx h hf
    simp only [List.length_append, bitsOf_length] at hf
    obtain ⟨f, rfl⟩ : ∃ k, f = k + 1 := ⟨f - 1, by omega⟩
    obtain ⟨e, t1, t2⟩ := tok_split s ys xs a s.size ht
    rw [List.length_append] at hx
    have h2 := h.left.right
    rw [List.length_append, bitsOf_length, bitsOf_length] at h2
    have h3 := h.right
    simp only [List.length_append, bitsOf_length] at h3
    have hrd := read_dyn hd hm ha t1 (by omega) h2
    have := block_run m manyF f (pre s a) (pre s e) (lv := 0) (k := 2) (by decide) (by decide) h.left.left hrd
    rw [this, if_neg (by decide)]
    have he := (tok_le ys a e ha t1).2
    have := ih f e _ he t2 (by omega) h3 (by omega)
    rw [show p + (1 + 2 + b.length) = p + 3 + b.length by omega] at this
    rw [show p + (1 + 2) + b.length = p + 3 + b.length from rfl] at *
    rw [this]
    congr 1
    simp only [List.length_append, bitsOf_length]
    omega
theorem dyns_law {s z : ByteArray} {m : Nat} {b : List Bool} (hm : m ≤ 1048576) (hs : s.size ≤ m) (hb : DynsB (symsOf s) b) (hz : STold z b) (hl : z.size ≤ 100000000) : inflR z (m : Int) = (s, (z.size : Int), 0) := by
  refine finish hm hz ?_
  have hlen := hz.1
  have := read_dyns hs hb manyF 0 0 (Nat.zero_le _) (tok_syms s) (by have := syms_len s; omega) (told0 hz) (by unfold manyF; omega)
  rw [Nat.zero_add] at this
  exact this
end Go.Proofs.Ytaghmhcccighgaa.DF
end
