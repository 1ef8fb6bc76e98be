/- postroadref14.numbers, postroadref14.May, walked. postroadref09.Same, postroadref14.Same: are they the same? -/
import Derived.Test.YtojnhklgfdfkcaaGC
import Derived.Test.YtojnhklgfdfkcaaGA
import Derived.Test.YtojnhklgfdfkcaaFnx3
import Derived.Deep.RegionWith
namespace Go.Proofs.Ytojnhklgfdfkcaa.WK
open Go.RowKit Go.Proofs.YtojnhklgfdfkcaaW.PrintWords Go.Proofs.YtojnhklgfdfkcaaW.PrintLast Go.Proofs.YtojnhklgfdfkcaaW.PrintMore Go.Proofs.Ytojnhklgfdfkcaa.MB Go.Proofs.Ytojnhklgfdfkcaa.HW Go.Proofs.Ytojnhklgfdfkcaa.Fn Go.Proofs.Ytojnhklgfdfkcaa.PV Go.Proofs.Ytojnhklgfdfkcaa.RB
attribute [local go_sem] max2_int min2_int max_two min_two max_three min_three max_four min_four   -- for this text's walks alone
theorem may_g (r : S63) : postroadref09_May.f r.f0 r.f1 r.f2 r.f3 = some (okRec r) := by
  unfold postroadref09_May.f
  have hiff := okRec_iff r
  have hn := toList_nil_iff r.f2
  by_cases h1 : r.f0 ≥ 0
  · rw [if_pos h1]
    by_cases h2 : r.f0 < 1099511627776
    · rw [if_pos h2]
      by_cases h3 : (r.f1.size : Int) ≤ 64
      · rw [if_pos h3]
        by_cases h4 : (r.f2.size : Int) ≤ 4096
        · rw [if_pos h4]
          by_cases h5 : r.f3 = true
          · rw [if_pos h5]
            congr 1
            rw [Bool.eq_iff_iff, beq_iff_eq, hiff, hn]
            exact ⟨fun h => ⟨h1, h2, by omega, by omega, fun _ => h⟩, fun h => h.2.2.2.2 h5⟩
          · rw [if_neg h5]
            congr 1
            exact (hiff.2 ⟨h1, h2, by omega, by omega, fun e => absurd e h5⟩).symm
        · rw [if_neg h4]
          congr 1
          exact (Bool.eq_false_iff.2 (fun e => by have := hiff.1 e; omega)).symm
      · rw [if_neg h3]
        congr 1
        exact (Bool.eq_false_iff.2 (fun e => by have := hiff.1 e; omega)).symm
    · rw [if_neg h2]
      congr 1
      exact (Bool.eq_false_iff.2 (fun e => by have := hiff.1 e; omega)).symm
  · rw [if_neg h1]
    congr 1
    exact (Bool.eq_false_iff.2 (fun e => by have := hiff.1 e; omega)).symm
/-- A block of eleven numbers. -/
def NBlk (W : World) (f : Nat) (ns : List Int) : Prop := W.heap[f]? = some (.cells (ns.map (Value.int .i64)).toArray 3 (0, 0))
theorem NBlk.at_ {W : World} {f : Nat} {ns : List Int} (h : NBlk W f ns) (i : Nat) (hi : i < ns.length) : W.cell? ⟨f, i, none⟩ = some (.int .i64 (ns.getD i 0)) := by
  refine (blk_cell h i).trans ?_
  rw [List.getElem?_toArray, List.getElem?_map, List.getD_eq_getElem?_getD, List.getElem?_eq_getElem hi]
  rfl
def mosts : List Int := [10, 255, 255, 1099511627776, 1099511627776, 1099511627776, 1099511627776, 999, 1099511627776, 1099511627776, 1099511627776]
theorem mosts_at (i : Nat) : mosts.getD i 0 = mostOf i := rfl
set_option maxHeartbeats 4000000 in
set_option maxRecDepth 100000 in
theorem numbers_any (a0 a1 a2 a3 a4 a5 a6 a7 a8 a9 a10 : Int) (A11 : Option Addr) (n11 c11 : Nat) (A12 : Option Addr) (n12 c12 : Nat) (w : World) :
    Calls Try.prog 25 #[.agg #[.int .i64 a0, .int .i64 a1, .int .i64 a2, .int .i64 a3, .int .i64 a4, .int .i64 a5, .int .i64 a6, .int .i64 a7, .int .i64 a8, .int .i64 a9, .int .i64 a10, .slice A11 n11 c11, .slice A12 n12 c12]] w fun x w' => ∃ f, x = .returned (.slice (some ⟨f, 0, none⟩) 11 11) ∧ w.heap.size ≤ f ∧ NBlk w' f [a0, a1, a2, a3, a4, a5, a6, a7, a8, a9, a10] ∧ Below w.heap.size w w' := by
  have hu := Try.underlying28
  have hu3 := Try.underlying24
  go_enter Try.func25, Try.ntmps25
  go_upto_region 1 with (fail)
  have hQ := heap_alloc_new w (.cells (mcells a0 a1 a2 a3 a4 a5 a6 a7 a8 a9 a10 (.slice A11 n11 c11) (.slice A12 n12 c12)) 28)
  have HB := Aside0.mk (below_alloc (Below.refl w.heap.size w) (.cells (mcells a0 a1 a2 a3 a4 a5 a6 a7 a8 a9 a10 (.slice A11 n11 c11) (.slice A12 n12 c12)) 28))
  obtain ⟨g, hg⟩ : ∃ g, w.heap.size = g := ⟨_, rfl⟩
  rw [hg] at hQ HB ⊢
  have HG := Aside0.mk hg
  clear hg
  unfold mcells at hQ HB
  generalize w.alloc (.cells #[.int .i64 a0, .int .i64 a1, .int .i64 a2, .int .i64 a3, .int .i64 a4, .int .i64 a5, .int .i64 a6, .int .i64 a7, .int .i64 a8, .int .i64 a9, .int .i64 a10, .slice A11 n11 c11, .slice A12 n12 c12] 28) = w1 at hQ HB ⊢
  have e0 : w1.cell? ⟨g, 0, none⟩ = some (.int .i64 a0) := (blk_cell hQ 0).trans rfl
  have e1 : w1.cell? ⟨g, 1, none⟩ = some (.int .i64 a1) := (blk_cell hQ 1).trans rfl
  have e2 : w1.cell? ⟨g, 2, none⟩ = some (.int .i64 a2) := (blk_cell hQ 2).trans rfl
  have e3 : w1.cell? ⟨g, 3, none⟩ = some (.int .i64 a3) := (blk_cell hQ 3).trans rfl
  have e4 : w1.cell? ⟨g, 4, none⟩ = some (.int .i64 a4) := (blk_cell hQ 4).trans rfl
  have e5 : w1.cell? ⟨g, 5, none⟩ = some (.int .i64 a5) := (blk_cell hQ 5).trans rfl
  have e6 : w1.cell? ⟨g, 6, none⟩ = some (.int .i64 a6) := (blk_cell hQ 6).trans rfl
  have e7 : w1.cell? ⟨g, 7, none⟩ = some (.int .i64 a7) := (blk_cell hQ 7).trans rfl
  have e8 : w1.cell? ⟨g, 8, none⟩ = some (.int .i64 a8) := (blk_cell hQ 8).trans rfl
  have e9 : w1.cell? ⟨g, 9, none⟩ = some (.int .i64 a9) := (blk_cell hQ 9).trans rfl
  have e10 : w1.cell? ⟨g, 10, none⟩ = some (.int .i64 a10) := (blk_cell hQ 10).trans rfl
  clear hQ
  go_wp2_with fail
  go_ret
  have hs : g ≤ w1.heap.size := by rw [← HG.out]; exact HB.out.size
  exact ⟨_, rfl, by rw [HG.out]; exact hs, heap_alloc_new w1 _, by rw [HG.out]; exact HB.out.trans ((below_alloc (Below.refl _ _) _).mono hs)⟩
/-- The message's block, the numbers', the bounds'. -/
structure MS (w W : World) (g f m : Nat) (ns : List Int) (mc : Array Value) : Prop where
  hq : W.heap[g]? = some (.cells mc 28 (0, 0))
  hf : NBlk W f ns
  hm : NBlk W m mosts
  be : Below w.heap.size w W
theorem MS.below {w W W' : World} {g f m : Nat} {ns : List Int} {mc : Array Value} (h : MS w W g f m ns mc) (hb : Below W.heap.size W W') : MS w W' g f m ns mc :=
  ⟨(hb.block _ (blk_lt h.hq)).trans h.hq, (hb.block _ (blk_lt h.hf)).trans h.hf, (hb.block _ (blk_lt h.hm)).trans h.hm, h.be.trans (hb.mono h.be.size)⟩
set_option maxHeartbeats 8000000 in
set_option maxRecDepth 100000 in
theorem may_any (a0 a1 a2 a3 a4 a5 a6 a7 a8 a9 a10 : Int) (A11 : Option Addr) (c11 : Nat) (log : List ByteArray) (A12 : Option Addr) (c12 : Nat) (body : List S63) (w : World) (hr1 : Kd.C Kd.string w A11 log.length log) (hr2 : Kd.C k63 w A12 body.length body) (hl : log.length ≤ 9223372036854775807) (hb : body.length ≤ 9223372036854775807) :
    Calls Try.prog 24 #[.agg #[.int .i64 a0, .int .i64 a1, .int .i64 a2, .int .i64 a3, .int .i64 a4, .int .i64 a5, .int .i64 a6, .int .i64 a7, .int .i64 a8, .int .i64 a9, .int .i64 a10, .slice A11 log.length c11, .slice A12 body.length c12]] w fun x w' => x = .returned (.bool (okMsg [a0, a1, a2, a3, a4, a5, a6, a7, a8, a9, a10] log body)) ∧ Below w.heap.size w w' := by
  obtain ⟨rr, hrr⟩ : ∃ r : Bool, okMsg [a0, a1, a2, a3, a4, a5, a6, a7, a8, a9, a10] log body = r := ⟨_, rfl⟩
  rw [hrr]
  have HRR := Aside0.mk hrr
  clear hrr
  have hu := Try.underlying28
  have hu3 := Try.underlying24
  have HR1 := Aside0.mk hr1
  have HR2 := Aside0.mk hr2
  have HL := Aside0.mk hl
  have HLB := Aside0.mk hb
  clear hr1 hr2 hl hb
  go_enter Try.func24, Try.ntmps24
  go_upto_region 1 with (fail)
  have hQ := heap_alloc_new w (.cells (mcells a0 a1 a2 a3 a4 a5 a6 a7 a8 a9 a10 (.slice A11 log.length c11) (.slice A12 body.length c12)) 28)
  have HB := Aside0.mk (below_alloc (Below.refl w.heap.size w) (.cells (mcells a0 a1 a2 a3 a4 a5 a6 a7 a8 a9 a10 (.slice A11 log.length c11) (.slice A12 body.length c12)) 28))
  obtain ⟨g, hg⟩ : ∃ g, w.heap.size = g := ⟨_, rfl⟩
  rw [hg] at hQ HB ⊢
  have HG := Aside0.mk hg
  clear hg
  unfold mcells at hQ HB
  generalize w.alloc (.cells #[.int .i64 a0, .int .i64 a1, .int .i64 a2, .int .i64 a3, .int .i64 a4, .int .i64 a5, .int .i64 a6, .int .i64 a7, .int .i64 a8, .int .i64 a9, .int .i64 a10, .slice A11 log.length c11, .slice A12 body.length c12] 28) = w1 at hQ HB ⊢
  have e0 : w1.cell? ⟨g, 0, none⟩ = some (.int .i64 a0) := (blk_cell hQ 0).trans rfl
  have e1 : w1.cell? ⟨g, 1, none⟩ = some (.int .i64 a1) := (blk_cell hQ 1).trans rfl
  have e2 : w1.cell? ⟨g, 2, none⟩ = some (.int .i64 a2) := (blk_cell hQ 2).trans rfl
  have e3 : w1.cell? ⟨g, 3, none⟩ = some (.int .i64 a3) := (blk_cell hQ 3).trans rfl
  have e4 : w1.cell? ⟨g, 4, none⟩ = some (.int .i64 a4) := (blk_cell hQ 4).trans rfl
  have e5 : w1.cell? ⟨g, 5, none⟩ = some (.int .i64 a5) := (blk_cell hQ 5).trans rfl
  have e6 : w1.cell? ⟨g, 6, none⟩ = some (.int .i64 a6) := (blk_cell hQ 6).trans rfl
  have e7 : w1.cell? ⟨g, 7, none⟩ = some (.int .i64 a7) := (blk_cell hQ 7).trans rfl
  have e8 : w1.cell? ⟨g, 8, none⟩ = some (.int .i64 a8) := (blk_cell hQ 8).trans rfl
  have e9 : w1.cell? ⟨g, 9, none⟩ = some (.int .i64 a9) := (blk_cell hQ 9).trans rfl
  have e10 : w1.cell? ⟨g, 10, none⟩ = some (.int .i64 a10) := (blk_cell hQ 10).trans rfl
  have e11 : w1.cell? ⟨g, 11, none⟩ = some (.slice A11 log.length c11) := (blk_cell hQ 11).trans rfl
  have e12 : w1.cell? ⟨g, 12, none⟩ = some (.slice A12 body.length c12) := (blk_cell hQ 12).trans rfl
  have HQ := Aside0.mk hQ
  clear hQ
  go_wp2_with fail
  refine (numbers_any a0 a1 a2 a3 a4 a5 a6 a7 a8 a9 a10 A11 log.length c11 A12 body.length c12 _).mono ?_
  rintro x w2 ⟨f, rfl, hfs, hF, hb⟩
  have HQ2 := Aside0.mk ((hb.block _ (blk_lt HQ.out)).trans HQ.out)
  have HF2 := Aside0.mk hF
  have HB2 := Aside0.mk (HB.out.trans (hb.mono (by rw [← HG.out]; exact HB.out.size)))
  clear hb hfs hF HQ HB e0 e1 e2 e3 e4 e5 e6 e7 e8 e9 e10 e11 e12
  go_upto_region 3 with (fail)
  have hb := below_alloc (Below.refl w2.heap.size w2) (.cells (mosts.map (Value.int .i64)).toArray 3)
  have HM0 := Aside0.mk (show NBlk (w2.alloc (.cells (mosts.map (Value.int .i64)).toArray 3)) w2.heap.size mosts from heap_alloc_new w2 _)
  have HC := Aside0.mk (show MS w (w2.alloc (.cells (mosts.map (Value.int .i64)).toArray 3)) g f w2.heap.size [a0, a1, a2, a3, a4, a5, a6, a7, a8, a9, a10] _ from ⟨(hb.block _ (blk_lt HQ2.out)).trans HQ2.out, (hb.block _ (blk_lt HF2.out)).trans HF2.out, HM0.out, by rw [HG.out]; exact HB2.out.trans (hb.mono (by rw [← HG.out]; exact HB2.out.size))⟩)
  obtain ⟨m, hm⟩ : ∃ m, w2.heap.size = m := ⟨_, rfl⟩
  rw [hm] at HC ⊢
  unfold mosts at HC
  simp only [List.map_cons, List.map_nil] at HC
  generalize w2.alloc (.cells _ 3) = w3 at HC ⊢
  clear hb HM0 hm HQ2 HF2 HB2
  obtain ⟨ns, hns⟩ : ∃ ns, [a0, a1, a2, a3, a4, a5, a6, a7, a8, a9, a10] = ns := ⟨_, rfl⟩
  rw [hns] at HC
  have HNS := Aside0.mk hns
  have HNL := Aside0.mk (show ns.length = 11 by rw [← hns]; rfl)
  clear hns
  obtain ⟨mc, hmc⟩ : ∃ mc : Array Value, mc = #[.int .i64 a0, .int .i64 a1, .int .i64 a2, .int .i64 a3, .int .i64 a4, .int .i64 a5, .int .i64 a6, .int .i64 a7, .int .i64 a8, .int .i64 a9, .int .i64 a10, .slice A11 log.length c11, .slice A12 body.length c12] := ⟨_, rfl⟩
  rw [← hmc] at HC
  have HMC := Aside0.mk hmc
  clear hmc
  have HC : Aside0 (MS w w3 g f m ns mc) := ⟨⟨HC.out.hq, HC.out.hf, HC.out.hm, HC.out.be⟩⟩
  go_wp2_with fail
  go_loopw [5] (fun v5 wr => ∃ i : Nat, v5 = .int .i64 i ∧ i ≤ 11 ∧ Aside0 (MS w wr g f m ns mc) ∧ Aside0 (∀ j, j < i → 0 ≤ ns.getD j 0 ∧ ns.getD j 0 ≤ mostOf j)) (fun v5 _ => 11 - (intOf v5).toNat)
  case atStart => exact ⟨0, rfl, by decide, HC, ⟨fun j hj => absurd hj (Nat.not_lt_zero j)⟩⟩
  case round =>
    clear HC
    obtain ⟨i, rfl, hi, HC, HOK⟩ := hrel
    by_cases hlt : i < 11
    · have hb1 : decide ((i : Int) < 11) = true := by simp; omega
      have hx := HC.out.hf.at_ i (by rw [HNL.out]; exact hlt)
      have hmo := HC.out.hm.at_ i hlt
      rw [mosts_at] at hmo
      obtain ⟨x, hxx⟩ : ∃ x, ns.getD i 0 = x := ⟨_, rfl⟩
      obtain ⟨mo, hmm⟩ : ∃ x, mostOf i = x := ⟨_, rfl⟩
      rw [hxx] at hx
      rw [hmm] at hmo
      have q1 : (0 : Int) ≤ (i : Int) := by omega
      have q2 : (i : Int) < 11 := by omega
      have hbadx : x < 0 ∨ mo < x → ¬ okMsg [a0, a1, a2, a3, a4, a5, a6, a7, a8, a9, a10] log body = true := by
        rw [HNS.out]
        intro h e
        unfold okMsg at e
        rw [Bool.and_eq_true] at e
        have := (okNums_iff ns).1 e.1 i hlt
        omega
      have HBAD := Aside0.mk hbadx
      clear hbadx
      by_cases c1 : x < 0
      · have b1 : decide (x < 0) = true := by simpa using c1
        have hbad := HBAD.out (Or.inl c1)
        have HBD := Aside0.mk hbad
        clear c1 hxx hmm hbad HBAD
        go_upto_region 6 with (fail)
        go_region
        all_goals
          go_wp2_with fail
          go_ret
          exact ⟨by rw [← HRR.out, Bool.eq_false_iff.2 HBD.out]; rfl, (HC.out.below (below_drew (Below.refl _ _))).be⟩
      · have b1 : decide (x < 0) = false := by simp; omega
        by_cases c2 : mo < x
        · have b2 : decide (mo < x) = true := by simpa using c2
          have hbad := HBAD.out (Or.inr c2)
          have HBD := Aside0.mk hbad
          clear c1 c2 hxx hmm hbad HBAD
          go_upto_region 6 with (fail)
          go_region
          all_goals
            go_wp2_with fail
            go_ret
            exact ⟨by rw [← HRR.out, Bool.eq_false_iff.2 HBD.out]; rfl, (HC.out.below (below_drew (Below.refl _ _))).be⟩
        · have b2 : decide (mo < x) = false := by simp; omega
          have HOK2 := Aside0.mk (show ∀ j, j < i + 1 → 0 ≤ ns.getD j 0 ∧ ns.getD j 0 ≤ mostOf j from fun j hj => by
            by_cases hji : j = i
            · subst hji; omega
            · exact HOK.out j (by omega))
          clear c1 c2 hxx hmm HBAD
          go_upto_region 6 with (fail)
          go_region
          all_goals
            have HC6 := Aside0.mk (HC.out.below (below_drew (Below.refl _ _)))
            generalize wr.drew = w6 at HC6 ⊢
            clear HC hx hmo
            go_wp2_with fail
            go_roundw
            case rel => exact ⟨i + 1, by simp, hlt, HC6, HOK2⟩
            case measure => simp [intOf]; omega
    · have hie : i = 11 := by omega
      subst hie
      have HN := Aside0.mk ((okNums_iff ns).2 HOK.out)
      have hb1 : decide ((11 : Int) < 11) = false := by decide
      have h0 : 0 ≤ a0 := by
        have := (HOK.out 0 (by decide)).1
        rw [← HNS.out] at this
        exact this
      have HMQ := Aside0.mk (show wr.heap[g]? = some (.cells #[.int .i64 a0, .int .i64 a1, .int .i64 a2, .int .i64 a3, .int .i64 a4, .int .i64 a5, .int .i64 a6, .int .i64 a7, .int .i64 a8, .int .i64 a9, .int .i64 a10, .slice A11 log.length c11, .slice A12 body.length c12] 28 (0, 0)) by rw [← HMC.out]; exact HC.out.hq)
      have e0 : wr.cell? ⟨g, 0, none⟩ = some (.int .i64 a0) := (blk_cell HMQ.out 0).trans rfl
      have e11 : wr.cell? ⟨g, 11, none⟩ = some (.slice A11 log.length c11) := (blk_cell HMQ.out 11).trans rfl
      have e12 : wr.cell? ⟨g, 12, none⟩ = some (.slice A12 body.length c12) := (blk_cell HMQ.out 12).trans rfl
      have HC1 := Aside0.mk (Kd.C_below HR1.out HC.out.be)
      have HC2 := Aside0.mk (Kd.C_below HR2.out HC.out.be)
      have hbadx : a0 < 1 ∨ 4096 < log.length ∨ 256 < body.length → ¬ okMsg [a0, a1, a2, a3, a4, a5, a6, a7, a8, a9, a10] log body = true := by
        intro h e
        unfold okMsg at e
        simp only [Bool.and_eq_true, decide_eq_true_iff] at e
        have h1 : a0 ≠ 0 := e.2.1
        have h2 := e.2.2.1
        have h3 := e.2.2.2.1
        omega
      have HBAD := Aside0.mk hbadx
      have H0 := Aside0.mk h0
      clear hbadx h0
      by_cases c1 : a0 < 1
      · have b1 : decide (a0 < 1) = true := by simpa using c1
        have hbad := Aside0.mk (HBAD.out (Or.inl c1))
        clear c1
        go_wp2_with fail
        go_ret
        exact ⟨by rw [← HRR.out, Bool.eq_false_iff.2 hbad.out]; rfl, HC.out.be⟩
      · have b1 : decide (a0 < 1) = false := by simp; omega
        by_cases c2 : 4096 < log.length
        · have b2 : decide (4096 < (log.length : Int)) = true := by simp; omega
          have hbad := Aside0.mk (HBAD.out (Or.inr (Or.inl c2)))
          clear c1 c2
          go_wp2_with fail
          go_ret
          exact ⟨by rw [← HRR.out, Bool.eq_false_iff.2 hbad.out]; rfl, HC.out.be⟩
        · have b2 : decide (4096 < (log.length : Int)) = false := by simp; omega
          by_cases c3 : 256 < body.length
          · have b3 : decide (256 < (body.length : Int)) = true := by simp; omega
            have hbad := Aside0.mk (HBAD.out (Or.inr (Or.inr c3)))
            clear c1 c2 c3
            go_wp2_with fail
            go_ret
            exact ⟨by rw [← HRR.out, Bool.eq_false_iff.2 hbad.out]; rfl, HC.out.be⟩
          · have b3 : decide (256 < (body.length : Int)) = false := by simp; omega
            have HM := Aside0.mk (show a0 ≠ 0 ∧ log.length ≤ 4096 ∧ body.length ≤ 256 by omega)
            clear c1 c2 c3 HBAD
            go_wp2_with fail
            go_loopw [6] (fun v6 wr => ∃ i : Nat, v6 = .int .i64 i ∧ i ≤ log.length ∧ Aside0 (MS w wr g f m ns mc) ∧ Aside0 (∀ j, j < i → (log.getD j ByteArray.empty).size ≤ 262154)) (fun v6 _ => log.length - (intOf v6).toNat)
            case atStart => exact ⟨0, rfl, Nat.zero_le _, HC, ⟨fun j hj => absurd hj (Nat.not_lt_zero j)⟩⟩
            case round =>
              clear HC e0 e11 e12 HC1 HC2 b1 b2 b3 HMQ
              obtain ⟨i, rfl, hi, HC, HJ⟩ := hrel
              have HMQ := Aside0.mk (show wr.heap[g]? = some (.cells #[.int .i64 a0, .int .i64 a1, .int .i64 a2, .int .i64 a3, .int .i64 a4, .int .i64 a5, .int .i64 a6, .int .i64 a7, .int .i64 a8, .int .i64 a9, .int .i64 a10, .slice A11 log.length c11, .slice A12 body.length c12] 28 (0, 0)) by rw [← HMC.out]; exact HC.out.hq)
              have e11 : wr.cell? ⟨g, 11, none⟩ = some (.slice A11 log.length c11) := (blk_cell HMQ.out 11).trans rfl
              by_cases hlt : i < log.length
              · have hb1 : decide ((i : Int) < (log.length : Int)) = true := by simp; omega
                have HC1 := Kd.C_below HR1.out HC.out.be
                obtain ⟨ad, hA, hx⟩ := Kd.at_string HC1 (i : Int) (by omega) (by omega)
                subst hA
                simp only [Int.toNat_natCast] at hx
                obtain ⟨t, ht⟩ : ∃ t, rdOf ByteArray.empty log (i : Int) = t := ⟨_, rfl⟩
                have htt : log.getD i ByteArray.empty = t := by rw [← ht]; simp [rdOf]
                rw [ht] at hx
                have hi20 : i ≤ 1000000 := by have := HM.out; omega
                clear HC1 ht
                by_cases c4 : 262154 < t.size
                · have b4 : decide (262154 < (t.size : Int)) = true := by simp; omega
                  have hbad := Aside0.mk (show ¬ okMsg [a0, a1, a2, a3, a4, a5, a6, a7, a8, a9, a10] log body = true by
                    intro e
                    unfold okMsg at e
                    simp only [Bool.and_eq_true, decide_eq_true_iff] at e
                    have := (allLog_iff log).1 e.2.2.2.2.1 i hlt
                    rw [htt] at this
                    omega)
                  clear c4
                  go_wp2_with fail
                  go_ret
                  exact ⟨by rw [← HRR.out, Bool.eq_false_iff.2 hbad.out]; rfl, HC.out.be⟩
                · have b4 : decide (262154 < (t.size : Int)) = false := by simp; omega
                  have HJ2 := Aside0.mk (show ∀ j, j < i + 1 → (log.getD j ByteArray.empty).size ≤ 262154 from fun j hj => by
                    by_cases hji : j = i
                    · subst hji; rw [htt]; omega
                    · exact HJ.out j (by omega))
                  clear c4 htt
                  go_wp2_with fail
                  go_roundw
                  case rel => exact ⟨i + 1, by simp, hlt, HC, HJ2⟩
                  case measure => simp [intOf]; omega
              · have hie : i = log.length := by omega
                subst hie
                have HLG := Aside0.mk ((allLog_iff log).2 HJ.out)
                have hb1 : decide ((log.length : Int) < (log.length : Int)) = false := by simp
                clear HJ
                go_wp2_with fail
                go_loopw [7] (fun v7 wr => ∃ i : Nat, v7 = .int .i64 i ∧ i ≤ body.length ∧ Aside0 (MS w wr g f m ns mc) ∧ Aside0 (∀ j, j < i → (body.getD j z63).f0 = ((0 + j : Nat) : Int) ∧ okRec (body.getD j z63) = true)) (fun v7 _ => body.length - (intOf v7).toNat)
                case atStart => exact ⟨0, rfl, Nat.zero_le _, HC, ⟨fun j hj => absurd hj (Nat.not_lt_zero j)⟩⟩
                case round =>
                  clear HC e11 hb1 HMQ
                  obtain ⟨i, rfl, hi, HC, HJ⟩ := hrel
                  have HMQ := Aside0.mk (show wr.heap[g]? = some (.cells #[.int .i64 a0, .int .i64 a1, .int .i64 a2, .int .i64 a3, .int .i64 a4, .int .i64 a5, .int .i64 a6, .int .i64 a7, .int .i64 a8, .int .i64 a9, .int .i64 a10, .slice A11 log.length c11, .slice A12 body.length c12] 28 (0, 0)) by rw [← HMC.out]; exact HC.out.hq)
                  have e12 : wr.cell? ⟨g, 12, none⟩ = some (.slice A12 body.length c12) := (blk_cell HMQ.out 12).trans rfl
                  by_cases hlt : i < body.length
                  · have hb1 : decide ((i : Int) < (body.length : Int)) = true := by simp; omega
                    have HC2 := Kd.C_below HR2.out HC.out.be
                    obtain ⟨ad, hA, k0, k1, k2, k3⟩ := at_T63 HC2 (i : Int) (by omega) (by omega)
                    subst hA
                    obtain ⟨r, hr⟩ : ∃ r, rd_T63 body (i : Int) = r := ⟨_, rfl⟩
                    have hrr : body.getD i z63 = r := by rw [← hr]; simp [rd_T63]
                    rw [hr] at k0 k1 k2 k3
                    simp only [Int.toNat_natCast] at k0 k1 k2 k3
                    have hi20 : i ≤ 1000000 := by have := HM.out; omega
                    clear HC2 hr
                    by_cases c5 : r.f0 = (i : Int)
                    · have b5 : (r.f0 != (i : Int)) = false := by simpa using c5
                      have b6 : (r.f0 == (i : Int)) = true := by simpa using c5
                      have HC5' := Aside0.mk c5
                      clear c5
                      go_wp2_with fail
                      refine (postroadref09_May.calls r.f0 r.f1 r.f2 r.f3 _ _ (may_g r)).mono ?_
                      rintro x w6 ⟨rfl, hb⟩
                      have HC6 := Aside0.mk (HC.out.below hb)
                      clear hb
                      obtain ⟨okr, hok⟩ : ∃ y, okRec r = y := ⟨_, rfl⟩
                      rw [hok]
                      cases okr with
                      | true =>
                        have HJ2 := Aside0.mk (show ∀ j, j < i + 1 → (body.getD j z63).f0 = ((0 + j : Nat) : Int) ∧ okRec (body.getD j z63) = true from fun j hj => by
                          by_cases hji : j = i
                          · subst hji; rw [hrr, Nat.zero_add]; exact ⟨HC5'.out, hok⟩
                          · exact HJ.out j (by omega))
                        clear hok hrr
                        go_wp2_with fail
                        go_roundw
                        case rel => ((repeat apply Exists.intro); exact ⟨⟨i + 1, by first | rfl | simp, hlt, HC6, HJ2⟩, rfl⟩)
                        case measure => simp [intOf]; omega
                      | false =>
                        have hbad := Aside0.mk (show ¬ okMsg [a0, a1, a2, a3, a4, a5, a6, a7, a8, a9, a10] log body = true by
                          intro e
                          unfold okMsg at e
                          simp only [Bool.and_eq_true, decide_eq_true_iff] at e
                          have := ((okBody_iff body 0).1 e.2.2.2.2.2 i hlt).2
                          rw [hrr, hok] at this
                          exact absurd this (by decide))
                        clear hok hrr
                        go_wp2_with fail
                        go_ret
                        exact ⟨by rw [← HRR.out, Bool.eq_false_iff.2 hbad.out]; rfl, HC6.out.be⟩
                    · have b5 : (r.f0 != (i : Int)) = true := by simpa using c5
                      have b6 : (r.f0 == (i : Int)) = false := by simpa using c5
                      have hbad := Aside0.mk (show ¬ okMsg [a0, a1, a2, a3, a4, a5, a6, a7, a8, a9, a10] log body = true by
                        intro e
                        unfold okMsg at e
                        simp only [Bool.and_eq_true, decide_eq_true_iff] at e
                        have := ((okBody_iff body 0).1 e.2.2.2.2.2 i hlt).1
                        rw [hrr, Nat.zero_add] at this
                        exact c5 this)
                      clear c5
                      go_wp2_with fail
                      go_ret
                      exact ⟨by rw [← HRR.out, Bool.eq_false_iff.2 hbad.out]; rfl, HC.out.be⟩
                  · have hie : i = body.length := by omega
                    subst hie
                    have hb1 : decide ((body.length : Int) < (body.length : Int)) = false := by simp
                    have hgood := Aside0.mk (show okMsg [a0, a1, a2, a3, a4, a5, a6, a7, a8, a9, a10] log body = true by
                      unfold okMsg
                      simp only [Bool.and_eq_true, decide_eq_true_iff]
                      exact ⟨by rw [HNS.out]; exact HN.out, HM.out.1, HM.out.2.1, HM.out.2.2, HLG.out, (okBody_iff body 0).2 HJ.out⟩)
                    go_wp2_with fail
                    go_ret
                    exact ⟨by rw [← HRR.out, hgood.out]; rfl, HC.out.be⟩
end Go.Proofs.Ytojnhklgfdfkcaa.WK
namespace Go.Proofs.Ytojnhklgfdfkcaa.WK
open Go.RowKit Go.Proofs.YtojnhklgfdfkcaaW.PrintWords Go.Proofs.YtojnhklgfdfkcaaW.PrintLast Go.Proofs.YtojnhklgfdfkcaaW.PrintMore Go.Proofs.Ytojnhklgfdfkcaa.MB Go.Proofs.Ytojnhklgfdfkcaa.HW Go.Proofs.Ytojnhklgfdfkcaa.Fn Go.Proofs.Ytojnhklgfdfkcaa.PV Go.Proofs.Ytojnhklgfdfkcaa.RB
attribute [local go_sem] max2_int min2_int max_two min_two max_three min_three max_four min_four   -- for this text's walks alone
theorem list_ba (a b : ByteArray) : (a.toList == b.toList) = true ↔ a = b := by
  rw [beq_iff_eq, Lib.toList_data, Lib.toList_data]
  exact ⟨fun h => ByteArray.ext (Array.ext' h), fun h => by rw [h]⟩
def eqRec (a b : S63) : Bool := (a.f0 == b.f0) && ((a.f1.toList == b.f1.toList) && ((a.f2.toList == b.f2.toList) && (a.f3 == b.f3)))
theorem eqRec_iff (a b : S63) : eqRec a b = true ↔ a = b := by
  unfold eqRec
  rw [Bool.and_eq_true, Bool.and_eq_true, Bool.and_eq_true, list_ba, list_ba, beq_iff_eq, beq_iff_eq]
  constructor
  · rintro ⟨h1, h2, h3, h4⟩
    cases a; cases b
    simp only at h1 h2 h3 h4
    subst h1; subst h2; subst h3; subst h4
    rfl
  · rintro rfl; exact ⟨rfl, rfl, rfl, rfl⟩
def eqRecs : List S63 → List S63 → Bool
  | [], [] => true
  | a :: t, b :: u => eqRec a b && eqRecs t u
  | _, _ => false
theorem eqRecs_iff : ∀ a b : List S63, eqRecs a b = true ↔ a = b
  | [], [] => by simp [eqRecs]
  | a :: t, b :: u => by rw [eqRecs, Bool.and_eq_true, eqRec_iff, eqRecs_iff t u]; simp
  | [], b :: u => by simp [eqRecs]
  | a :: t, [] => by simp [eqRecs]
theorem rd_drop (l : List S63) (i : Nat) (h : i < l.length) : l.drop i = rd_T63 l (i : Int) :: l.drop (i + 1) := by
  rw [List.drop_eq_getElem_cons h]
  simp [rd_T63, List.getD_eq_getElem?_getD, h]
theorem same9_loop (l m : List S63) (hlm : l.length = m.length) (hl : l.length ≤ 1000000000) : ∀ (d k i : Nat), d + i = l.length → d < k → postroadref09_Same.l0 k l m (i : Int) = some (eqRecs (l.drop i) (m.drop i)) := by
  intro d
  induction d with
  | zero =>
    intro k i hd hk
    obtain ⟨k, rfl⟩ : ∃ j, k = j + 1 := ⟨k - 1, by omega⟩
    rw [postroadref09_Same.l0, if_neg (by omega), List.drop_eq_nil_of_le (by omega), List.drop_eq_nil_of_le (by omega)]
    rfl
  | succ d ih =>
    intro k i hd hk
    obtain ⟨k, rfl⟩ : ∃ j, k = j + 1 := ⟨k - 1, by omega⟩
    have ih2 := ih k (i + 1) (by omega) (by omega)
    rw [postroadref09_Same.l0, if_pos (by omega), if_pos (by omega), if_pos (by omega), rd_drop l i (by omega), rd_drop m i (by omega), eqRecs, show wrap64 ((i : Int) + 1) = ((i + 1 : Nat) : Int) from by rw [wrap64_id _ (by omega) (by omega)]; rfl, ih2]
    unfold eqRec
    cases ((rd_T63 l (i : Int)).f0 == (rd_T63 m (i : Int)).f0) <;> cases ((rd_T63 l (i : Int)).f1.toList == (rd_T63 m (i : Int)).f1.toList) <;> cases ((rd_T63 l (i : Int)).f2.toList == (rd_T63 m (i : Int)).f2.toList) <;> cases ((rd_T63 l (i : Int)).f3 == (rd_T63 m (i : Int)).f3) <;> rfl
theorem same9_f (l m : List S63) (hl : l.length ≤ 1000000000) (k : Nat) (hk : l.length < k) : postroadref09_Same.f k l m = some (eqRecs l m) := by
  unfold postroadref09_Same.f
  by_cases h : (l.length : Int) = (m.length : Int)
  · rw [if_pos h, show (0 : Int) = ((0 : Nat) : Int) from rfl, same9_loop l m (by omega) hl l.length k 0 (by omega) hk]; rfl
  · rw [if_neg h]
    congr 1
    exact (Bool.eq_false_iff.2 (fun e => h (by rw [(eqRecs_iff l m).1 e]))).symm
/-- Are messages the same? -/
def sameMsg (ns ms : List Int) (la lb : List ByteArray) (ba bb : List S63) : Bool := decide (ns = ms) && (eqRecs ba bb && decide (la.map (·.toList) = lb.map (·.toList)))
theorem map_ba : ∀ a b : List ByteArray, a.map (·.toList) = b.map (·.toList) ↔ a = b
  | [], [] => by simp
  | a :: t, b :: u => by
    rw [List.map_cons, List.map_cons, List.cons.injEq, List.cons.injEq, map_ba t u]
    have := list_ba a b
    rw [beq_iff_eq] at this
    rw [this]
  | [], b :: u => by simp
  | a :: t, [] => by simp
theorem sameMsg_iff (ns ms : List Int) (la lb : List ByteArray) (ba bb : List S63) : sameMsg ns ms la lb ba bb = true ↔ ns = ms ∧ la = lb ∧ ba = bb := by
  unfold sameMsg
  rw [Bool.and_eq_true, Bool.and_eq_true, decide_eq_true_iff, decide_eq_true_iff, eqRecs_iff, map_ba]
  exact ⟨fun h => ⟨h.1, h.2.2, h.2.1⟩, fun h => ⟨h.1, h.2.2, h.2.1⟩⟩
/-- Two messages' blocks, their numbers'. -/
structure SS2 (w W : World) (ga gb fa fb : Nat) (ns ms : List Int) (ca cb : Array Value) : Prop where
  qa : W.heap[ga]? = some (.cells ca 28 (0, 0))
  qb : W.heap[gb]? = some (.cells cb 28 (0, 0))
  na : NBlk W fa ns
  nb : NBlk W fb ms
  be : Below w.heap.size w W
theorem SS2.below {w W W' : World} {ga gb fa fb : Nat} {ns ms : List Int} {ca cb : Array Value} (h : SS2 w W ga gb fa fb ns ms ca cb) (hb : Below W.heap.size W W') : SS2 w W' ga gb fa fb ns ms ca cb :=
  ⟨(hb.block _ (blk_lt h.qa)).trans h.qa, (hb.block _ (blk_lt h.qb)).trans h.qb, (hb.block _ (blk_lt h.na)).trans h.na, (hb.block _ (blk_lt h.nb)).trans h.nb, h.be.trans (hb.mono h.be.size)⟩
set_option maxHeartbeats 16000000 in
set_option maxRecDepth 100000 in
theorem same_any (a0 a1 a2 a3 a4 a5 a6 a7 a8 a9 a10 : Int) (A11 : Option Addr) (c11 : Nat) (la : List ByteArray) (A12 : Option Addr) (c12 : Nat) (ba : List S63) (b0 b1 b2 b3 b4 b5 b6 b7 b8 b9 b10 : Int) (B11 : Option Addr) (d11 : Nat) (lb : List ByteArray) (B12 : Option Addr) (d12 : Nat) (bb : List S63) (w : World) (hr1 : Kd.C Kd.string w A11 la.length la) (hr2 : Kd.C k63 w A12 ba.length ba) (hs1 : Kd.C Kd.string w B11 lb.length lb) (hs2 : Kd.C k63 w B12 bb.length bb) (hc2 : ba.length ≤ c12) (hd2 : bb.length ≤ d12) (hl : la.length ≤ 1000000000) (hb : ba.length ≤ 1000000000) :
    Calls Try.prog 16 #[.agg #[.int .i64 a0, .int .i64 a1, .int .i64 a2, .int .i64 a3, .int .i64 a4, .int .i64 a5, .int .i64 a6, .int .i64 a7, .int .i64 a8, .int .i64 a9, .int .i64 a10, .slice A11 la.length c11, .slice A12 ba.length c12], .agg #[.int .i64 b0, .int .i64 b1, .int .i64 b2, .int .i64 b3, .int .i64 b4, .int .i64 b5, .int .i64 b6, .int .i64 b7, .int .i64 b8, .int .i64 b9, .int .i64 b10, .slice B11 lb.length d11, .slice B12 bb.length d12]] w fun x w' => x = .returned (.bool (sameMsg [a0, a1, a2, a3, a4, a5, a6, a7, a8, a9, a10] [b0, b1, b2, b3, b4, b5, b6, b7, b8, b9, b10] la lb ba bb)) ∧ Below w.heap.size w w' := by
  obtain ⟨rr, hrr⟩ : ∃ r : Bool, sameMsg [a0, a1, a2, a3, a4, a5, a6, a7, a8, a9, a10] [b0, b1, b2, b3, b4, b5, b6, b7, b8, b9, b10] la lb ba bb = r := ⟨_, rfl⟩
  rw [hrr]
  have HRR := Aside0.mk hrr
  clear hrr
  have hu := Try.underlying28
  have hu3 := Try.underlying24
  have HR1 := Aside0.mk hr1
  have HR2 := Aside0.mk hr2
  have HS1 := Aside0.mk hs1
  have HS2 := Aside0.mk hs2
  have HL := Aside0.mk hl
  have HLB := Aside0.mk hb
  have HCD := Aside0.mk (And.intro hc2 hd2)
  clear hr1 hr2 hs1 hs2 hl hb hc2 hd2
  go_enter Try.func16, Try.ntmps16
  go_upto_region 1 with (fail)
  have hQA := heap_alloc_new w (.cells #[.int .i64 a0, .int .i64 a1, .int .i64 a2, .int .i64 a3, .int .i64 a4, .int .i64 a5, .int .i64 a6, .int .i64 a7, .int .i64 a8, .int .i64 a9, .int .i64 a10, .slice A11 la.length c11, .slice A12 ba.length c12] 28)
  have hB1 := below_alloc (Below.refl w.heap.size w) (.cells #[.int .i64 a0, .int .i64 a1, .int .i64 a2, .int .i64 a3, .int .i64 a4, .int .i64 a5, .int .i64 a6, .int .i64 a7, .int .i64 a8, .int .i64 a9, .int .i64 a10, .slice A11 la.length c11, .slice A12 ba.length c12] 28)
  obtain ⟨ga, hga⟩ : ∃ g, w.heap.size = g := ⟨_, rfl⟩
  have HGA := Aside0.mk hga
  have hsz : (w.alloc (.cells #[.int .i64 a0, .int .i64 a1, .int .i64 a2, .int .i64 a3, .int .i64 a4, .int .i64 a5, .int .i64 a6, .int .i64 a7, .int .i64 a8, .int .i64 a9, .int .i64 a10, .slice A11 la.length c11, .slice A12 ba.length c12] 28)).heap.size = ga + 1 := by rw [← hga]; exact Array.size_push _
  rw [hga] at hQA ⊢
  have HB1 := Aside0.mk hB1
  have HSZ := Aside0.mk hsz
  clear hga hsz hB1
  generalize w.alloc (.cells #[.int .i64 a0, .int .i64 a1, .int .i64 a2, .int .i64 a3, .int .i64 a4, .int .i64 a5, .int .i64 a6, .int .i64 a7, .int .i64 a8, .int .i64 a9, .int .i64 a10, .slice A11 la.length c11, .slice A12 ba.length c12] 28) = w1 at hQA HB1 HSZ ⊢
  have hQB := heap_alloc_new w1 (.cells #[.int .i64 b0, .int .i64 b1, .int .i64 b2, .int .i64 b3, .int .i64 b4, .int .i64 b5, .int .i64 b6, .int .i64 b7, .int .i64 b8, .int .i64 b9, .int .i64 b10, .slice B11 lb.length d11, .slice B12 bb.length d12] 28)
  have hB2 := below_alloc (Below.refl w1.heap.size w1) (.cells #[.int .i64 b0, .int .i64 b1, .int .i64 b2, .int .i64 b3, .int .i64 b4, .int .i64 b5, .int .i64 b6, .int .i64 b7, .int .i64 b8, .int .i64 b9, .int .i64 b10, .slice B11 lb.length d11, .slice B12 bb.length d12] 28)
  have hQA2 := (hB2.block _ (blk_lt hQA)).trans hQA
  have HB := Aside0.mk (HB1.out.trans (hB2.mono HB1.out.size))
  rw [HSZ.out] at hQB
  obtain ⟨gb, hgb⟩ : ∃ g, ga + 1 = g := ⟨_, rfl⟩
  rw [hgb] at hQB ⊢
  generalize w1.alloc (.cells #[.int .i64 b0, .int .i64 b1, .int .i64 b2, .int .i64 b3, .int .i64 b4, .int .i64 b5, .int .i64 b6, .int .i64 b7, .int .i64 b8, .int .i64 b9, .int .i64 b10, .slice B11 lb.length d11, .slice B12 bb.length d12] 28) = w2 at hQA2 hQB HB ⊢
  have HQA := Aside0.mk hQA2
  have HQB := Aside0.mk hQB
  clear hQA hQA2 hQB hB2 hgb
  have e0 : w2.cell? ⟨ga, 0, none⟩ = some (.int .i64 a0) := (blk_cell HQA.out 0).trans rfl
  have e1 : w2.cell? ⟨ga, 1, none⟩ = some (.int .i64 a1) := (blk_cell HQA.out 1).trans rfl
  have e2 : w2.cell? ⟨ga, 2, none⟩ = some (.int .i64 a2) := (blk_cell HQA.out 2).trans rfl
  have e3 : w2.cell? ⟨ga, 3, none⟩ = some (.int .i64 a3) := (blk_cell HQA.out 3).trans rfl
  have e4 : w2.cell? ⟨ga, 4, none⟩ = some (.int .i64 a4) := (blk_cell HQA.out 4).trans rfl
  have e5 : w2.cell? ⟨ga, 5, none⟩ = some (.int .i64 a5) := (blk_cell HQA.out 5).trans rfl
  have e6 : w2.cell? ⟨ga, 6, none⟩ = some (.int .i64 a6) := (blk_cell HQA.out 6).trans rfl
  have e7 : w2.cell? ⟨ga, 7, none⟩ = some (.int .i64 a7) := (blk_cell HQA.out 7).trans rfl
  have e8 : w2.cell? ⟨ga, 8, none⟩ = some (.int .i64 a8) := (blk_cell HQA.out 8).trans rfl
  have e9 : w2.cell? ⟨ga, 9, none⟩ = some (.int .i64 a9) := (blk_cell HQA.out 9).trans rfl
  have e10 : w2.cell? ⟨ga, 10, none⟩ = some (.int .i64 a10) := (blk_cell HQA.out 10).trans rfl
  have e11 : w2.cell? ⟨ga, 11, none⟩ = some (.slice A11 la.length c11) := (blk_cell HQA.out 11).trans rfl
  have e12 : w2.cell? ⟨ga, 12, none⟩ = some (.slice A12 ba.length c12) := (blk_cell HQA.out 12).trans rfl
  have h0 : w2.cell? ⟨gb, 0, none⟩ = some (.int .i64 b0) := (blk_cell HQB.out 0).trans rfl
  have h1 : w2.cell? ⟨gb, 1, none⟩ = some (.int .i64 b1) := (blk_cell HQB.out 1).trans rfl
  have h2 : w2.cell? ⟨gb, 2, none⟩ = some (.int .i64 b2) := (blk_cell HQB.out 2).trans rfl
  have h3 : w2.cell? ⟨gb, 3, none⟩ = some (.int .i64 b3) := (blk_cell HQB.out 3).trans rfl
  have h4 : w2.cell? ⟨gb, 4, none⟩ = some (.int .i64 b4) := (blk_cell HQB.out 4).trans rfl
  have h5 : w2.cell? ⟨gb, 5, none⟩ = some (.int .i64 b5) := (blk_cell HQB.out 5).trans rfl
  have h6 : w2.cell? ⟨gb, 6, none⟩ = some (.int .i64 b6) := (blk_cell HQB.out 6).trans rfl
  have h7 : w2.cell? ⟨gb, 7, none⟩ = some (.int .i64 b7) := (blk_cell HQB.out 7).trans rfl
  have h8 : w2.cell? ⟨gb, 8, none⟩ = some (.int .i64 b8) := (blk_cell HQB.out 8).trans rfl
  have h9 : w2.cell? ⟨gb, 9, none⟩ = some (.int .i64 b9) := (blk_cell HQB.out 9).trans rfl
  have h10 : w2.cell? ⟨gb, 10, none⟩ = some (.int .i64 b10) := (blk_cell HQB.out 10).trans rfl
  have h11 : w2.cell? ⟨gb, 11, none⟩ = some (.slice B11 lb.length d11) := (blk_cell HQB.out 11).trans rfl
  have h12 : w2.cell? ⟨gb, 12, none⟩ = some (.slice B12 bb.length d12) := (blk_cell HQB.out 12).trans rfl
  replace HQA := Aside0.mk (show w2.drew.heap[ga]? = _ from HQA.out)
  replace HQB := Aside0.mk (show w2.drew.heap[gb]? = _ from HQB.out)
  replace HB := Aside0.mk (show Below w.heap.size w w2.drew from below_drew HB.out)
  go_region_with (go_at_call 25; first | ((with_reducible refine (numbers_any a0 a1 a2 a3 a4 a5 a6 a7 a8 a9 a10 A11 la.length c11 A12 ba.length c12 _).mono ?_); rintro x w5 ⟨fa, rfl, hfs, hF, hb⟩; clear e0 h0 e1 h1 e2 h2 e3 h3 e4 h4 e5 h5 e6 h6 e7 h7 e8 h8 e9 h9 e10 h10 e11 h11 e12 h12; have HFA := Aside0.mk hF; (try replace HFB := Aside0.mk ((hb.block _ (blk_lt HFB.out)).trans HFB.out)); replace HQA := Aside0.mk ((hb.block _ (blk_lt HQA.out)).trans HQA.out); replace HQB := Aside0.mk ((hb.block _ (blk_lt HQB.out)).trans HQB.out); replace HB := Aside0.mk (HB.out.trans (hb.mono HB.out.size)); clear hb hfs hF; have e0 : w5.cell? ⟨ga, 0, none⟩ = some (.int .i64 a0) := (blk_cell HQA.out 0).trans rfl; have e1 : w5.cell? ⟨ga, 1, none⟩ = some (.int .i64 a1) := (blk_cell HQA.out 1).trans rfl; have e2 : w5.cell? ⟨ga, 2, none⟩ = some (.int .i64 a2) := (blk_cell HQA.out 2).trans rfl; have e3 : w5.cell? ⟨ga, 3, none⟩ = some (.int .i64 a3) := (blk_cell HQA.out 3).trans rfl; have e4 : w5.cell? ⟨ga, 4, none⟩ = some (.int .i64 a4) := (blk_cell HQA.out 4).trans rfl; have e5 : w5.cell? ⟨ga, 5, none⟩ = some (.int .i64 a5) := (blk_cell HQA.out 5).trans rfl; have e6 : w5.cell? ⟨ga, 6, none⟩ = some (.int .i64 a6) := (blk_cell HQA.out 6).trans rfl; have e7 : w5.cell? ⟨ga, 7, none⟩ = some (.int .i64 a7) := (blk_cell HQA.out 7).trans rfl; have e8 : w5.cell? ⟨ga, 8, none⟩ = some (.int .i64 a8) := (blk_cell HQA.out 8).trans rfl; have e9 : w5.cell? ⟨ga, 9, none⟩ = some (.int .i64 a9) := (blk_cell HQA.out 9).trans rfl; have e10 : w5.cell? ⟨ga, 10, none⟩ = some (.int .i64 a10) := (blk_cell HQA.out 10).trans rfl; have e11 : w5.cell? ⟨ga, 11, none⟩ = some (.slice A11 la.length c11) := (blk_cell HQA.out 11).trans rfl; have e12 : w5.cell? ⟨ga, 12, none⟩ = some (.slice A12 ba.length c12) := (blk_cell HQA.out 12).trans rfl; have h0 : w5.cell? ⟨gb, 0, none⟩ = some (.int .i64 b0) := (blk_cell HQB.out 0).trans rfl; have h1 : w5.cell? ⟨gb, 1, none⟩ = some (.int .i64 b1) := (blk_cell HQB.out 1).trans rfl; have h2 : w5.cell? ⟨gb, 2, none⟩ = some (.int .i64 b2) := (blk_cell HQB.out 2).trans rfl; have h3 : w5.cell? ⟨gb, 3, none⟩ = some (.int .i64 b3) := (blk_cell HQB.out 3).trans rfl; have h4 : w5.cell? ⟨gb, 4, none⟩ = some (.int .i64 b4) := (blk_cell HQB.out 4).trans rfl; have h5 : w5.cell? ⟨gb, 5, none⟩ = some (.int .i64 b5) := (blk_cell HQB.out 5).trans rfl; have h6 : w5.cell? ⟨gb, 6, none⟩ = some (.int .i64 b6) := (blk_cell HQB.out 6).trans rfl; have h7 : w5.cell? ⟨gb, 7, none⟩ = some (.int .i64 b7) := (blk_cell HQB.out 7).trans rfl; have h8 : w5.cell? ⟨gb, 8, none⟩ = some (.int .i64 b8) := (blk_cell HQB.out 8).trans rfl; have h9 : w5.cell? ⟨gb, 9, none⟩ = some (.int .i64 b9) := (blk_cell HQB.out 9).trans rfl; have h10 : w5.cell? ⟨gb, 10, none⟩ = some (.int .i64 b10) := (blk_cell HQB.out 10).trans rfl; have h11 : w5.cell? ⟨gb, 11, none⟩ = some (.slice B11 lb.length d11) := (blk_cell HQB.out 11).trans rfl; have h12 : w5.cell? ⟨gb, 12, none⟩ = some (.slice B12 bb.length d12) := (blk_cell HQB.out 12).trans rfl) | ((with_reducible refine (numbers_any b0 b1 b2 b3 b4 b5 b6 b7 b8 b9 b10 B11 lb.length d11 B12 bb.length d12 _).mono ?_); rintro x w5 ⟨fb, rfl, hfs, hF, hb⟩; clear e0 h0 e1 h1 e2 h2 e3 h3 e4 h4 e5 h5 e6 h6 e7 h7 e8 h8 e9 h9 e10 h10 e11 h11 e12 h12; have HFB := Aside0.mk hF; (try replace HFA := Aside0.mk ((hb.block _ (blk_lt HFA.out)).trans HFA.out)); replace HQA := Aside0.mk ((hb.block _ (blk_lt HQA.out)).trans HQA.out); replace HQB := Aside0.mk ((hb.block _ (blk_lt HQB.out)).trans HQB.out); replace HB := Aside0.mk (HB.out.trans (hb.mono HB.out.size)); clear hb hfs hF; have e0 : w5.cell? ⟨ga, 0, none⟩ = some (.int .i64 a0) := (blk_cell HQA.out 0).trans rfl; have e1 : w5.cell? ⟨ga, 1, none⟩ = some (.int .i64 a1) := (blk_cell HQA.out 1).trans rfl; have e2 : w5.cell? ⟨ga, 2, none⟩ = some (.int .i64 a2) := (blk_cell HQA.out 2).trans rfl; have e3 : w5.cell? ⟨ga, 3, none⟩ = some (.int .i64 a3) := (blk_cell HQA.out 3).trans rfl; have e4 : w5.cell? ⟨ga, 4, none⟩ = some (.int .i64 a4) := (blk_cell HQA.out 4).trans rfl; have e5 : w5.cell? ⟨ga, 5, none⟩ = some (.int .i64 a5) := (blk_cell HQA.out 5).trans rfl; have e6 : w5.cell? ⟨ga, 6, none⟩ = some (.int .i64 a6) := (blk_cell HQA.out 6).trans rfl; have e7 : w5.cell? ⟨ga, 7, none⟩ = some (.int .i64 a7) := (blk_cell HQA.out 7).trans rfl; have e8 : w5.cell? ⟨ga, 8, none⟩ = some (.int .i64 a8) := (blk_cell HQA.out 8).trans rfl; have e9 : w5.cell? ⟨ga, 9, none⟩ = some (.int .i64 a9) := (blk_cell HQA.out 9).trans rfl; have e10 : w5.cell? ⟨ga, 10, none⟩ = some (.int .i64 a10) := (blk_cell HQA.out 10).trans rfl; have e11 : w5.cell? ⟨ga, 11, none⟩ = some (.slice A11 la.length c11) := (blk_cell HQA.out 11).trans rfl; have e12 : w5.cell? ⟨ga, 12, none⟩ = some (.slice A12 ba.length c12) := (blk_cell HQA.out 12).trans rfl; have h0 : w5.cell? ⟨gb, 0, none⟩ = some (.int .i64 b0) := (blk_cell HQB.out 0).trans rfl; have h1 : w5.cell? ⟨gb, 1, none⟩ = some (.int .i64 b1) := (blk_cell HQB.out 1).trans rfl; have h2 : w5.cell? ⟨gb, 2, none⟩ = some (.int .i64 b2) := (blk_cell HQB.out 2).trans rfl; have h3 : w5.cell? ⟨gb, 3, none⟩ = some (.int .i64 b3) := (blk_cell HQB.out 3).trans rfl; have h4 : w5.cell? ⟨gb, 4, none⟩ = some (.int .i64 b4) := (blk_cell HQB.out 4).trans rfl; have h5 : w5.cell? ⟨gb, 5, none⟩ = some (.int .i64 b5) := (blk_cell HQB.out 5).trans rfl; have h6 : w5.cell? ⟨gb, 6, none⟩ = some (.int .i64 b6) := (blk_cell HQB.out 6).trans rfl; have h7 : w5.cell? ⟨gb, 7, none⟩ = some (.int .i64 b7) := (blk_cell HQB.out 7).trans rfl; have h8 : w5.cell? ⟨gb, 8, none⟩ = some (.int .i64 b8) := (blk_cell HQB.out 8).trans rfl; have h9 : w5.cell? ⟨gb, 9, none⟩ = some (.int .i64 b9) := (blk_cell HQB.out 9).trans rfl; have h10 : w5.cell? ⟨gb, 10, none⟩ = some (.int .i64 b10) := (blk_cell HQB.out 10).trans rfl; have h11 : w5.cell? ⟨gb, 11, none⟩ = some (.slice B11 lb.length d11) := (blk_cell HQB.out 11).trans rfl; have h12 : w5.cell? ⟨gb, 12, none⟩ = some (.slice B12 bb.length d12) := (blk_cell HQB.out 12).trans rfl))
  all_goals
    have HC := Aside0.mk (show SS2 w w5 ga gb fa fb [a0, a1, a2, a3, a4, a5, a6, a7, a8, a9, a10] [b0, b1, b2, b3, b4, b5, b6, b7, b8, b9, b10] _ _ from ⟨HQA.out, HQB.out, HFA.out, HFB.out, HB.out⟩)
    clear HQA HQB HFA HFB HB HB1 HSZ
    clear e0 h0 e1 h1 e2 h2 e3 h3 e4 h4 e5 h5 e6 h6 e7 h7 e8 h8 e9 h9 e10 h10 e11 h11 e12 h12
    obtain ⟨ns, hns⟩ : ∃ ns, [a0, a1, a2, a3, a4, a5, a6, a7, a8, a9, a10] = ns := ⟨_, rfl⟩
    obtain ⟨ms, hms⟩ : ∃ ms, [b0, b1, b2, b3, b4, b5, b6, b7, b8, b9, b10] = ms := ⟨_, rfl⟩
    rw [hns, hms] at HC HRR
    have HNL := Aside0.mk (show ns.length = 11 by rw [← hns]; rfl)
    have HML := Aside0.mk (show ms.length = 11 by rw [← hms]; rfl)
    clear hns hms
    obtain ⟨ca, hca⟩ : ∃ c : Array Value, c = #[.int .i64 a0, .int .i64 a1, .int .i64 a2, .int .i64 a3, .int .i64 a4, .int .i64 a5, .int .i64 a6, .int .i64 a7, .int .i64 a8, .int .i64 a9, .int .i64 a10, .slice A11 la.length c11, .slice A12 ba.length c12] := ⟨_, rfl⟩
    obtain ⟨cb, hcb⟩ : ∃ c : Array Value, c = #[.int .i64 b0, .int .i64 b1, .int .i64 b2, .int .i64 b3, .int .i64 b4, .int .i64 b5, .int .i64 b6, .int .i64 b7, .int .i64 b8, .int .i64 b9, .int .i64 b10, .slice B11 lb.length d11, .slice B12 bb.length d12] := ⟨_, rfl⟩
    rw [← hca, ← hcb] at HC
    have HCA11 := Aside0.mk (show ca[11]? = some (.slice A11 la.length c11) by rw [hca]; rfl)
    have HCA12 := Aside0.mk (show ca[12]? = some (.slice A12 ba.length c12) by rw [hca]; rfl)
    have HCB11 := Aside0.mk (show cb[11]? = some (.slice B11 lb.length d11) by rw [hcb]; rfl)
    have HCB12 := Aside0.mk (show cb[12]? = some (.slice B12 bb.length d12) by rw [hcb]; rfl)
    clear hca hcb
    go_wp2_with fail
    go_loopw [7] (fun v7 wr => ∃ i : Nat, v7 = .int .i64 i ∧ i ≤ 11 ∧ Aside0 (SS2 w wr ga gb fa fb ns ms ca cb) ∧ Aside0 (∀ j, j < i → ns.getD j 0 = ms.getD j 0)) (fun v7 _ => 11 - (intOf v7).toNat)
    case atStart => exact ⟨0, rfl, by decide, HC, ⟨fun j hj => absurd hj (Nat.not_lt_zero j)⟩⟩
    case round =>
      clear HC
      obtain ⟨i, rfl, hi, HC, HOK⟩ := hrel
      by_cases hlt : i < 11
      · have hb1 : decide ((i : Int) < 11) = true := by simp; omega
        have hx := HC.out.na.at_ i (by rw [HNL.out]; exact hlt)
        have hy := HC.out.nb.at_ i (by rw [HML.out]; exact hlt)
        obtain ⟨x, hxx⟩ : ∃ x, ns.getD i 0 = x := ⟨_, rfl⟩
        obtain ⟨y, hyy⟩ : ∃ x, ms.getD i 0 = x := ⟨_, rfl⟩
        rw [hxx] at hx
        rw [hyy] at hy
        have q1 : (0 : Int) ≤ (i : Int) := by omega
        have q2 : (i : Int) < 11 := by omega
        by_cases c1 : x = y
        · have b1 : (x != y) = false := by simpa using c1
          have b2 : (x == y) = true := by simpa using c1
          have HOK2 := Aside0.mk (show ∀ j, j < i + 1 → ns.getD j 0 = ms.getD j 0 from fun j hj => by
            by_cases hji : j = i
            · subst hji; rw [hxx, hyy]; exact c1
            · exact HOK.out j (by omega))
          clear c1 hxx hyy
          go_upto_region 5 with (fail)
          go_region
          all_goals
            have HC6 := Aside0.mk (HC.out.below (below_drew (Below.refl _ _)))
            generalize wr.drew = w6 at HC6 ⊢
            clear HC hx hy
            go_wp2_with fail
            go_roundw
            case rel => exact ⟨i + 1, by simp, hlt, HC6, HOK2⟩
            case measure => simp [intOf]; omega
        · have b1 : (x != y) = true := by simpa using c1
          have b2 : (x == y) = false := by simpa using c1
          have HBD := Aside0.mk (show sameMsg ns ms la lb ba bb = false from Bool.eq_false_iff.2 (fun e => c1 (by rw [← hxx, ← hyy, ((sameMsg_iff _ _ _ _ _ _).1 e).1])))
          clear c1 hxx hyy
          go_upto_region 5 with (fail)
          go_region
          all_goals
            go_wp2_with fail
            go_ret
            exact ⟨by rw [← HRR.out, HBD.out]; rfl, (HC.out.below (below_drew (Below.refl _ _))).be⟩
      · have hie : i = 11 := by omega
        subst hie
        have HNE := Aside0.mk (show ns = ms from List.ext_getElem (by rw [HNL.out, HML.out]) (fun j h1 h2 => by
          have := HOK.out j (by rw [HNL.out] at h1; exact h1)
          rw [List.getD_eq_getElem?_getD, List.getD_eq_getElem?_getD, List.getElem?_eq_getElem h1, List.getElem?_eq_getElem h2] at this
          exact this))
        have hb1 : decide ((11 : Int) < 11) = false := by decide
        have e11 : wr.cell? ⟨ga, 11, none⟩ = some (.slice A11 la.length c11) := (blk_cell HC.out.qa 11).trans HCA11.out
        have e12 : wr.cell? ⟨ga, 12, none⟩ = some (.slice A12 ba.length c12) := (blk_cell HC.out.qa 12).trans HCA12.out
        have h11 : wr.cell? ⟨gb, 11, none⟩ = some (.slice B11 lb.length d11) := (blk_cell HC.out.qb 11).trans HCB11.out
        have h12 : wr.cell? ⟨gb, 12, none⟩ = some (.slice B12 bb.length d12) := (blk_cell HC.out.qb 12).trans HCB12.out
        by_cases c1 : la.length = lb.length
        · have HLL := Aside0.mk c1
          have b1 : ((la.length : Int) != (lb.length : Int)) = false := by simp; omega
          have b2 : ((la.length : Int) == (lb.length : Int)) = true := by simp; omega
          clear c1
          go_wp2_with fail
          refine (postroadref09_Same.calls (ba.length + 1) A12 c12 ba B12 d12 bb _ _ (Kd.C_below HR2.out HC.out.be) HCD.out.1 (Kd.C_below HS2.out HC.out.be) HCD.out.2 (same9_f ba bb HLB.out _ (Nat.lt_succ_self _))).mono ?_
          rintro x w6 ⟨rfl, ⟨nd, rfl⟩⟩
          have HC6 := Aside0.mk (HC.out.below (pw_below_drewN (Below.refl _ _) nd))
          generalize wr.drewN nd = w6 at HC6 ⊢
          clear HC e11 e12 h11 h12
          obtain ⟨be, hbe⟩ : ∃ y, eqRecs ba bb = y := ⟨_, rfl⟩
          rw [hbe]
          have HBE := Aside0.mk hbe
          clear hbe
          cases be with
          | false =>
            have HBD := Aside0.mk (show sameMsg ns ms la lb ba bb = false from Bool.eq_false_iff.2 (fun e => by
              have h1 := (eqRecs_iff ba bb).2 ((sameMsg_iff _ _ _ _ _ _).1 e).2.2
              rw [HBE.out] at h1
              exact absurd h1 (by decide)))
            go_wp2_with fail
            go_ret
            exact ⟨by rw [← HRR.out, HBD.out]; rfl, HC6.out.be⟩
          | true =>
            go_wp2_with fail
            go_loopw [8] (fun v8 wr => ∃ i : Nat, v8 = .int .i64 i ∧ i ≤ la.length ∧ Aside0 (SS2 w wr ga gb fa fb ns ms ca cb) ∧ Aside0 (∀ j, j < i → la.getD j ByteArray.empty = lb.getD j ByteArray.empty)) (fun v8 _ => la.length - (intOf v8).toNat)
            case atStart => exact ⟨0, rfl, Nat.zero_le _, HC6, ⟨fun j hj => absurd hj (Nat.not_lt_zero j)⟩⟩
            case round =>
              clear HC6 hb1 b1 b2 hlt hi HOK
              obtain ⟨i, rfl, hi, HC, HJ⟩ := hrel
              have e11 : wr.cell? ⟨ga, 11, none⟩ = some (.slice A11 la.length c11) := (blk_cell HC.out.qa 11).trans HCA11.out
              have h11 : wr.cell? ⟨gb, 11, none⟩ = some (.slice B11 lb.length d11) := (blk_cell HC.out.qb 11).trans HCB11.out
              by_cases hlt : i < la.length
              · have hb1 : decide ((i : Int) < (la.length : Int)) = true := by simp; omega
                have HC1 := Kd.C_below HR1.out HC.out.be
                obtain ⟨ad, hA, hx⟩ := Kd.at_string HC1 (i : Int) (by omega) (by omega)
                subst hA
                have HC2 := Kd.C_below HS1.out HC.out.be
                obtain ⟨bd, hB, hy⟩ := Kd.at_string HC2 (i : Int) (by omega) (by have := HLL.out; omega)
                subst hB
                simp only [Int.toNat_natCast] at hx hy
                obtain ⟨t, ht⟩ : ∃ t, rdOf ByteArray.empty la (i : Int) = t := ⟨_, rfl⟩
                obtain ⟨u, hu⟩ : ∃ t, rdOf ByteArray.empty lb (i : Int) = t := ⟨_, rfl⟩
                have htt : la.getD i ByteArray.empty = t := by rw [← ht]; simp [rdOf]
                have huu : lb.getD i ByteArray.empty = u := by rw [← hu]; simp [rdOf]
                rw [ht] at hx
                rw [hu] at hy
                have q1 : (0 : Int) ≤ (i : Int) := by omega
                have q2 : (i : Int) < (la.length : Int) := by omega
                have q3 : (i : Int) < (lb.length : Int) := by have := HLL.out; omega
                have hi20 : i ≤ 1000000000 := by have := HL.out; omega
                clear HC1 HC2 ht hu
                by_cases c1 : t = u
                · have b1 : (t.toList != u.toList) = false := by rw [c1]; simp
                  have b2 : (t.toList == u.toList) = true := (list_ba t u).2 c1
                  have HJ2 := Aside0.mk (show ∀ j, j < i + 1 → la.getD j ByteArray.empty = lb.getD j ByteArray.empty from fun j hj => by
                    by_cases hji : j = i
                    · subst hji; rw [htt, huu]; exact c1
                    · exact HJ.out j (by omega))
                  clear c1 htt huu
                  go_upto_region 12 with (fail)
                  go_region
                  all_goals
                    have HC6 := Aside0.mk (HC.out.below (below_drew (Below.refl _ _)))
                    generalize wr.drew = w6 at HC6 ⊢
                    clear HC hx hy e11 h11
                    go_wp2_with fail
                    go_roundw
                    case rel => exact ⟨i + 1, by simp, hlt, HC6, HJ2⟩
                    case measure => simp [intOf]; omega
                · have b2 : (t.toList == u.toList) = false := Bool.eq_false_iff.2 (fun e => c1 ((list_ba t u).1 e))
                  have b1 : (t.toList != u.toList) = true := by rw [bne, b2]; rfl
                  have HBD := Aside0.mk (show sameMsg ns ms la lb ba bb = false from Bool.eq_false_iff.2 (fun e => c1 (by rw [← htt, ← huu, ((sameMsg_iff _ _ _ _ _ _).1 e).2.1])))
                  clear c1 htt huu
                  go_upto_region 12 with (fail)
                  go_region
                  all_goals
                    go_wp2_with fail
                    go_ret
                    exact ⟨by rw [← HRR.out, HBD.out]; rfl, (HC.out.below (below_drew (Below.refl _ _))).be⟩
              · have hie : i = la.length := by omega
                subst hie
                have hb1 : decide ((la.length : Int) < (la.length : Int)) = false := by simp
                have HGD := Aside0.mk (show sameMsg ns ms la lb ba bb = true from (sameMsg_iff _ _ _ _ _ _).2 ⟨HNE.out, List.ext_getElem HLL.out (fun j h1 h2 => by
                  have := HJ.out j h1
                  rw [List.getD_eq_getElem?_getD, List.getD_eq_getElem?_getD, List.getElem?_eq_getElem h1, List.getElem?_eq_getElem h2] at this
                  exact this), (eqRecs_iff _ _).1 HBE.out⟩)
                go_wp2_with fail
                go_ret
                exact ⟨by rw [← HRR.out, HGD.out]; rfl, HC.out.be⟩
        · have b1 : ((la.length : Int) != (lb.length : Int)) = true := by simp; omega
          have b2 : ((la.length : Int) == (lb.length : Int)) = false := by simp; omega
          have HBD := Aside0.mk (show sameMsg ns ms la lb ba bb = false from Bool.eq_false_iff.2 (fun e => c1 (by rw [((sameMsg_iff _ _ _ _ _ _).1 e).2.1])))
          clear c1
          go_wp2_with fail
          go_ret
          exact ⟨by rw [← HRR.out, HBD.out]; rfl, HC.out.be⟩
end Go.Proofs.Ytojnhklgfdfkcaa.WK
