/- SessionQueue: walked. -/
import Derived.Test.YtllgaikgpfionaaHSAwk
import Derived.OpenShut
namespace Go.Proofs.Ytllgaikgpfionaa.SM
open Go.RowKit Go.Proofs.YtllgaikgpfionaaW.PrintWords Go.Proofs.YtllgaikgpfionaaW.PrintLast Go.Proofs.YtllgaikgpfionaaW.PrintMore Go.Proofs.Ytllgaikgpfionaa.HW Go.Proofs.Ytllgaikgpfionaa.MB
attribute [local go_sem] max2_int min2_int max_two min_two max_three min_three max_four min_four   -- for this text's walks alone
theorem and_any (n : Int) (m : Nat) (hm : m < 2 ^ 63) : ∃ k : Nat, Go.bits .and .i64 n m = k ∧ k ≤ m := by
  refine ⟨(BitVec.ofInt 64 n).toNat &&& m, ?_, Nat.and_le_right⟩
  have hle : (BitVec.ofInt 64 n).toNat &&& m ≤ m := Nat.and_le_right
  have e1 : (BitVec.ofInt 64 n &&& BitVec.ofInt 64 (m : Int)).toNat = (BitVec.ofInt 64 n).toNat &&& m := by
    rw [BitVec.toNat_and, BitVec.ofInt_natCast, BitVec.toNat_ofNat, Nat.mod_eq_of_lt (by omega)]
  show IntKind.i64.wrap ((BitVec.ofInt 64 n &&& BitVec.ofInt 64 (m : Int)).toNat : Int) = _
  rw [e1]
  exact IntWalk.i64_in _ (by omega)
/-- So many wait. -/
def qW (k : Nat) : List Wt := (List.range k).map (fun (j : Nat) => ⟨1, 1, 100 + (j : Int)⟩)
theorem qW_len (k : Nat) : (qW k).length = k := by simp [qW]
theorem qW_succ (k : Nat) : qW (k + 1) = qW k ++ [⟨1, 1, 100 + (k : Int)⟩] := by simp [qW, List.range_succ]
theorem qW_has (k i : Nat) (h : k ≤ i) : hasWt ⟨1, 1, 100 + (i : Int)⟩ (qW k) = false := by
  unfold hasWt
  rw [List.any_eq_false]
  intro x hx
  obtain ⟨j, hj, rfl⟩ := List.mem_map.1 hx
  have := List.mem_range.1 hj
  rw [sameWt_iff]
  intro e
  injection e with _ _ e
  omega
def qB : Bat := ⟨0, 1, 0, 1, 1⟩
def qT (q : Nat) (k : Nat) : Tb := ⟨q, [((1, 1), qB)], 1, qW k⟩
theorem qT_ok (q k : Nat) : ∀ p ∈ (qT q k).l, headOk p.2 := by
  intro p hp
  rw [List.mem_singleton.1 hp]
  unfold headOk
  decide
theorem q_put (q : Nat) : putR ⟨q, [], 0, []⟩ qB = (qT q 0, 0) := rfl
theorem q_look (q k : Nat) : look (qT q k).l (1, 1) = some qB := rfl
theorem q_wait (q i : Nat) (h : i < q) : waitR (qT q i) (1, 1) (100 + (i : Int)) = (qT q (i + 1), 0) := by
  unfold waitR
  rw [q_look]
  show (if hasWt ⟨1, 1, 100 + (i : Int)⟩ (qW i) = true then _ else _) = _
  rw [qW_has i i (Nat.le_refl _), if_neg (by decide), if_neg (by show ¬ (q : Int) ≤ ((qW i).length : Int); rw [qW_len]; omega)]
  unfold qT
  rw [qW_succ]
theorem q_again (q : Nat) (h : 1 ≤ q) : waitR (qT q 0) (1, 1) 99 = ({ qT q 0 with ws := [⟨1, 1, 99⟩] }, 0) := by
  unfold waitR
  rw [q_look]
  show (if hasWt ⟨1, 1, 99⟩ [] = true then _ else _) = _
  rw [show hasWt ⟨1, 1, 99⟩ [] = false from rfl, if_neg (by decide), if_neg (by show ¬ (q : Int) ≤ ((0 : Nat) : Int); omega)]
  rfl
theorem q_full (q i : Nat) (h : q ≤ i) : waitR (qT q q) (1, 1) (100 + (i : Int)) = (qT q q, 150) := by
  unfold waitR
  rw [q_look]
  show (if hasWt ⟨1, 1, 100 + (i : Int)⟩ (qW q) = true then _ else _) = _
  rw [qW_has q i h, if_neg (by decide), if_pos (by show (q : Int) ≤ ((qW q).length : Int); rw [qW_len]; omega)]
theorem q_bat (q k : Nat) (x : Wt) (h : x ∈ qW k) : bat (qT q k) x = qB := by
  obtain ⟨j, _, rfl⟩ := List.mem_map.1 h
  rfl
theorem q_dn (q k : Nat) : (qT q k).ws.filter (dn (qT q k) 1) = qW k := by
  refine List.filter_eq_self.2 (fun x hx => ?_)
  unfold dn
  rw [q_bat q k x hx]
  decide
theorem q_rest (q k : Nat) : (qT q k).ws.filter (fun x => !dn (qT q k) 1 x) = [] := by
  refine List.filter_eq_nil_iff.2 (fun x hx => ?_)
  unfold dn
  rw [q_bat q k x hx]
  decide
theorem q_ack (q k j : Nat) (h : j < k) : rdAck ((qW k).map (ackOf (qT q k))) (j : Int) = ⟨100 + j, 1, 1, 0, 0, 1⟩ := by
  unfold rdAck
  rw [Int.toNat_natCast, List.getD_eq_getElem?_getD, List.getElem?_map]
  have e : (qW k)[j]? = some ⟨1, 1, 100 + (j : Int)⟩ := by
    unfold qW
    rw [List.getElem?_map, List.getElem?_range h]
    rfl
  rw [e]
  rfl
structure QS (W w : World) (B g t m : Nat) (v : Value) (T : Tb) : Prop where
  be : Below B W w
  id : w.heap[g]? = some (.cells #[.int .i64 1, .int .i64 1] 30 (0, 0))
  tb : IsT w B t m v T
theorem QS.step {W w w' : World} {B g t m : Nat} {v v' : Value} {T T' : Tb} (h : QS W w B g t m v T) (hf : Fr (TS t m v) w w') (ht : IsT w' B t m v' T') : QS W w' B g t m v' T' :=
  ⟨h.be.trans (h.tb.fr_below hf), hf.blk h.id (h.tb.other h.id (by decide) (by decide)), ht⟩
theorem QS.c0 {W w : World} {B g t m : Nat} {v : Value} {T : Tb} (h : QS W w B g t m v T) : w.cell? ⟨g, 0, none⟩ = some (.int .i64 1) := (blk_cell h.id 0).trans rfl
theorem QS.c1 {W w : World} {B g t m : Nat} {v : Value} {T : Tb} (h : QS W w B g t m v T) : w.cell? ⟨g, 1, none⟩ = some (.int .i64 1) := (blk_cell h.id 1).trans rfl
set_option maxHeartbeats 4000000 in
theorem squeue_walk (a : Int) (wa : (Lit.int .i64 a).wf = true) (b : Int) (wb : (Lit.int .i64 b).wf = true) (W : World) : Calls Try.prog 4 #[.int .i64 a, .int .i64 b] W fun e w' => e = .returned (.bool true) ∧ Below W.heap.size W w' := by
  have hu3 := Try.underlying30
  obtain ⟨q0, hq0, hq0'⟩ := and_any a 63 (by decide)
  obtain ⟨n, hn, hn'⟩ := and_any b 127 (by decide)
  replace hq0 : Go.bits .and .i64 a 63 = q0 := hq0
  replace hn : Go.bits .and .i64 b 127 = n := hn
  have hq1 : IntKind.i64.wrap (1 + (q0 : Int)) = ((q0 + 1 : Nat) : Int) := by rw [IntWalk.i64_in _ (by omega)]; omega
  obtain ⟨q, hq⟩ : ∃ q, q0 + 1 = q := ⟨_, rfl⟩
  rw [hq] at hq1
  have HQ := Aside0.mk (show 1 ≤ q ∧ q ≤ 64 by omega)
  have HN := Aside0.mk hn'
  clear hq hq0' wa wb hn'
  obtain ⟨B, hB⟩ : ∃ B, W.heap.size = B := ⟨_, rfl⟩
  have HBG := Aside0.mk hB
  clear hB
  go_enter Try.func4, Try.ntmps4
  go_wp2_with fail
  refine (new_ok q W (by have := HQ.out; omega) (by have := HQ.out; omega)).mono ?_
  rintro e w1 ⟨t, m, rfl, h1, hb⟩
  rw [HBG.out] at h1 hb
  have H1 := Aside0.mk h1
  have HB := Aside0.mk hb
  clear h1 hb hq0 hn hq1
  go_wp2_with fail
  refine (put_ok H1.out (by have := HQ.out; show (0 : Int) < q; omega) qB (by unfold headOk; decide) 0 (q_put q)).mono ?_
  rintro e w3 ⟨rfl, h3, hf⟩
  have HB3 := Aside0.mk (HB.out.trans (H1.out.fr_below hf))
  have H3 := Aside0.mk h3
  clear h3 hf H1 HB
  go_upto_region 6 with (fail)
  have hb := below_alloc (Below.refl w3.heap.size w3) (.cells #[.int .i64 1, .int .i64 1] 30)
  have k0 := heap_alloc_new w3 (.cells #[.int .i64 1, .int .i64 1] 30)
  have HS := Aside0.mk (QS.mk (HB3.out.trans (hb.mono (by have := HB3.out.size; have := HBG.out; omega))) k0 (H3.out.below hb))
  clear hb k0 H3 HB3
  obtain ⟨g, hg⟩ : ∃ g, w3.heap.size = g := ⟨_, rfl⟩
  rw [hg] at HS
  rw [hg]
  clear hg
  generalize w3.alloc (.cells #[.int .i64 1, .int .i64 1] 30) = w4 at HS ⊢
  clear w3
  go_wp2_with fail
  go_loopw [10] (fun v10 wr => ∃ (i : Nat) (v : Value), v10 = .int .i64 i ∧ i ≤ n ∧ Aside0 (QS W wr B g t m v (qT q (min i q)))) (fun v10 _ => n - (intOf v10).toNat)
  case atStart => exact ⟨0, _, rfl, Nat.zero_le _, by rw [Nat.zero_min]; exact HS⟩
  case round =>
    clear HS
    obtain ⟨i, v, rfl, hi, HS⟩ := hrel
    by_cases hlt : i < n
    · have hb1 : decide (i < n) = true := by simp; omega
      have i0 := HS.out.c0
      have i1 := HS.out.c1
      have hw1 : IntKind.i64.wrap (100 + (i : Int)) = 100 + (i : Int) := IntWalk.i64_in _ (by have := HN.out; omega)
      have hw2 : IntKind.i64.wrap ((i : Int) + 1) = (i : Int) + 1 := IntWalk.i64_in _ (by have := HN.out; omega)
      have HI := Aside0.mk hlt
      clear hlt
      by_cases hiq : i < q
      · have hb2 : decide (q ≤ i) = false := by simp; omega
        have hmin : min i q = i := Nat.min_eq_left (Nat.le_of_lt hiq)
        rw [hmin] at HS
        have HIQ := Aside0.mk hiq
        clear hiq hmin
        go_wp2_with fail
        refine (wait_ok HS.out.tb (by have := HQ.out; show (0 : Int) < q; omega) (by show (qW i).length ≤ _; rw [qW_len]; have := HN.out; omega) 1 1 (100 + (i : Int)) 0 (q_wait q i HIQ.out)).mono ?_
        rintro e w5 ⟨v5, rfl, h5, hf⟩
        have HS5 := Aside0.mk (HS.out.step hf h5)
        clear h5 hf HS i0 i1
        have hmn : min ((i : Int) + 1) (q : Int) = (i : Int) + 1 := by have := HIQ.out; omega
        go_wp2_with fail
        have hW := waiting_ok HS5.out.tb (by have := HQ.out; show (0 : Int) < q; omega)
        rw [show ((qT q (i + 1)).ws.length : Int) = (i : Int) + 1 from by show ((qW (i + 1)).length : Int) = _; rw [qW_len]; omega] at hW
        refine hW.mono ?_
        rintro e w6 ⟨rfl, rfl⟩
        clear hW
        go_wp2_with fail
        go_roundw
        case rel => exact ⟨i + 1, _, by simp, HI.out, by rw [Nat.min_eq_left HIQ.out]; exact HS5⟩
        case measure => simp [intOf]; have := HI.out; omega
      · have hb2 : decide (q ≤ i) = true := by simp; omega
        have hmin : min i q = q := Nat.min_eq_right (by omega)
        rw [hmin] at HS
        have HIQ := Aside0.mk (show q ≤ i by omega)
        clear hiq hmin
        go_wp2_with fail
        refine (wait_ok HS.out.tb (by have := HQ.out; show (0 : Int) < q; omega) (by show (qW q).length ≤ _; rw [qW_len]; have := HQ.out; omega) 1 1 (100 + (i : Int)) 150 (q_full q i HIQ.out)).mono ?_
        rintro e w5 ⟨v5, rfl, h5, hf⟩
        have HS5 := Aside0.mk (HS.out.step hf h5)
        clear h5 hf HS i0 i1
        have hmn : min ((i : Int) + 1) (q : Int) = (q : Int) := by have := HIQ.out; omega
        go_wp2_with fail
        have hW := waiting_ok HS5.out.tb (by have := HQ.out; show (0 : Int) < q; omega)
        rw [show ((qT q q).ws.length : Int) = (q : Int) from by show ((qW q).length : Int) = _; rw [qW_len]] at hW
        refine hW.mono ?_
        rintro e w6 ⟨rfl, rfl⟩
        clear hW
        go_wp2_with fail
        go_roundw
        case rel => exact ⟨i + 1, _, by simp, HI.out, by rw [Nat.min_eq_right (by have := HIQ.out; omega)]; exact HS5⟩
        case measure => simp [intOf]; have := HI.out; omega
    · have hie : i = n := by omega
      subst hie
      obtain ⟨iz, hiz⟩ : ∃ z : Int, (i : Int) = z := ⟨_, rfl⟩
      rw [hiz]
      have hb1 : decide (iz < iz) = false := by simp
      obtain ⟨k, hk⟩ : ∃ k, min i q = k := ⟨_, rfl⟩
      rw [hk] at HS
      have HK := Aside0.mk (show k ≤ q ∧ k ≤ 127 by have := HN.out; omega)
      have hmn : (if (q : Int) < iz then (q : Int) else iz) = (k : Int) := by split <;> omega
      clear hlt hk hiz
      go_wp2_with fail
      refine (done_ok HS.out.tb (by have := HQ.out; show (0 : Int) < q; omega) (by show (qW k).length ≤ _; rw [qW_len]; have := HK.out; omega) (qT_ok q k) 1).mono ?_
      rintro e w5 ⟨vo, v5, rfl, ho, h5, hf⟩
      rw [q_dn] at ho
      rw [q_rest] at h5
      obtain ⟨A, c, e2⟩ := Kd.R_slice ho
      subst e2
      rw [show ((qW k).map (ackOf (qT q k))).length = k from by rw [List.length_map, qW_len]] at ho ⊢
      have HS5 := Aside0.mk (HS.out.step hf h5)
      have HO := Aside0.mk ho
      clear h5 hf HS ho
      have hW := waiting_ok HS5.out.tb (by have := HQ.out; show (0 : Int) < q; omega)
      have HW := Aside0.mk hW
      clear hW
      go_wp2_with fail
      refine HW.out.mono ?_
      rintro e w6 ⟨rfl, rfl⟩
      clear HW
      go_wp2_with fail
      go_loopw [13] (fun v13 wr => ∃ j : Nat, v13 = .int .i64 j ∧ j ≤ k ∧ Aside0 (wr = w5)) (fun v13 _ => k - (intOf v13).toNat)
      case atStart => exact ⟨0, rfl, Nat.zero_le _, ⟨rfl⟩⟩
      case round =>
        obtain ⟨j, rfl, hj, HWE⟩ := hrel
        have hwe := HWE.out
        subst hwe
        by_cases hlt : j < k
        · have hb3 : decide (j < k) = true := by simp; omega
          obtain ⟨ad, hA, b0, _, _, _, _, _⟩ := atAck (xs := (qW k).map (ackOf (qT q k))) (n := ((qW k).map (ackOf (qT q k))).length) (by have := Kd.R_reads' HO.out; exact this.2.2) (j : Int) (by omega) (by rw [List.length_map, qW_len]; omega)
          subst hA
          rw [q_ack q k j hlt] at b0
          simp only [Int.toNat_natCast] at b0
          have q1 : (0 : Int) ≤ (j : Int) := by omega
          have q2 : (j : Int) < (k : Int) := by omega
          have hw1 : IntKind.i64.wrap (100 + (j : Int)) = 100 + (j : Int) := IntWalk.i64_in _ (by have := HK.out; omega)
          have HJ := Aside0.mk hlt
          have hk64 : k ≤ 127 := HK.out.2
          clear hlt
          go_wp2_with fail
          go_roundw
          case rel => exact ⟨j + 1, by simp, HJ.out, ⟨by first | rfl | trivial⟩⟩
          case measure => simp [intOf]; have := HJ.out; omega
        · have hje : j = k := by omega
          subst hje
          have hb3 : decide (j < j) = false := by simp
          have i0 := HS5.out.c0
          have i1 := HS5.out.c1
          have hT : IsT wr B t m v5 (qT q 0) := HS5.out.tb
          have HT := Aside0.mk hT
          clear hlt hT
          go_wp2_with fail
          refine (wait_ok HT.out (by have := HQ.out; show (0 : Int) < q; omega) (by show (0 : Nat) ≤ 1000000; omega) 1 1 99 0 (q_again q HQ.out.1)).mono ?_
          rintro e w7 ⟨v7, rfl, h7, hf⟩
          have HS7 := Aside0.mk (HS5.out.step hf h7)
          clear h7 hf HS5 i0 i1 HT HO
          go_wp2_with fail
          refine (waiting_ok HS7.out.tb (by have := HQ.out; show (0 : Int) < q; omega)).mono ?_
          rintro e w8 ⟨rfl, rfl⟩
          go_wp2_with fail
          refine (awake_ok w7).mono ?_
          rintro e w9 ⟨rfl, hb⟩
          have HB9 := Aside0.mk (HS7.out.be.trans (hb.mono (by have := HS7.out.be.size; have := HBG.out; omega)))
          clear hb HS7
          go_wp2_with fail
          go_ret
          exact ⟨rfl, by rw [HBG.out]; exact HB9.out⟩
end Go.Proofs.Ytllgaikgpfionaa.SM
