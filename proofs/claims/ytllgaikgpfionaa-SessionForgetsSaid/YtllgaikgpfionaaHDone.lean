/- session.Done, Waiting: walked. -/
import Derived.Test.YtllgaikgpfionaaHWait
import Derived.Test.YtllgaikgpfionaaHBCk
namespace Go.Proofs.Ytllgaikgpfionaa.SM
open Go.RowKit Go.Proofs.YtllgaikgpfionaaW.PrintWords Go.Proofs.YtllgaikgpfionaaW.PrintLast Go.Proofs.YtllgaikgpfionaaW.PrintMore Go.Proofs.Ytllgaikgpfionaa.HW Go.Proofs.Ytllgaikgpfionaa.MB
attribute [local go_sem] max2_int min2_int max_two min_two max_three min_three max_four min_four   -- for this text's walks alone
set_option maxHeartbeats 1000000 in
theorem waiting_ok {W : World} {B t m : Nat} {v : Value} {T : Tb} (h : IsT W B t m v T) (hq : 0 < T.q) : Calls Try.prog 14 #[.pointer (some ⟨t, 0, none⟩)] W fun e w' => e = .returned (.int .i64 T.ws.length) ∧ W = w' := by
  obtain ⟨A, c, rfl⟩ := h.slice
  have c3 : W.cell? ⟨t, 3, none⟩ = some (.slice A T.ws.length c) := (blk_cell h.bt 3).trans rfl
  have HG := Aside0.mk (given_ok h hq)
  clear h hq
  go_enter Try.func14, Try.ntmps14
  go_wp2_with fail
  refine HG.out.mono ?_
  rintro e w2 ⟨rfl, rfl⟩
  go_wp2_with fail
  go_ret
  exact ⟨rfl, rfl⟩
/-- What a waiter waits for. -/
def bat (T : Tb) (x : Wt) : Bat := (look T.l (x.prod, x.seq)).getD Bat.zero
def dn (T : Tb) (c : Int) (x : Wt) : Bool := decide ((bat T x).base + (bat T x).count ≤ c)
def ackOf (T : Tb) (x : Wt) : Ack := ⟨x.who, x.prod, x.seq, 0, (bat T x).base, (bat T x).count⟩
theorem look_mem : ∀ (l : List ((Int × Int) × Bat)) (k : Int × Int) (b : Bat), look l k = some b → (k, b) ∈ l
  | [], k, b, h => by rw [look_nil] at h; cases h
  | p :: t, k, b, h => by
    rw [look_cons] at h
    by_cases hk : p.1 = k
    · rw [if_pos hk] at h
      rw [← Option.some.inj h, ← hk]
      exact List.mem_cons_self
    · rw [if_neg hk] at h
      exact List.mem_cons_of_mem _ (look_mem t k b h)
theorem bat_bd {T : Tb} (hT : ∀ p ∈ T.l, headOk p.2) (x : Wt) : 0 ≤ (bat T x).base + (bat T x).count ∧ (bat T x).base + (bat T x).count ≤ 1099511628000 := by
  unfold bat
  cases h : look T.l (x.prod, x.seq) with
  | none => exact ⟨by decide, by decide⟩
  | some b =>
    have h1 := hT _ (look_mem _ _ _ h)
    unfold headOk at h1
    simp only [Option.getD_some] at h1 ⊢
    omega
structure DS (W w : World) (g : Nat) (vo vr : Value) (out : List Ack) (rest : List Wt) : Prop where
  be : Below g W w
  o : Kd.R kAck 41 w g (fun _ => True) vo out
  r : Kd.R kWt 62 w g (fun _ => True) vr rest
theorem DS.below {W w w' : World} {g : Nat} {vo vr : Value} {out : List Ack} {rest : List Wt} (h : DS W w g vo vr out rest) (hg : g ≤ w.heap.size) (hb : Below w.heap.size w w') : DS W w' g vo vr out rest :=
  ⟨h.be.trans (hb.mono hg), Kd.R_below h.o hb, Kd.R_below h.r hb⟩
theorem R_typed {α : Type} {d : Kd α} {e : TypeId} {w : World} {base : Nat} {ok : Nat → Prop} {v : Value} {xs : List α} (h : Kd.R d e w base ok v xs) (k : Nat) (hk : v.ownBlock = some k) : ∃ cells, w.heap[k]? = some (.cells cells e (0, 0)) := by
  obtain ⟨inner, ho⟩ := Kd.R_own h
  exact own_typed ho k hk
theorem DS.apart {W w : World} {g : Nat} {vo vr : Value} {out : List Ack} {rest : List Wt} (h : DS W w g vo vr out rest) (k : Nat) (hk : vo.ownBlock = some k) : ¬ vr.ownBlock = some k := fun e => by
  obtain ⟨c1, h1⟩ := R_typed h.o k hk
  exact Kd.R_ne h.r h1 (by decide) e.symm
theorem DS.out {W w w1 : World} {g : Nat} {vo vo1 vr : Value} {out out1 : List Ack} {rest : List Wt} (h : DS W w g vo vr out rest) (hb : Below g W w1) (ho : Kd.R kAck 41 w1 g (fun _ => True) vo1 out1) (hg : w.grownBy w1 vo.ownBlock) : DS W w1 g vo1 vr out1 rest :=
  ⟨hb, ho, Kd.R_mono (Kd.R_grown (Kd.R_tight rfl h.r) hg (fun k hk e => h.apart k e.symm hk.symm)) (fun _ _ => trivial)⟩
theorem DS.rest {W w w1 : World} {g : Nat} {vo vr vr1 : Value} {out : List Ack} {rest rest1 : List Wt} (h : DS W w g vo vr out rest) (hb : Below g W w1) (ho : Kd.R kWt 62 w1 g (fun _ => True) vr1 rest1) (hg : w.grownBy w1 vr.ownBlock) : DS W w1 g vo vr1 out rest1 :=
  ⟨hb, Kd.R_mono (Kd.R_grown (Kd.R_tight rfl h.o) hg (fun k hk e => h.apart k hk.symm e.symm)) (fun _ _ => trivial), ho⟩
set_option maxHeartbeats 4000000 in
theorem done_ok {W : World} {B t m : Nat} {v : Value} {T : Tb} (h : IsT W B t m v T) (hq : 0 < T.q) (hn : T.ws.length ≤ 1000000) (hT : ∀ p ∈ T.l, headOk p.2) (cm : Int) :
    Calls Try.prog 13 #[.pointer (some ⟨t, 0, none⟩), .int .i64 cm] W fun e w' => ∃ vo v', e = .returned vo ∧ Kd.R kAck 41 w' W.heap.size (fun _ => True) vo ((T.ws.filter (dn T cm)).map (ackOf T)) ∧ IsT w' B t m v' { T with ws := T.ws.filter (fun x => !dn T cm x) } ∧ Fr (TS t m v) W w' := by
  have hu := Try.underlying57
  have hu2 := Try.underlying62
  have hu3 := Try.underlying30
  have hu4 := Try.underlying33
  have hu5 := Try.underlying55
  have hu6 := Try.underlying41
  have H := Aside0.mk h
  have HQ := Aside0.mk hq
  have HN := Aside0.mk hn
  have HT := Aside0.mk (bat_bd hT)
  obtain ⟨A, c, rfl⟩ := h.slice
  have HL := Aside0.mk (Kd.R_reads' h.ro).2.2
  have c3 : W.cell? ⟨t, 3, none⟩ = some (.slice A T.ws.length c) := (blk_cell h.bt 3).trans rfl
  have HG := Aside0.mk (given_ok h hq)
  obtain ⟨g, hg⟩ : ∃ g, W.heap.size = g := ⟨_, rfl⟩
  rw [hg]
  have HGE := Aside0.mk hg
  clear h hq hT hg
  go_enter Try.func13, Try.ntmps13
  go_wp2_with fail
  refine HG.out.mono ?_
  rintro e w2 ⟨rfl, rfl⟩
  go_wp2_with fail
  go_loopw [5, 6, 18] (fun v5 v6 v18 wr => ∃ i : Nat, v18 = .int .i64 i ∧ i ≤ T.ws.length ∧ Aside0 (DS W wr g v5 v6 (((T.ws.take i).filter (dn T cm)).map (ackOf T)) ((T.ws.take i).filter (fun x => !dn T cm x)))) (fun v5 v6 v18 _ => T.ws.length - (intOf v18).toNat)
  case atStart => exact ⟨0, rfl, Nat.zero_le _, ⟨⟨by rw [← HGE.out]; exact Below.refl _ _, by rw [List.take_zero]; exact Kd.R_nil _ _ _ _ _, by rw [List.take_zero]; exact Kd.R_nil _ _ _ _ _⟩⟩⟩
  case round =>
    clear c3
    obtain ⟨i, rfl, hi, HD⟩ := hrel
    have hgw := HD.out.be.size
    rw [HGE.out] at hgw
    by_cases hlt : i < T.ws.length
    · have hb1 : decide ((i : Int) < (T.ws.length : Int)) = true := by simp; omega
      obtain ⟨ad, hA, h0, h1, h2⟩ := atWt (Kd.C_below HL.out (by rw [HGE.out]; exact HD.out.be)) (i : Int) (by omega) (by omega)
      subst hA
      simp only [Int.toNat_natCast] at h0 h1 h2
      have q1 : (0 : Int) ≤ (i : Int) := by omega
      have q2 : (i : Int) < (T.ws.length : Int) := by omega
      obtain ⟨⟨x0, x1, x2⟩, hx⟩ : ∃ z : Wt, rdWt T.ws (i : Int) = z := ⟨_, rfl⟩
      have htk : T.ws.take (i + 1) = T.ws.take i ++ [⟨x0, x1, x2⟩] := by
        rw [List.take_add_one, List.getElem?_eq_getElem hlt]
        have : rdWt T.ws (i : Int) = T.ws[i] := by unfold rdWt; rw [Int.toNat_natCast, List.getD_eq_getElem?_getD, List.getElem?_eq_getElem hlt]; rfl
        rw [← hx, this]; rfl
      rw [hx] at h0 h1 h2
      simp only at h0 h1 h2
      have HTK := Aside0.mk htk
      have HI := Aside0.mk hlt
      clear hx htk
      go_upto_region 8 with (fail)
      have hb := below_alloc (Below.refl wr.heap.size wr) (.cells #[.int .i64 x0, .int .i64 x1, .int .i64 x2] 62)
      have k1 := heap_alloc_new wr (.cells #[.int .i64 x0, .int .i64 x1, .int .i64 x2] 62)
      have HD3 := Aside0.mk (HD.out.below hgw hb)
      obtain ⟨p, hp⟩ : ∃ p, wr.heap.size = p := ⟨_, rfl⟩
      rw [hp] at k1 hgw
      rw [hp]
      have KP := Aside0.mk k1
      clear hp k1 hb h0 h1 h2
      generalize wr.alloc (.cells #[.int .i64 x0, .int .i64 x1, .int .i64 x2] 62) = w3 at HD3 KP ⊢
      clear HD wr
      have H3 := Aside0.mk (H.out.below (by rw [HGE.out]; exact HD3.out.be))
      obtain ⟨⟨y0, y1, y2, y3, y4⟩, hy⟩ : ∃ z : Bat, (look T.l (x0, x1)).getD Bat.zero = z := ⟨_, rfl⟩
      have hM := H3.out.bm
      have hbz := below_alloc (Below.refl w3.heap.size w3) (.cells #[.int .i64 0, .int .i64 0, .int .i64 0, .int .i64 0, .int .i64 0, .slice none 0 0] 33)
      have l0 := run_lookup (hM.move (W' := w3.drew) rfl) x0 x1
      have l1 := run_lookup (hM.move (W' := (w3.alloc (.cells #[.int .i64 0, .int .i64 0, .int .i64 0, .int .i64 0, .int .i64 0, .slice none 0 0] 33)).drew) (hbz.block _ hM.lt)) x0 x1
      rw [hy] at l0 l1
      unfold Bat.val at l0 l1
      simp only at l0 l1
      have c1 : w3.cell? ⟨t, 1, none⟩ = some (.map (some m)) := (blk_cell H3.out.bt 1).trans rfl
      have i0 : w3.cell? ⟨p, 0, none⟩ = some (.int .i64 x0) := (blk_cell KP.out 0).trans rfl
      have i1 : w3.cell? ⟨p, 1, none⟩ = some (.int .i64 x1) := (blk_cell KP.out 1).trans rfl
      have c1a : (w3.alloc (.cells #[.int .i64 0, .int .i64 0, .int .i64 0, .int .i64 0, .int .i64 0, .slice none 0 0] 33)).cell? ⟨t, 1, none⟩ = some (.map (some m)) := (blk_cell ((hbz.block _ (blk_lt H3.out.bt)).trans H3.out.bt) 1).trans rfl
      have i0a : (w3.alloc (.cells #[.int .i64 0, .int .i64 0, .int .i64 0, .int .i64 0, .int .i64 0, .slice none 0 0] 33)).cell? ⟨p, 0, none⟩ = some (.int .i64 x0) := (blk_cell ((hbz.block _ (blk_lt KP.out)).trans KP.out) 0).trans rfl
      have i1a : (w3.alloc (.cells #[.int .i64 0, .int .i64 0, .int .i64 0, .int .i64 0, .int .i64 0, .slice none 0 0] 33)).cell? ⟨p, 1, none⟩ = some (.int .i64 x1) := (blk_cell ((hbz.block _ (blk_lt KP.out)).trans KP.out) 1).trans rfl
      have HY := Aside0.mk (show bat T ⟨x0, x1, x2⟩ = ⟨y0, y1, y2, y3, y4⟩ from hy)
      have HGW := Aside0.mk (show g ≤ w3.heap.size from by have := blk_lt KP.out; omega)
      clear hM hy hbz hgw
      go_region
      all_goals
        have hb := below_alloc (Below.refl w3.heap.size w3) (.cells #[.int .i64 y0, .int .i64 y1, .int .i64 y2, .int .i64 y3, .int .i64 y4, .slice none 0 0] 33)
        have k1 := heap_alloc_new w3 (.cells #[.int .i64 y0, .int .i64 y1, .int .i64 y2, .int .i64 y3, .int .i64 y4, .slice none 0 0] 33)
        have HD4 := Aside0.mk (HD3.out.below HGW.out (below_drew hb))
        have KP4 := Aside0.mk (show (w3.alloc (.cells #[.int .i64 y0, .int .i64 y1, .int .i64 y2, .int .i64 y3, .int .i64 y4, .slice none 0 0] 33)).drew.heap[p]? = _ from (hb.block _ (blk_lt KP.out)).trans KP.out)
        have KB0 : (w3.alloc (.cells #[.int .i64 y0, .int .i64 y1, .int .i64 y2, .int .i64 y3, .int .i64 y4, .slice none 0 0] 33)).drew.heap[w3.heap.size]? = _ := k1
        obtain ⟨q, hq⟩ : ∃ q, w3.heap.size = q := ⟨_, rfl⟩
        have HQW := Aside0.mk (show g ≤ q from by rw [← hq]; exact HGW.out)
        rw [hq] at KB0
        rw [hq]
        have KB := Aside0.mk KB0
        clear hb k1 hq KB0 l0 l1 c1 i0 i1 c1a i0a i1a HGW
        generalize (w3.alloc (.cells #[.int .i64 y0, .int .i64 y1, .int .i64 y2, .int .i64 y3, .int .i64 y4, .slice none 0 0] 33)).drew = w4 at HD4 KP4 KB ⊢
        clear HD3 KP H3 w3
        have d0 : w4.cell? ⟨q, 0, none⟩ = some (.int .i64 y0) := (blk_cell KB.out 0).trans rfl
        have d1 : w4.cell? ⟨q, 1, none⟩ = some (.int .i64 y1) := (blk_cell KB.out 1).trans rfl
        have p0 : w4.cell? ⟨p, 0, none⟩ = some (.int .i64 x0) := (blk_cell KP4.out 0).trans rfl
        have p1 : w4.cell? ⟨p, 1, none⟩ = some (.int .i64 x1) := (blk_cell KP4.out 1).trans rfl
        have p2 : w4.cell? ⟨p, 2, none⟩ = some (.int .i64 x2) := (blk_cell KP4.out 2).trans rfl
        have hwr : IntKind.i64.wrap (y0 + y1) = y0 + y1 := IntWalk.i64_in _ (by have := HT.out ⟨x0, x1, x2⟩; rw [HY.out] at this; simp only at this; omega)
        have HLT := Aside0.mk (show g ≤ w4.heap.size from by have := blk_lt KB.out; have := HQW.out; omega)
        by_cases hc : y0 + y1 ≤ cm
        · have b1 : decide (y0 + y1 ≤ cm) = true := by simpa using hc
          have HO := Aside0.mk (show ((T.ws.take (i + 1)).filter (dn T cm)).map (ackOf T) = ((T.ws.take i).filter (dn T cm)).map (ackOf T) ++ [⟨x2, x0, x1, 0, y0, y1⟩] ∧ (T.ws.take (i + 1)).filter (fun x => !dn T cm x) = (T.ws.take i).filter (fun x => !dn T cm x) from by
            have hdn : dn T cm ⟨x0, x1, x2⟩ = true := by unfold dn; rw [HY.out]; exact b1
            rw [HTK.out, List.filter_append, List.filter_append, List.map_append, List.filter_cons_of_pos hdn, List.filter_cons_of_neg (by simp [hdn])]
            simp [ackOf, HY.out])
          have HLN := Aside0.mk (show (((T.ws.take i).filter (dn T cm)).map (ackOf T)).length ≤ 1000000 from by
            rw [List.length_map]
            exact Nat.le_trans (List.length_filter_le _ _) (Nat.le_trans (List.length_take_le' _ _) HN.out))
          clear hc
          go_wp2_with ((with_reducible refine gate_builtin (b := .append) (xs := #[.tmp 36, .tmp 46]) rfl ?_); at_builtin; refine Kd.R_append kAck (w0 := W) g rfl (.tmp 36) (.tmp 46) 28 41 (.agg #[.int .i64 0, .int .i64 0, .int .i64 0, .int .i64 0, .int .i64 0, .int .i64 0]) 48 rfl Try.underlying28 info41 rfl (by decide) (by decide) u5 (((T.ws.take i).filter (dn T cm)).map (ackOf T)) ⟨x2, x0, x1, 0, y0, y1⟩ [.int .i64 x2, .int .i64 x0, .int .i64 x1, .int .i64 0, .int .i64 y0, .int .i64 y1] (fun _ => True) (fun _ => False) rfl (by first | (go_simp; done) | (go_simp; rfl)) ?aP (fun _ hk => hk.elim) ?aF ?aO ?aB ?aS ?aL ?_; (case aP => exact kAck_mkM _ _ _ _); (case aB => exact HD4.out.be); (case aF => exact (fun _ _ => trivial)); (case aO => exact HD4.out.o); (case aS => exact HLT.out); (case aL => have := HLN.out; omega); intro v9 w9 ho hb hg hat; have HD9 := Aside0.mk (HD4.out.out hb ho hg); clear ho hb hg hat)
          go_roundw
          case rel => exact ⟨i + 1, by simp, HI.out, by rw [HO.out.1, HO.out.2]; exact HD9⟩
          case measure => simp [intOf]; have := HI.out; omega
        · have b1 : decide (y0 + y1 ≤ cm) = false := by simpa using hc
          have HO := Aside0.mk (show ((T.ws.take (i + 1)).filter (dn T cm)).map (ackOf T) = ((T.ws.take i).filter (dn T cm)).map (ackOf T) ∧ (T.ws.take (i + 1)).filter (fun x => !dn T cm x) = (T.ws.take i).filter (fun x => !dn T cm x) ++ [⟨x0, x1, x2⟩] from by
            have hdn : dn T cm ⟨x0, x1, x2⟩ = false := by unfold dn; rw [HY.out]; exact b1
            rw [HTK.out, List.filter_append, List.filter_append, List.filter_cons_of_neg (by simp [hdn]), List.filter_cons_of_pos (by simp [hdn])]
            simp)
          have HLN := Aside0.mk (show ((T.ws.take i).filter (fun x => !dn T cm x)).length ≤ 1000000 from
            Nat.le_trans (List.length_filter_le _ _) (Nat.le_trans (List.length_take_le' _ _) HN.out))
          clear hc
          go_wp2_with ((with_reducible refine gate_builtin (b := .append) (xs := #[.tmp 48, .tmp 50]) rfl ?_); at_builtin; refine Kd.R_append kWt (w0 := W) g rfl (.tmp 48) (.tmp 50) 55 62 (.agg #[.int .i64 0, .int .i64 0, .int .i64 0]) 24 rfl Try.underlying55 info62 rfl (by decide) (by decide) u6 ((T.ws.take i).filter (fun x => !dn T cm x)) ⟨x0, x1, x2⟩ [.int .i64 x0, .int .i64 x1, .int .i64 x2] (fun _ => True) (fun _ => False) rfl (by first | (go_simp; done) | (go_simp; rfl)) ?aP (fun _ hk => hk.elim) ?aF ?aO ?aB ?aS ?aL ?_; (case aP => exact kWt_mkM _ _ _ _); (case aB => exact HD4.out.be); (case aF => exact (fun _ _ => trivial)); (case aO => exact HD4.out.r); (case aS => exact HLT.out); (case aL => have := HLN.out; omega); intro v9 w9 ho hb hg hat; have HD9 := Aside0.mk (HD4.out.rest hb ho hg); clear ho hb hg hat)
          go_roundw
          case rel => exact ⟨i + 1, by simp, HI.out, by rw [HO.out.1, HO.out.2]; exact HD9⟩
          case measure => simp [intOf]; have := HI.out; omega
    · have hie : i = T.ws.length := by omega
      subst hie
      have hb1 : decide ((T.ws.length : Int) < (T.ws.length : Int)) = false := by simp
      have hI := H.out.below (by rw [HGE.out]; exact HD.out.be)
      have c3 : wr.cell? ⟨t, 3, none⟩ = some (.slice A T.ws.length c) := (blk_cell hI.bt 3).trans rfl
      have f3 : wr.frozen? ⟨t, 3, none⟩ = false := blk_frozen hI.bt 3
      have HI := Aside0.mk hI
      obtain ⟨A6, c6, e6⟩ := Kd.R_slice HD.out.r
      subst e6
      clear hlt hI
      go_wp2_with fail
      go_ret
      have hd := HD.out
      rw [List.take_length] at hd
      have hle : B ≤ g := by rw [← HGE.out]; exact Nat.le_of_lt (Nat.lt_of_le_of_lt H.out.ht H.out.lt)
      obtain ⟨hI, hfr⟩ := H.out.setRow (Fr.of_below_all (by rw [HGE.out]; exact hd.be) _) (Kd.R_lower hd.r hle)
      refine ⟨_, _, rfl, ?_, hI, hfr⟩
      exact Kd.R_mono (Kd.R_step (Kd.R_tight rfl hd.o) (fun k hk _ => Below.heap_setCell _ _ _ _ (fun e => by
        have e2 : k = t := e
        rw [e2] at hk
        exact Kd.R_ne hd.o HI.out.bt (by decide) hk))) (fun _ _ => trivial)
end Go.Proofs.Ytllgaikgpfionaa.SM
