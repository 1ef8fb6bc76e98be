/- SessionOnce: walked. (printed by mkonce.py) -/
import Derived.Test.YtllgaikgpfionaaHSAwk
import Derived.Test.YtllgaikgpfionaaHShSes
import Derived.Test.YtllgaikgpfionaaFS
import Derived.Test.YtllgaikgpfionaaPOnce
import Derived.Test.YtllgaikgpfionaaWSQueue
import Derived.Deep.RegionHeld3
import Derived.Deep.QuietTactic
import Derived.BigQuiet
namespace Go.Proofs.Ytllgaikgpfionaa.SM
open Go.RowKit Go.Proofs.YtllgaikgpfionaaW.PrintWords Go.Proofs.YtllgaikgpfionaaW.PrintLast Go.Proofs.YtllgaikgpfionaaW.PrintMore Go.Proofs.Ytllgaikgpfionaa.HW Go.Proofs.Ytllgaikgpfionaa.MB Go.Proofs.Ytllgaikgpfionaa.Fn
attribute [local go_sem] max2_int min2_int max_two min_two max_three min_three max_four min_four   -- for this text's walks alone
structure OS (W w : World) (B t m : Nat) (v vt : Value) (T : Tb) (told : List Ack) : Prop where
  be : Below B W w
  tb : IsT w B t m v T
  ro : Kd.R kAck 41 w B (fun _ => True) vt told
theorem OS.base {W w : World} {B t m : Nat} {v vt : Value} {T : Tb} {told : List Ack} (h : OS W w B t m v vt T told) : B ≤ w.heap.size := Nat.le_of_lt (Nat.lt_of_le_of_lt h.tb.ht h.tb.lt)
theorem OS.step {W w w' : World} {B t m : Nat} {v v' vt : Value} {T T' : Tb} {told : List Ack} (h : OS W w B t m v vt T told) (hf : Fr (TS t m v) w w') (ht : IsT w' B t m v' T') : OS W w' B t m v' vt T' told :=
  ⟨h.be.trans (h.tb.fr_below hf), ht, Kd.R_mono (Kd.R_step (Kd.R_tight rfl h.ro) (fun k hk hlt => hf.block k hlt (fun hts => by
    obtain ⟨cells, hc⟩ := R_typed h.ro k hk.symm
    exact h.tb.other hc (by decide) (by decide) hts))) (fun _ _ => trivial)⟩
theorem OS.below {W w w' : World} {B t m : Nat} {v vt : Value} {T : Tb} {told : List Ack} (h : OS W w B t m v vt T told) (hb : Below w.heap.size w w') : OS W w' B t m v vt T told :=
  ⟨h.be.trans (hb.mono h.base), h.tb.below hb, Kd.R_below h.ro hb⟩
theorem OS.drewN {W w : World} {B t m : Nat} {v vt : Value} {T : Tb} {told : List Ack} (h : OS W w B t m v vt T told) (n : Nat) : OS W (w.drewN n) B t m v vt T told :=
  h.below ((Below.refl _ _).trans ⟨rfl, rfl, rfl, Nat.le_refl _, fun _ _ => rfl⟩)
theorem OS.grow {W w w1 : World} {B t m : Nat} {v vt vt1 : Value} {T : Tb} {told told1 : List Ack} (h : OS W w B t m v vt T told) (hg : w.grownBy w1 vt.ownBlock) (hb : Below B W w1) (ho : Kd.R kAck 41 w1 B (fun _ => True) vt1 told1) : OS W w1 B t m v vt1 T told1 :=
  ⟨hb, h.tb.keep (Fr.grown hg (Fr.refl (fun k => vt.ownBlock = some k) w) (fun k hk => Or.inl hk)) (fun k hk e => by
    obtain ⟨cells, hc⟩ := R_typed h.ro k e
    exact h.tb.other hc (by decide) (by decide) hk), ho⟩
theorem same_self (b : Bat) (W : World) : Calls Try.prog 11 #[b.val, b.val] W fun e w' => e = .returned (.bool true) ∧ Below W.heap.size W w' :=
  postroadlaw15_same.calls b.base b.count b.view b.prod b.seq none 0 [] b.base b.count b.view b.prod b.seq none 0 [] true W (Kd.C_nil _ _) (Nat.le_refl _) (Kd.C_nil _ _) (Nat.le_refl _) (by simp [postroadlaw15_same.f, postroadref10_SameHead.f]; exact wrap64_id 0 (by omega) (by omega))
def rdId (xs : List (Int × Int)) (i : Int) : Int × Int := xs.getD i.toNat (0, 0)
theorem atId {w : World} {A : Option Addr} {n : Nat} {xs : List (Int × Int)} (h : Kd.C HR.shId.d w A n xs) (i : Int) (h0 : 0 ≤ i) (h1 : i < n) : ∃ ad, A = some ad ∧ w.cell? (ad.add (i.toNat * 2)) = some (.int .i64 (rdId xs i).1) ∧ w.cell? ⟨(ad.add (i.toNat * 2)).block, (ad.add (i.toNat * 2)).off + 1, none⟩ = some (.int .i64 (rdId xs i).2) := by
  obtain ⟨ad, c, e, _, hK, hc0⟩ := Kd.C_get h (0, 0) i h0 h1
  have hc : ∀ j u, c[j]? = some u → w.cell? (ad.add (i.toNat * 2 + j)) = some u := hc0
  obtain rfl := HR.id_open hK
  exact ⟨ad, e, hc 0 _ rfl, by rw [← add_field _ _ 1 (by omega)]; exact hc 1 _ rfl⟩
theorem lt_of_cell {w : World} {p : Addr} {u : Value} (h : w.cell? p = some u) : p.block < w.heap.size := by
  rcases Nat.lt_or_ge p.block w.heap.size with h1 | h1
  · exact h1
  · simp [World.cell?, Array.getElem?_eq_none h1] at h
set_option maxRecDepth 100000 in
set_option maxHeartbeats 16000000 in
theorem sonce_walk (A1 : Option Addr) (c1 : Nat) (l1 : List (Int × Int)) (A2 : Option Addr) (c2 : Nat) (l2 : List Int) (W : World) (hr1 : Kd.C HR.shId.d W A1 l1.length l1) (hc1 : l1.length ≤ c1) (ok1 : HR.shIds.ok l1) (hr2 : Kd.C (Kd.int .i64) W A2 l2.length l2) (hc2 : l2.length ≤ c2) (ok2 : HR.shInts.ok l2) :
    Calls Try.prog 3 #[.slice A1 l1.length c1, .slice A2 l2.length c2] W fun e w' => e = .returned (.bool true) ∧ Below W.heap.size W w' := by
  have hu3 := Try.underlying30
  have hu4 := Try.underlying33
  have hu6 := Try.underlying41
  have HA1 := Aside0.mk hr1
  have HA2 := Aside0.mk hr2
  clear hr1 hr2 ok1 ok2 hc1 hc2
  obtain ⟨B, hB⟩ : ∃ B, W.heap.size = B := ⟨_, rfl⟩
  have HBG := Aside0.mk hB
  clear hB
  go_enter Try.func3, Try.ntmps3
  go_wp2_with fail
  refine (new_ok 64 W (by decide) (by decide)).mono ?_
  rintro e w1 ⟨t, m, rfl, h1, hb⟩
  rw [HBG.out] at h1 hb
  have HS := Aside0.mk (OS.mk (vt := .slice none 0 0) (told := []) hb h1 (Kd.R_nil _ _ _ _ _))
  clear h1 hb
  go_wp2_with fail
  go_loopw [7, 8, 9] (fun v7 v8 v9 wr => ∃ (i : Nat) (at_ : Int) (T : Tb) (v : Value) (told : List Ack), v9 = .int .i64 i ∧ v7 = .int .i64 at_ ∧ i ≤ 100 ∧ Aside0 (OS W wr B t m v v8 T told) ∧ Aside0 (OI T at_ told i)) (fun v7 v8 v9 _ => 100 - (intOf v9).toNat)
  case atStart => exact ⟨0, 0, _, _, [], rfl, rfl, Nat.zero_le _, HS, ⟨OI.start⟩⟩
  case round =>
    clear HS
    obtain ⟨i, at_, T, v, told, rfl, rfl, hi, HS, HO⟩ := hrel
    by_cases hlt : i < l1.length ∧ i < l2.length ∧ i < 100
    · have hb1 : decide (i < l1.length) = true := by simp; omega
      have hb2 : decide (i < l2.length) = true := by simp; omega
      have hb3 : decide ((i : Int) < 100) = true := by simp; omega
      obtain ⟨ad1, hA1, x0, x1⟩ := atId (Kd.C_below HA1.out (by rw [HBG.out]; exact HS.out.be)) (i : Int) (by omega) (by omega)
      obtain ⟨ad2, hA2, y0⟩ := Kd.at_int (Kd.C_below HA2.out (by rw [HBG.out]; exact HS.out.be)) (i : Int) (by omega) (by omega)
      subst hA1
      subst hA2
      simp only [Int.toNat_natCast] at x0 x1 y0
      obtain ⟨a0, ha0⟩ : ∃ z, (rdId l1 (i : Int)).1 = z := ⟨_, rfl⟩
      obtain ⟨a1, ha1⟩ : ∃ z, (rdId l1 (i : Int)).2 = z := ⟨_, rfl⟩
      obtain ⟨cn, hcn⟩ : ∃ z, rd l2 (i : Int) = z := ⟨_, rfl⟩
      rw [ha0] at x0
      rw [ha1] at x1
      rw [hcn] at y0
      obtain ⟨p, hp, hp'⟩ := and_any a0 3 (by decide)
      obtain ⟨s, hs, hs'⟩ := and_any a1 7 (by decide)
      obtain ⟨n7, hn7, hn7'⟩ := and_any cn 7 (by decide)
      obtain ⟨n15, hn15, hn15'⟩ := and_any cn 15 (by decide)
      replace hp : Go.bits .and .i64 a0 3 = p := hp
      replace hs : Go.bits .and .i64 a1 7 = s := hs
      replace hn7 : Go.bits .and .i64 cn 7 = n7 := hn7
      replace hn15 : Go.bits .and .i64 cn 15 = n15 := hn15
      have q1 : (0 : Int) ≤ (i : Int) := by omega
      have q2 : (i : Int) < (l1.length : Int) := by omega
      have q3 : (i : Int) < (l2.length : Int) := by omega
      have hi100 : i ≤ 100 := hi
      have HI := Aside0.mk hlt
      have HP := Aside0.mk (And.intro hp' (And.intro hs' (And.intro hn7' hn15')))
      have hy : ∀ w', Below B W w' → w'.cell? (ad2.add i) = some (.int .i64 cn) := fun w' hb => by
        obtain ⟨ad3, e3, z0⟩ := Kd.at_int (Kd.C_below HA2.out (by rw [HBG.out]; exact hb)) (i : Int) (by omega) (by omega)
        injection e3 with e3
        subst e3
        rw [hcn, Int.toNat_natCast] at z0
        exact z0
      have HY := Aside0.mk hy
      clear ha0 ha1 hcn hlt hp' hs' hn7' hn15' hy
      have hba := below_alloc (Below.refl wr.heap.size wr) (.cells #[.int .i64 0, .int .i64 0] 30)
      have xa0 : (wr.alloc (.cells #[.int .i64 0, .int .i64 0] 30)).cell? (ad1.add (i * 2)) = some (.int .i64 a0) := (hba.cell (lt_of_cell x0)).trans x0
      have xa1 : (wr.alloc (.cells #[.int .i64 0, .int .i64 0] 30)).cell? ⟨(ad1.add (i * 2)).block, (ad1.add (i * 2)).off + 1, none⟩ = some (.int .i64 a1) := (hba.cell (p := ⟨(ad1.add (i * 2)).block, (ad1.add (i * 2)).off + 1, none⟩) (lt_of_cell x1)).trans x1
      clear hba
      go_upto_region 9 with (fail)
      go_region
      all_goals
        have hb := below_alloc (Below.refl wr.heap.size wr) (.cells #[.int .i64 p, .int .i64 s] 30)
        have KI0 : (wr.alloc (.cells #[.int .i64 p, .int .i64 s] 30)).drew.heap[wr.heap.size]? = _ := heap_alloc_new wr (.cells #[.int .i64 p, .int .i64 s] 30)
        have HS2 := Aside0.mk (HS.out.below (below_drew hb))
        obtain ⟨g, hg⟩ : ∃ g, wr.heap.size = g := ⟨_, rfl⟩
        rw [hg] at KI0
        rw [hg]
        have KI := Aside0.mk KI0
        clear hb KI0 hg x0 x1 xa0 xa1 y0
        generalize (wr.alloc (.cells #[.int .i64 p, .int .i64 s] 30)).drew = w2 at HS2 KI ⊢
        clear HS wr
        have y1 := HY.out w2 HS2.out.be
        have i0 : w2.cell? ⟨g, 0, none⟩ = some (.int .i64 p) := (blk_cell KI.out 0).trans rfl
        have i1 : w2.cell? ⟨g, 1, none⟩ = some (.int .i64 s) := (blk_cell KI.out 1).trans rfl
        have hw1 : IntKind.i64.wrap (1 + (n7 : Int)) = 1 + (n7 : Int) := IntWalk.i64_in _ (by have := HP.out; omega)
        have hq : 0 < T.q := by rw [HO.out.q]; decide
        go_wp2_with fail
        cases hl : look T.l ((p : Int), (s : Int)) with
        | none =>
          refine (find_ok HS2.out.tb hq p s Bat.zero 3 (by unfold findR; rw [hl])).mono ?_
          rintro e w3 ⟨rfl, hb⟩
          have HS3 := Aside0.mk (HS2.out.below hb)
          have KI3 := Aside0.mk ((hb.block _ (blk_lt KI.out)).trans KI.out)
          clear hb y1 i0 i1 HS2 KI
          unfold Bat.val Bat.zero
          simp only
          go_upto_region 12 with (fail)
          have hb := below_alloc (Below.refl w3.heap.size w3) (.cells #[.int .i64 0, .int .i64 0, .int .i64 0, .int .i64 0, .int .i64 0, .slice none 0 0] 33)
          have HS4 := Aside0.mk (HS3.out.below hb)
          have KI4 := Aside0.mk ((hb.block _ (blk_lt KI3.out)).trans KI3.out)
          obtain ⟨g12, hg12⟩ : ∃ g12, w3.heap.size = g12 := ⟨_, rfl⟩
          rw [hg12]
          clear hb HS3 KI3 hg12
          generalize w3.alloc (.cells #[.int .i64 0, .int .i64 0, .int .i64 0, .int .i64 0, .int .i64 0, .slice none 0 0] 33) = w4 at HS4 KI4 ⊢
          clear w3
          have i0 : w4.cell? ⟨g, 0, none⟩ = some (.int .i64 p) := (blk_cell KI4.out 0).trans rfl
          have i1 : w4.cell? ⟨g, 1, none⟩ = some (.int .i64 s) := (blk_cell KI4.out 1).trans rfl
          obtain ⟨hk, hO2, hsm⟩ := HO.out.put HI.out.2.2 (n := 1 + (n7 : Int)) (p := (p : Int)) (s := (s : Int)) (by have := HP.out; omega) (by have := HP.out; omega) (by have := HP.out; omega)
          have HO2 := Aside0.mk hO2
          have HSM := Aside0.mk hsm
          have HHK := Aside0.mk hk
          have HL := Aside0.mk hl
          clear hO2 hsm hk hl
          go_wp2_with fail
          refine (put_ok (T' := { T with l := T.l ++ [(((p : Int), (s : Int)), ⟨at_, 1 + (n7 : Int), 0, p, s⟩)], e := at_ + (1 + (n7 : Int)) }) HS4.out.tb hq ⟨at_, 1 + (n7 : Int), 0, p, s⟩ HHK.out 0 (by unfold putR; simp only; rw [HL.out, HO.out.e, if_neg (by simp)])).mono ?_
          rintro e w5 ⟨rfl, h5, hf⟩
          have hs5 := HS4.out.step hf h5
          have KI5 := Aside0.mk (hf.blk KI4.out (HS4.out.tb.other KI4.out (by decide) (by decide)))
          have hln : told.length + T.ws.length ≤ i := HO.out.ln
          obtain ⟨at5, hat5⟩ : ∃ z, at_ + (1 + (n7 : Int)) = z := ⟨_, rfl⟩
          have ho5 := HO2.out
          rw [hat5] at ho5 hs5
          have hw2 : IntKind.i64.wrap (at_ + (1 + (n7 : Int))) = at5 := by rw [IntWalk.i64_in _ (by have := HO.out.lo; have := HO.out.hi; have := HP.out; omega)]; exact hat5
          obtain ⟨T5, hT5⟩ : ∃ T5, ({ T with l := T.l ++ [(((p : Int), (s : Int)), ⟨at_, 1 + (n7 : Int), 0, p, s⟩)], e := at5 } : Tb) = T5 := ⟨_, rfl⟩
          replace hln : told.length + T5.ws.length ≤ i := by rw [← hT5]; exact hln
          rw [hT5] at ho5 hs5
          have HS5 := Aside0.mk hs5
          have HO5 := Aside0.mk ho5
          have HLN := Aside0.mk hln
          clear h5 hf HS4 KI4 i0 i1 hs5 ho5 hln hat5 hT5 HO HO2 HSM HHK HL hq
          have i0 : w5.cell? ⟨g, 0, none⟩ = some (.int .i64 p) := (blk_cell KI5.out 0).trans rfl
          have i1 : w5.cell? ⟨g, 1, none⟩ = some (.int .i64 s) := (blk_cell KI5.out 1).trans rfl
          go_wp2_with fail
          have hq5 : 0 < T5.q := by rw [HO5.out.q]; decide
          have hW := fun who => wait_ok (T' := (waitR T5 ((p : Int), (s : Int)) who).1) HS5.out.tb hq5 (by have := HLN.out; omega) p s who (waitR T5 ((p : Int), (s : Int)) who).2 rfl
          refine (hW _).mono ?_
          rintro e w6 ⟨v6, rfl, h6, hf⟩
          obtain ⟨wh, hwh⟩ : ∃ z, (100 + (i : Int) % 3) = z := ⟨_, rfl⟩
          rw [hwh] at h6 ⊢
          obtain ⟨T6, hT6⟩ : ∃ T6, (waitR T5 ((p : Int), (s : Int)) wh).1 = T6 := ⟨_, rfl⟩
          obtain ⟨ho6, _⟩ := HO5.out.wait HLN.out (k := ((p : Int), (s : Int))) (who := wh) (r := (waitR T5 ((p : Int), (s : Int)) wh).2) (T' := T6) (by rw [← hT6])
          rw [hT6] at h6
          have HS6 := Aside0.mk (HS5.out.step hf h6)
          have HO6 := Aside0.mk ho6
          clear h6 hf hW HS5 HO5 i0 i1 ho6 hT6 hwh hq5 KI5
          have y1 := HY.out w6 HS6.out.be
          have hw3 : IntKind.i64.wrap (at5 - (n15 : Int)) = at5 - (n15 : Int) := IntWalk.i64_in _ (by have := HO6.out.lo; have := HO6.out.hi; have := HP.out; omega)
          go_wp2_with fail
          have hq6 : 0 < T6.q := by rw [HO6.out.q]; decide
          refine (done_ok HS6.out.tb hq6 (by have := HO6.out.ln; omega) HO6.out.ok (at5 - (n15 : Int))).mono ?_
          rintro e w7 ⟨vo, v7, rfl, ho, h7, hf⟩
          have ho7 := HO6.out.done (at5 - (n15 : Int))
          have HS7 := Aside0.mk (HS6.out.step hf h7)
          obtain ⟨A7, c7, e7⟩ := Kd.R_slice ho
          subst e7
          have hak2 := (Kd.R_reads' ho).2.2
          obtain ⟨ak, hak⟩ : ∃ ak, (T6.ws.filter (dn T6 (at5 - (n15 : Int)))).map (ackOf T6) = ak := ⟨_, rfl⟩
          rw [hak] at hak2 ho7 ⊢
          have HAK := Aside0.mk hak2
          have HO7 := Aside0.mk ho7
          have HLK := Aside0.mk (show told.length + ak.length ≤ 1000000 from by have := ho7.ln; rw [List.length_append] at this; omega)
          clear ho h7 hf HS6 HO6 y1 hak hak2 ho7 hq6
          go_wp2_with ((with_reducible refine gate_builtin (b := .append) (xs := #[.tmp 110, .tmp 119]) rfl ?_); at_builtin; refine Kd.R_append_rows kAck (w0 := W) B rfl (.tmp 110) (.tmp 119) 28 41 (.agg #[.int .i64 0, .int .i64 0, .int .i64 0, .int .i64 0, .int .i64 0, .int .i64 0]) 48 rfl Try.underlying28 info41 rfl (by decide) (by decide) u8 told ak A7 ak.length c7 (fun _ => True) (fun _ => False) rfl (by first | (go_simp; done) | (go_simp; rfl)) HS7.out.ro HAK.out (fun x cs h => by rw [kAck_open h]; exact kAck_mkM _ _ _ _) (fun _ hk => hk.elim) (fun _ _ => trivial) HS7.out.be HS7.out.base (by have := HLK.out; omega) ?_; intro v9 w9 ho hb hg hat; have HS9 := Aside0.mk (HS7.out.grow hg hb ho); clear ho hb hg hat)
          go_roundw
          case rel => exact ⟨i + 1, at5, _, _, told ++ ak, by simp, rfl, HI.out.2.2, HS9, HO7⟩
          case measure => simp [intOf]; have := HI.out; omega
        | some b =>
          obtain ⟨z0, z1, z2, z3, z4⟩ := b
          refine (find_ok HS2.out.tb hq p s ⟨z0, z1, z2, z3, z4⟩ 0 (by unfold findR; rw [hl])).mono ?_
          rintro e w3 ⟨rfl, hb⟩
          have HS3 := Aside0.mk (HS2.out.below hb)
          have KI3 := Aside0.mk ((hb.block _ (blk_lt KI.out)).trans KI.out)
          clear hb y1 i0 i1 HS2 KI
          unfold Bat.val
          simp only
          go_upto_region 12 with (fail)
          have hb := below_alloc (Below.refl w3.heap.size w3) (.cells #[.int .i64 z0, .int .i64 z1, .int .i64 z2, .int .i64 z3, .int .i64 z4, .slice none 0 0] 33)
          have kb := heap_alloc_new w3 (.cells #[.int .i64 z0, .int .i64 z1, .int .i64 z2, .int .i64 z3, .int .i64 z4, .slice none 0 0] 33)
          have HS4 := Aside0.mk (HS3.out.below hb)
          have KI4 := Aside0.mk ((hb.block _ (blk_lt KI3.out)).trans KI3.out)
          obtain ⟨g12, hg12⟩ : ∃ g12, w3.heap.size = g12 := ⟨_, rfl⟩
          rw [hg12] at kb
          rw [hg12]
          have KB := Aside0.mk kb
          clear hb HS3 KI3 hg12 kb
          generalize w3.alloc (.cells #[.int .i64 z0, .int .i64 z1, .int .i64 z2, .int .i64 z3, .int .i64 z4, .slice none 0 0] 33) = w4 at HS4 KI4 KB ⊢
          clear w3
          have i0 : w4.cell? ⟨g, 0, none⟩ = some (.int .i64 p) := (blk_cell KI4.out 0).trans rfl
          have i1 : w4.cell? ⟨g, 1, none⟩ = some (.int .i64 s) := (blk_cell KI4.out 1).trans rfl
          have HHK := Aside0.mk (HO.out.put HI.out.2.2 (n := 1 + (n7 : Int)) (p := (p : Int)) (s := (s : Int)) (by have := HP.out; omega) (by have := HP.out; omega) (by have := HP.out; omega)).1
          have HL := Aside0.mk hl
          clear hl
          go_wp2_with fail
          refine (put_ok (T' := T) HS4.out.tb hq ⟨at_, 1 + (n7 : Int), 0, p, s⟩ HHK.out 110 (by unfold putR; simp only; rw [HL.out]; exact if_pos (Or.inl rfl))).mono ?_
          rintro e wa ⟨rfl, h5, hf⟩
          have HSa := Aside0.mk (HS4.out.step hf h5)
          have KIa := Aside0.mk (hf.blk KI4.out (HS4.out.tb.other KI4.out (by decide) (by decide)))
          have KBa := Aside0.mk (hf.blk KB.out (HS4.out.tb.other KB.out (by decide) (by decide)))
          clear h5 hf HS4 KI4 KB i0 i1
          have i0 : wa.cell? ⟨g, 0, none⟩ = some (.int .i64 p) := (blk_cell KIa.out 0).trans rfl
          have i1 : wa.cell? ⟨g, 1, none⟩ = some (.int .i64 s) := (blk_cell KIa.out 1).trans rfl
          go_wp2_with fail
          refine (find_ok HSa.out.tb hq p s ⟨z0, z1, z2, z3, z4⟩ 0 (by unfold findR; rw [HL.out])).mono ?_
          rintro e wb ⟨rfl, hb⟩
          have HSb := Aside0.mk (HSa.out.below hb)
          have KIb := Aside0.mk ((hb.block _ (blk_lt KIa.out)).trans KIa.out)
          have KBb := Aside0.mk ((hb.block _ (blk_lt KBa.out)).trans KBa.out)
          clear hb HSa KIa KBa i0 i1
          unfold Bat.val
          simp only
          go_upto_region 18 with (fail)
          have hb := below_alloc (Below.refl wb.heap.size wb) (.cells #[.int .i64 z0, .int .i64 z1, .int .i64 z2, .int .i64 z3, .int .i64 z4, .slice none 0 0] 33)
          have kb := heap_alloc_new wb (.cells #[.int .i64 z0, .int .i64 z1, .int .i64 z2, .int .i64 z3, .int .i64 z4, .slice none 0 0] 33)
          have HSc := Aside0.mk (HSb.out.below hb)
          have KIc := Aside0.mk ((hb.block _ (blk_lt KIb.out)).trans KIb.out)
          have KBc := Aside0.mk ((hb.block _ (blk_lt KBb.out)).trans KBb.out)
          obtain ⟨g15, hg15⟩ : ∃ g15, wb.heap.size = g15 := ⟨_, rfl⟩
          rw [hg15] at kb
          rw [hg15]
          have KDc := Aside0.mk kb
          clear hb HSb KIb KBb hg15 kb
          generalize wb.alloc (.cells #[.int .i64 z0, .int .i64 z1, .int .i64 z2, .int .i64 z3, .int .i64 z4, .slice none 0 0] 33) = wc at HSc KIc KBc KDc ⊢
          clear wb
          have d0 : wc.cell? ⟨g12, 0, none⟩ = some (.int .i64 z0) := (blk_cell KBc.out 0).trans rfl
          have d1 : wc.cell? ⟨g12, 1, none⟩ = some (.int .i64 z1) := (blk_cell KBc.out 1).trans rfl
          have d2 : wc.cell? ⟨g12, 2, none⟩ = some (.int .i64 z2) := (blk_cell KBc.out 2).trans rfl
          have d3 : wc.cell? ⟨g12, 3, none⟩ = some (.int .i64 z3) := (blk_cell KBc.out 3).trans rfl
          have d4 : wc.cell? ⟨g12, 4, none⟩ = some (.int .i64 z4) := (blk_cell KBc.out 4).trans rfl
          have d5 : wc.cell? ⟨g12, 5, none⟩ = some (.slice none 0 0) := (blk_cell KBc.out 5).trans rfl
          have e0 : wc.cell? ⟨g15, 0, none⟩ = some (.int .i64 z0) := (blk_cell KDc.out 0).trans rfl
          have e1 : wc.cell? ⟨g15, 1, none⟩ = some (.int .i64 z1) := (blk_cell KDc.out 1).trans rfl
          have e2 : wc.cell? ⟨g15, 2, none⟩ = some (.int .i64 z2) := (blk_cell KDc.out 2).trans rfl
          have e3 : wc.cell? ⟨g15, 3, none⟩ = some (.int .i64 z3) := (blk_cell KDc.out 3).trans rfl
          have e4 : wc.cell? ⟨g15, 4, none⟩ = some (.int .i64 z4) := (blk_cell KDc.out 4).trans rfl
          have e5 : wc.cell? ⟨g15, 5, none⟩ = some (.slice none 0 0) := (blk_cell KDc.out 5).trans rfl
          go_wp2_with fail
          refine (same_self ⟨z0, z1, z2, z3, z4⟩ wc).mono ?_
          rintro e w5 ⟨rfl, hb⟩
          have HS5 := Aside0.mk (HSc.out.below hb)
          have KI5 := Aside0.mk ((hb.block _ (blk_lt KIc.out)).trans KIc.out)
          have HO5 := Aside0.mk (HO.out.up (Nat.le_succ i))
          have HLN := Aside0.mk HO.out.ln
          clear hb HSc KIc KBc KDc d0 d1 d2 d3 d4 d5 e0 e1 e2 e3 e4 e5 HO HHK HL hq
          have i0 : w5.cell? ⟨g, 0, none⟩ = some (.int .i64 p) := (blk_cell KI5.out 0).trans rfl
          have i1 : w5.cell? ⟨g, 1, none⟩ = some (.int .i64 s) := (blk_cell KI5.out 1).trans rfl
          go_wp2_with fail
          have hq5 : 0 < T.q := by rw [HO5.out.q]; decide
          have hW := fun who => wait_ok (T' := (waitR T ((p : Int), (s : Int)) who).1) HS5.out.tb hq5 (by have := HLN.out; omega) p s who (waitR T ((p : Int), (s : Int)) who).2 rfl
          refine (hW _).mono ?_
          rintro e w6 ⟨v6, rfl, h6, hf⟩
          obtain ⟨wh, hwh⟩ : ∃ z, (100 + (i : Int) % 3) = z := ⟨_, rfl⟩
          rw [hwh] at h6 ⊢
          obtain ⟨T6, hT6⟩ : ∃ T6, (waitR T ((p : Int), (s : Int)) wh).1 = T6 := ⟨_, rfl⟩
          obtain ⟨ho6, _⟩ := HO5.out.wait HLN.out (k := ((p : Int), (s : Int))) (who := wh) (r := (waitR T ((p : Int), (s : Int)) wh).2) (T' := T6) (by rw [← hT6])
          rw [hT6] at h6
          have HS6 := Aside0.mk (HS5.out.step hf h6)
          have HO6 := Aside0.mk ho6
          clear h6 hf hW HS5 HO5 i0 i1 ho6 hT6 hwh hq5 KI5
          have y1 := HY.out w6 HS6.out.be
          have hw3 : IntKind.i64.wrap (at_ - (n15 : Int)) = at_ - (n15 : Int) := IntWalk.i64_in _ (by have := HO6.out.lo; have := HO6.out.hi; have := HP.out; omega)
          go_wp2_with fail
          have hq6 : 0 < T6.q := by rw [HO6.out.q]; decide
          refine (done_ok HS6.out.tb hq6 (by have := HO6.out.ln; omega) HO6.out.ok (at_ - (n15 : Int))).mono ?_
          rintro e w7 ⟨vo, v7, rfl, ho, h7, hf⟩
          have ho7 := HO6.out.done (at_ - (n15 : Int))
          have HS7 := Aside0.mk (HS6.out.step hf h7)
          obtain ⟨A7, c7, e7⟩ := Kd.R_slice ho
          subst e7
          have hak2 := (Kd.R_reads' ho).2.2
          obtain ⟨ak, hak⟩ : ∃ ak, (T6.ws.filter (dn T6 (at_ - (n15 : Int)))).map (ackOf T6) = ak := ⟨_, rfl⟩
          rw [hak] at hak2 ho7 ⊢
          have HAK := Aside0.mk hak2
          have HO7 := Aside0.mk ho7
          have HLK := Aside0.mk (show told.length + ak.length ≤ 1000000 from by have := ho7.ln; rw [List.length_append] at this; omega)
          clear ho h7 hf HS6 HO6 y1 hak hak2 ho7 hq6
          go_wp2_with ((with_reducible refine gate_builtin (b := .append) (xs := #[.tmp 110, .tmp 119]) rfl ?_); at_builtin; refine Kd.R_append_rows kAck (w0 := W) B rfl (.tmp 110) (.tmp 119) 28 41 (.agg #[.int .i64 0, .int .i64 0, .int .i64 0, .int .i64 0, .int .i64 0, .int .i64 0]) 48 rfl Try.underlying28 info41 rfl (by decide) (by decide) u8 told ak A7 ak.length c7 (fun _ => True) (fun _ => False) rfl (by first | (go_simp; done) | (go_simp; rfl)) HS7.out.ro HAK.out (fun x cs h => by rw [kAck_open h]; exact kAck_mkM _ _ _ _) (fun _ hk => hk.elim) (fun _ _ => trivial) HS7.out.be HS7.out.base (by have := HLK.out; omega) ?_; intro v9 w9 ho hb hg hat; have HS9 := Aside0.mk (HS7.out.grow hg hb ho); clear ho hb hg hat)
          go_roundw
          case rel => exact ⟨i + 1, at_, _, _, told ++ ak, by simp, rfl, HI.out.2.2, HS9, HO7⟩
          case measure => simp [intOf]; have := HI.out; omega
    · clear HA1 HA2
      have hc : l1.length ≤ i ∨ (i < l1.length ∧ l2.length ≤ i) ∨ (i < l1.length ∧ i < l2.length ∧ i = 100) := by omega
      clear hlt
      rcases hc with h | h | h
      all_goals
        first
        | (have hb1 : decide (i < l1.length) = false := (by simp; omega))
        | ((have hb1 : decide (i < l1.length) = true := (by simp; omega)); (have hb2 : decide (i < l2.length) = false := (by simp; omega)))
        | ((have hb1 : decide (i < l1.length) = true := (by simp; omega)); (have hb2 : decide (i < l2.length) = true := (by simp; omega)); (have hb3 : decide ((i : Int) < 100) = false := (by simp; omega)))
        clear h
        have hq : 0 < T.q := by rw [HO.out.q]; decide
        go_wp2_with fail
        refine (done_ok HS.out.tb hq (by have := HO.out.ln; omega) HO.out.ok at_).mono ?_
        rintro e w7 ⟨vo, v7, rfl, ho, h7, hf⟩
        have ho7 := HO.out.done at_
        rw [HO.out.all] at h7 ho7
        have hs7 := HS.out.step hf h7
        obtain ⟨A7, c7, e7⟩ := Kd.R_slice ho
        subst e7
        have hak2 := (Kd.R_reads' ho).2.2
        obtain ⟨ak, hak⟩ : ∃ ak, (T.ws.filter (dn T at_)).map (ackOf T) = ak := ⟨_, rfl⟩
        rw [hak] at hak2 ho7 ⊢
        obtain ⟨T7, hT7⟩ : ∃ T7, ({ T with ws := [] } : Tb) = T7 := ⟨_, rfl⟩
        have hws : T7.ws = [] := by rw [← hT7]
        rw [hT7] at ho7 hs7
        have HWS := Aside0.mk hws
        have HS7 := Aside0.mk hs7
        have HAK := Aside0.mk hak2
        obtain ⟨L, hL⟩ : ∃ L, told ++ ak = L := ⟨_, rfl⟩
        have HLK := Aside0.mk (show told.length + ak.length ≤ 1000000 from by have := ho7.ln; rw [List.length_append] at this; omega)
        rw [hL] at ho7
        have HO7 := Aside0.mk ho7
        have HL := Aside0.mk hL
        clear ho h7 hf HS HO hak hak2 ho7 hs7 hq hT7 hws hL
        go_wp2_with ((with_reducible refine gate_builtin (b := .append) (xs := #[.tmp 121, .tmp 124]) rfl ?_); at_builtin; refine Kd.R_append_rows kAck (w0 := W) B rfl (.tmp 121) (.tmp 124) 28 41 (.agg #[.int .i64 0, .int .i64 0, .int .i64 0, .int .i64 0, .int .i64 0, .int .i64 0]) 48 rfl Try.underlying28 info41 rfl (by decide) (by decide) u8 told ak A7 ak.length c7 (fun _ => True) (fun _ => False) rfl (by first | (go_simp; done) | (go_simp; rfl)) HS7.out.ro HAK.out (fun x cs h => by rw [kAck_open h]; exact kAck_mkM _ _ _ _) (fun _ hk => hk.elim) (fun _ _ => trivial) HS7.out.be HS7.out.base (by have := HLK.out; omega) ?_; intro v9 w9 ho hb hg hat; rw [HL.out] at ho; have HS9 := Aside0.mk (HS7.out.grow hg hb ho); obtain ⟨A9, c9, e9⟩ := Kd.R_slice ho; subst e9; clear ho hb hg hat)
        clear HAK HLK HL hb1
        have HX := Aside0.mk (show L.length ≤ 1000000 from by have := HO7.out.ln; omega)
        go_loopw [17] (fun v17 wr => ∃ j : Nat, v17 = .int .i64 j ∧ j ≤ L.length ∧ Aside0 (OS W wr B t m v7 (.slice A9 L.length c9) T7 L)) (fun v17 _ => L.length - (intOf v17).toNat)
        case atStart => exact ⟨0, rfl, Nat.zero_le _, HS9⟩
        case round =>
          clear HS9
          obtain ⟨j, rfl, hj, HS⟩ := hrel
          by_cases hlt : j < L.length
          · have hb4 : decide (j < L.length) = true := by simp; omega
            obtain ⟨ad, hA, h0, h1, h2, h3, h4, h5⟩ := atAck (Kd.R_reads' HS.out.ro).2.2 (j : Int) (by omega) (by omega)
            subst hA
            obtain ⟨⟨s0, s1, s2, s3, s4, s5⟩, hx⟩ : ∃ z, rdAck L (j : Int) = z := ⟨_, rfl⟩
            obtain ⟨⟨z0, z1, z2, z3, z4⟩, hl, rfl, rfl, rfl⟩ := HO7.out.td ⟨s0, s1, s2, s3, s4, s5⟩ (by rw [← hx]; unfold rdAck; rw [Int.toNat_natCast, List.getD_eq_getElem?_getD, List.getElem?_eq_getElem hlt]; exact List.getElem_mem _)
            rw [hx] at h0 h1 h2 h3 h4 h5
            simp only [Int.toNat_natCast] at h0 h1 h2 h3 h4 h5 hl
            have h2' : wr.cell? ⟨(ad.add (j * 6)).block, (ad.add (j * 6)).off + 1 + 1, none⟩ = some (.int .i64 s2) := h2
            have q1 : (0 : Int) ≤ (j : Int) := by omega
            have q2 : (j : Int) < (L.length : Int) := by omega
            have hq7 : 0 < T7.q := by rw [HO7.out.q]; decide
            have hj64 : j ≤ 1000000 := by have := HX.out; omega
            have HI := Aside0.mk hlt
            have HLK := Aside0.mk hl
            clear hlt hl h0
            go_wp2_with fail
            refine (find_ok HS.out.tb hq7 s1 s2 ⟨s4, s5, z2, z3, z4⟩ 0 (by unfold findR; rw [HLK.out])).mono ?_
            rintro e w3 ⟨rfl, hb⟩
            have HS3 := Aside0.mk (HS.out.below hb)
            clear hb h1 h2 h2' h3 h4 h5 HS hq7
            unfold Bat.val
            simp only
            go_upto_region 27 with (fail)
            have hb := below_alloc (Below.refl w3.heap.size w3) (.cells #[.int .i64 s4, .int .i64 s5, .int .i64 z2, .int .i64 z3, .int .i64 z4, .slice none 0 0] 33)
            have k12 := heap_alloc_new w3 (.cells #[.int .i64 s4, .int .i64 s5, .int .i64 z2, .int .i64 z3, .int .i64 z4, .slice none 0 0] 33)
            have HS4 := Aside0.mk (HS3.out.below hb)
            obtain ⟨g12, hg12⟩ : ∃ g12, w3.heap.size = g12 := ⟨_, rfl⟩
            rw [hg12] at k12
            rw [hg12]
            clear hb HS3 hg12
            generalize w3.alloc (.cells #[.int .i64 s4, .int .i64 s5, .int .i64 z2, .int .i64 z3, .int .i64 z4, .slice none 0 0] 33) = w4 at HS4 k12 ⊢
            clear w3
            obtain ⟨ad3, hA, h0, h1, h2, h3, h4, h5⟩ := atAck (Kd.R_reads' HS4.out.ro).2.2 (j : Int) (by omega) (by have := HI.out; omega)
            injection hA with hA
            subst hA
            rw [hx] at h3 h4 h5
            simp only [Int.toNat_natCast] at h3 h4 h5
            have d0 : w4.cell? ⟨g12, 0, none⟩ = some (.int .i64 s4) := (blk_cell k12 0).trans rfl
            have d1 : w4.cell? ⟨g12, 1, none⟩ = some (.int .i64 s5) := (blk_cell k12 1).trans rfl
            have e0 : (s4 != s4) = false := by simp
            have e1 : (s5 != s5) = false := by simp
            clear h0 h1 h2 hx k12
            go_quiet (fail)
            go_wp2_with fail
            go_roundw
            case rel => exact ⟨j + 1, by simp, HI.out, ⟨HS4.out.drewN _⟩⟩
            case measure => simp [intOf]; have := HI.out; omega
          · have hb4 : decide (j < L.length) = false := by simp; omega
            have hq7 : 0 < T7.q := by rw [HO7.out.q]; decide
            have hW := waiting_ok HS.out.tb hq7
            rw [HWS.out] at hW
            have HW := Aside0.mk (show Calls Try.prog 14 #[.pointer (some ⟨t, 0, none⟩)] wr fun e w' => e = .returned (.int .i64 0) ∧ wr = w' from hW)
            clear hlt hq7 hW
            go_wp2_with fail
            refine HW.out.mono ?_
            rintro e w2 ⟨rfl, rfl⟩
            go_wp2_with fail
            refine (awake_ok wr).mono ?_
            rintro e w9 ⟨rfl, hb⟩
            have HB9 := Aside0.mk (HS.out.be.trans (hb.mono (by have := HS.out.be.size; have := HBG.out; omega)))
            clear hb HS HW
            go_wp2_with fail
            go_ret
            exact ⟨rfl, by rw [HBG.out]; exact HB9.out⟩
end Go.Proofs.Ytllgaikgpfionaa.SM
