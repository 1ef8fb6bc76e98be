/- session.Cut: walked. -/
import Derived.Test.YtllgaikgpfionaaHDel3
import Derived.Deep.RegionWith
import Derived.Deep.RegionLaw
import Derived.Deep.RegionHeld3
namespace Go.Proofs.Ytllgaikgpfionaa.SM
open Go.RowKit Go.Proofs.YtllgaikgpfionaaW.PrintWords Go.Proofs.YtllgaikgpfionaaW.PrintLast Go.Proofs.YtllgaikgpfionaaW.PrintMore Go.Proofs.Ytllgaikgpfionaa.HW Go.Proofs.Ytllgaikgpfionaa.MB
attribute [local go_sem] max2_int min2_int max_two min_two max_three min_three max_four min_four   -- for this text's walks alone
def big (off : Int) (p : (Int × Int) × Bat) : Bool := decide (off < p.2.base + p.2.count)
/-- The state of Cut's loop. -/
structure CR (W1 wr : World) (B bx t m r : Nat) (v : Value) (T : Tb) (M e : Int) (l' : Ents) (seen : Int × Int → Bool) (cnt : Nat) : Prop where
  fr : Fr (fun k => k = t ∨ k = m) W1 wr
  bx : wr.heap[bx]? = some (.cells #[.pointer (some ⟨t, 0, none⟩)] 24 (0, 0))
  bt : wr.heap[t]? = some (.cells #[.int .i64 T.q, .map (some m), .int .i64 e, v] 57 (0, 0))
  rg : Rg wr m r l' seen cnt
  ro : Kd.R kWt 62 wr B (fun _ => True) v T.ws
  he : 0 ≤ e ∧ e ≤ M
  hr : W1.heap.size ≤ r
section
variable {W1 w w' : World} {B bx t m r : Nat} {v : Value} {T : Tb} {M e : Int} {l' : Ents} {seen : Int × Int → Bool} {cnt : Nat}
theorem CR.ne (h : CR W1 w B bx t m r v T M e l' seen cnt) : bx ≠ r ∧ t ≠ r ∧ m ≠ r ∧ bx ≠ m ∧ t ≠ m ∧ bx ≠ t ∧ (∀ k, v.ownBlock = some k → k ≠ r ∧ k ≠ m ∧ k ≠ t ∧ k ≠ bx) := by
  obtain ⟨a, b, c, hit⟩ := h.rg.is_it
  obtain ⟨es, ck, hm⟩ := h.rg.is_map
  have hbx := h.bx
  have hbt := h.bt
  refine ⟨?_, ?_, ?_, ?_, ?_, ?_, fun k hk => ⟨?_, ?_, ?_, ?_⟩⟩
  · rintro rfl; rw [hbx] at hit; cases hit
  · rintro rfl; rw [hbt] at hit; cases hit
  · rintro rfl; rw [hm] at hit; cases hit
  · rintro rfl; rw [hbx] at hm; cases hm
  · rintro rfl; rw [hbt] at hm; cases hm
  · rintro rfl; rw [hbx] at hbt; cases hbt
  · rintro rfl
    obtain ⟨cells, hc⟩ := R_typed h.ro k hk
    rw [hc] at hit; cases hit
  · rintro rfl
    obtain ⟨cells, hc⟩ := R_typed h.ro k hk
    rw [hc] at hm; cases hm
  · rintro rfl
    exact Kd.R_ne h.ro hbt (by decide) hk.symm
  · rintro rfl
    exact Kd.R_ne h.ro hbx (by decide) hk.symm
theorem CR.step {S : Nat → Prop} {l2 : Ents} {seen2 : Int × Int → Bool} {cnt2 : Nat} (h : CR W1 w B bx t m r v T M e l' seen cnt) (hf : Fr S w w') (hg : Rg w' m r l2 seen2 cnt2) (h1 : ¬ S bx) (h2 : ¬ S t) (h5 : ∀ k, v.ownBlock = some k → ¬ S k) (h6 : ∀ k, S k → (k = t ∨ k = m) ∨ W1.heap.size ≤ k) : CR W1 w' B bx t m r v T M e l2 seen2 cnt2 :=
  ⟨h.fr.then_ hf h6, hf.blk h.bx h1, hf.blk h.bt h2, hg, Kd.R_mono (Kd.R_step (Kd.R_tight rfl h.ro) (fun k hk hlt => hf.block k hlt (h5 k hk.symm))) (fun _ _ => trivial), h.he, h.hr⟩
theorem CR.below (h : CR W1 w B bx t m r v T M e l' seen cnt) (hb : Below w.heap.size w w') : CR W1 w' B bx t m r v T M e l' seen cnt :=
  h.step (Fr.of_below_all hb (fun _ => False)) (h.rg.move (hb.block _ h.rg.lt.1) (hb.block _ h.rg.lt.2)) (fun h => h) (fun h => h) (fun _ _ h => h) (fun _ h => h.elim)
theorem CR.next {seen2 : Int × Int → Bool} {cnt2 : Nat} (h : CR W1 w B bx t m r v T M e l' seen cnt) (hf : Fr (fun k => k = r) w w') (hg : Rg w' m r l' seen2 cnt2) : CR W1 w' B bx t m r v T M e l' seen2 cnt2 :=
  h.step hf hg h.ne.1 h.ne.2.1 (fun k hk => (h.ne.2.2.2.2.2.2 k hk).1) (fun k hk => Or.inr (by rw [hk]; exact h.hr))
theorem CR.drop {l2 : Ents} {cnt2 : Nat} (h : CR W1 w B bx t m r v T M e l' seen cnt) (hf : Fr (fun k => k = m) w w') (hg : Rg w' m r l2 seen cnt2) : CR W1 w' B bx t m r v T M e l2 seen cnt2 :=
  h.step hf hg h.ne.2.2.2.1 h.ne.2.2.2.2.1 (fun k hk => (h.ne.2.2.2.2.2.2 k hk).2.1) (fun k hk => Or.inl (Or.inr hk))
theorem CR.set (h : CR W1 w B bx t m r v T M e l' seen cnt) (e' : Int) (he : 0 ≤ e' ∧ e' ≤ M) : CR W1 (w.setCell ⟨t, 2, none⟩ (.int .i64 e')) B bx t m r v T M e' l' seen cnt :=
  ⟨h.fr.setCell (Or.inl (Or.inl rfl)) _, (Below.heap_setCell _ _ _ _ h.ne.2.2.2.2.2.1).trans h.bx, (blk_set h.bt 2 _).trans rfl, h.rg.move (Below.heap_setCell _ _ _ _ h.ne.2.2.2.2.1.symm) (Below.heap_setCell _ _ _ _ h.ne.2.1.symm), Kd.R_set h.ro h.bt (by decide) 2 _, he, h.hr⟩
end
/-- What Cut leaves. -/
def CutQ (W : World) (B t m : Nat) (v : Value) (T : Tb) (off M : Int) (w' : World) : Prop := ∃ v' e', e' ≤ M ∧ IsT w' B t m v' ⟨T.q, T.l.filter (fun p => !big off p), e', T.ws.filter (fun x => !gone (T.l.filter (fun p => !big off p)) x)⟩ ∧ Fr (TS t m v) W w'
set_option maxHeartbeats 8000000 in
theorem cut_ok {W : World} {B t m : Nat} {v : Value} {T : Tb} (h : IsT W B t m v T) (hq : 0 < T.q) (hn : T.ws.length ≤ 1000000) (hT : ∀ p ∈ T.l, headOk p.2) (ha : T.l.Pairwise (fun a b => a.1 ≠ b.1)) (off M : Int) (ho : 0 ≤ off) (hM0 : 0 ≤ M) (hM : ∀ p ∈ T.l, p.2.base + p.2.count ≤ M) :
    Calls Try.prog 18 #[.pointer (some ⟨t, 0, none⟩), .int .i64 off] W fun e w' => e = .returned (.int .i64 0) ∧ CutQ W B t m v T off M w' := by
  have hu := Try.underlying57
  have hu2 := Try.underlying62
  have hu3 := Try.underlying30
  have hu4 := Try.underlying33
  have hu5 := Try.underlying55
  have H := Aside0.mk h
  have HQ := Aside0.mk hq
  have HN := Aside0.mk hn
  have HT := Aside0.mk hT
  have HA := Aside0.mk ha
  have HM := Aside0.mk (And.intro hM0 hM)
  have hb0 : decide (off < 0) = false := by simp; omega
  clear h hq hn hT ha hM0 hM ho
  go_enter Try.func18, Try.ntmps18
  go_upto_region 1 with (fail)
  have k0 := heap_alloc_new W (.cells #[.pointer (some ⟨t, 0, none⟩)] 24)
  have hB := below_alloc (Below.refl W.heap.size W) (.cells #[.pointer (some ⟨t, 0, none⟩)] 24)
  have H1 := Aside0.mk (H.out.below hB)
  have HB := Aside0.mk hB
  obtain ⟨bx, hg⟩ : ∃ g, W.heap.size = g := ⟨_, rfl⟩
  rw [hg] at k0
  rw [hg]
  have HG := Aside0.mk hg
  have K0 := Aside0.mk k0
  have HTB := Aside0.mk (show t ≠ bx from by have := H.out.lt; omega)
  have HRB := Aside0.mk (show ∀ k, v.ownBlock = some k → k ≠ bx from fun k hk e1 => Kd.R_ne H1.out.ro k0 (by decide) (by rw [hk, e1]))
  have HMB := Aside0.mk (show m ≠ bx from by have := H.out.bm.lt; omega)
  clear k0 hB hg
  generalize W.alloc (.cells #[.pointer (some ⟨t, 0, none⟩)] 24) = w1 at H1 HB K0 ⊢
  have b0 : w1.cell? ⟨bx, 0, none⟩ = some (.pointer (some ⟨t, 0, none⟩)) := (blk_cell K0.out 0).trans rfl
  go_wp2_with fail
  refine (given_ok H1.out HQ.out).mono ?_
  rintro e w2 ⟨rfl, rfl⟩
  have z2 : w1.frozen? ⟨t, 2, none⟩ = false := blk_frozen H1.out.bt 2
  have c2 : w1.cell? ⟨t, 2, none⟩ = some (.int .i64 T.e) := (blk_cell H1.out.bt 2).trans rfl
  go_upto_region 4 with (fail)
  have hfs : Fr (fun k => k = t ∨ k = m) w1 (w1.setCell ⟨t, 2, none⟩ (.int .i64 0)) := (Fr.refl _ _).setCell (Or.inl (Or.inl rfl)) _
  have hbt := blk_set H1.out.bt 2 (.int .i64 0)
  have htm : t ≠ m := fun e1 => by
    obtain ⟨es, ck, hm, _⟩ := H1.out.bm
    have h1 := H1.out.bt
    rw [← e1, h1] at hm
    cases hm
  have hm2 : MapIs (w1.setCell ⟨t, 2, none⟩ (.int .i64 0)) m T.l := H1.out.bm.move (Below.heap_setCell _ _ _ _ (fun e1 => htm e1.symm))
  have hro2 : Kd.R kWt 62 (w1.setCell ⟨t, 2, none⟩ (.int .i64 0)) B (fun _ => True) v T.ws := Kd.R_set H1.out.ro H1.out.bt (by decide) 2 _
  have hbx2 : (w1.setCell ⟨t, 2, none⟩ (.int .i64 0)).heap[bx]? = _ := (Below.heap_setCell w1 ⟨t, 2, none⟩ (.int .i64 0) bx (fun e1 => HTB.out e1.symm)).trans K0.out
  have HFS := Aside0.mk hfs
  have HBT := Aside0.mk hbt
  have HTM := Aside0.mk htm
  have HM2 := Aside0.mk hm2
  have HRO2 := Aside0.mk hro2
  have HBX2 := Aside0.mk hbx2
  clear hfs hbt htm hm2 hro2 hbx2 z2 c2 b0
  generalize w1.setCell ⟨t, 2, none⟩ (.int .i64 0) = w2 at HFS HBT HM2 HRO2 HBX2 ⊢
  have b0 : w2.cell? ⟨bx, 0, none⟩ = some (.pointer (some ⟨t, 0, none⟩)) := (blk_cell HBX2.out 0).trans rfl
  have c1 : w2.cell? ⟨t, 1, none⟩ = some (.map (some m)) := (blk_cell HBT.out 1).trans rfl
  obtain ⟨o, ⟨oa, ob, oc, ho⟩, hrun, cnt, hrg⟩ := run_rng HM2.out HA.out
  have hba := below_alloc (Below.refl w2.heap.size w2) o
  obtain ⟨r, hr⟩ : ∃ r, w2.heap.size = r := ⟨_, rfl⟩
  rw [hr] at hrun hrg
  have HC := Aside0.mk (show CR w1 (w2.alloc o) B bx t m r v T M 0 (T.l.filter (fun q => !((fun _ => false) q.1 && big off q))) (fun _ => false) cnt from ⟨HFS.out.add hba, (hba.block _ (blk_lt HBX2.out)).trans HBX2.out, (hba.block _ (blk_lt HBT.out)).trans (by rw [HBT.out]; rfl), by
    rw [List.filter_eq_self.2 (fun q _ => by simp)]; exact hrg, Kd.R_below HRO2.out hba, ⟨Int.le_refl _, HM.out.1⟩, by rw [← hr]; exact HFS.out.size⟩)
  clear hba ho hrg hr HFS HBT HM2 HRO2 HBX2
  go_wp2_with fail
  generalize w2.alloc o = w3 at HC ⊢
  clear hrun c1 b0
  go_loopw [] (fun wr => ∃ (e1 : Int) (seen : Int × Int → Bool) (cnt : Nat), Aside0 (CR w1 wr B bx t m r v T M e1 (T.l.filter (fun q => !(seen q.1 && big off q))) seen cnt)) (fun w' => w'.rangeLeft m r)
  case atStart => exact ⟨0, fun _ => false, _, HC⟩
  case round =>
    clear HC
    obtain ⟨e1, seen, cn, HC⟩ := hrel
    rcases HC.out.rg.next 0 with ⟨hall, hrun⟩ | ⟨⟨⟨ka, kb⟩, z0, z1, z2, z3, z4⟩, hp, hseen, w4, cnt2, hrun, hrg2, hlt, hfr2, hent⟩
    · have HALL := Aside0.mk (cut_end hall)
      have HC4 := HC
      rw [HALL.out] at HC4
      clear hall HC HALL
      go_upto_region 11 with (fail)
      have hb0 : wr.cell? ⟨bx, 0, none⟩ = some (.pointer (some ⟨t, 0, none⟩)) := (blk_cell HC4.out.bx 0).trans rfl
      have hc3 : wr.cell? ⟨t, 3, none⟩ = some v := (blk_cell HC4.out.bt 3).trans rfl
      have hf3 : wr.frozen? ⟨t, 3, none⟩ = false := blk_frozen HC4.out.bt 3
      have hne := HC4.out.ne
      have HD := Aside0.mk (delf_ok (W := wr.drew) (CL.mk (W := wr.drew) HC4.out.bx HC4.out.bt HC4.out.rg.maps) T.ws (Kd.R_drew HC4.out.ro) HN.out)
      obtain ⟨A, c, ev⟩ := Kd.R_slice HC4.out.ro
      subst ev
      have HNE := Aside0.mk hne
      have hmf : ∀ (fn : Fn) (first cap : Array Value) (w : World), (Instr.makeFunc fn first cap).run Try.prog w = .ok (.func fn first cap) w := fun _ _ _ _ => rfl
      obtain ⟨ys, hys⟩ : ∃ ys, T.ws.filter (fun x => !gone (T.l.filter (fun q => !big off q)) x) = ys := ⟨_, rfl⟩
      rw [hys] at HD
      have HYS := Aside0.mk hys
      clear hne hrun hys
      go_region_with (go_at_call 27; refine HD.out.mono ?_; rintro x w8 ⟨v8, rfl, hr8, hf8⟩; obtain ⟨A8, n8, e8⟩ := Kd.R_slice hr8; subst e8; have HR8 := Aside0.mk hr8; have HF8 := Aside0.mk hf8; have b8 := (blk_cell (hf8.blk HC4.out.bx (fun e => (HNE.out.2.2.2.2.2.2 _ e).2.2.2 rfl)) 0).trans (rfl : _ = some (Value.pointer (some ⟨t, 0, none⟩))); have bt8 := hf8.blk HC4.out.bt (fun e => (HNE.out.2.2.2.2.2.2 _ e).2.2.1 rfl); have c8 := (blk_cell bt8 3).trans (rfl : _ = some (Value.slice A T.ws.length c)); have z8 := blk_frozen bt8 3; clear hr8 hf8 bt8)
      all_goals
        clear hb0 hc3 hf3 hmf b8 c8 z8
        have hI0 : IsT wr.drew B t m (.slice A T.ws.length c) ⟨T.q, T.l.filter (fun q => !big off q), e1, T.ws⟩ := ⟨HC4.out.bt, HC4.out.rg.maps, H1.out.ht, H1.out.hm, HC4.out.ro⟩
        obtain ⟨hI, hfr⟩ := hI0.setRow HF8.out HR8.out
        have HI := Aside0.mk hI
        have HFR := Aside0.mk hfr
        clear hI0 hI hfr
        generalize w8.setCell ⟨t, 3, none⟩ (.slice A8 ys.length n8) = w9 at HI HFR ⊢
        go_wp2_with fail
        go_ret
        have hle := HC4.out.he.2
        refine ⟨rfl, ?_⟩
        exact ⟨_, e1, hle, by rw [HYS.out]; exact HI.out, ((Fr.of_below_all HB.out (TS t m (.slice A T.ws.length c))).then_ HC4.out.fr (fun k hk => Or.inl (hk.elim (fun h => Or.inl h) (fun h => Or.inr (Or.inl h))))).then_ ((Fr.refl _ wr).drew.then_ HFR.out (fun k hk => Or.inl hk)) (fun k hk => Or.inl hk)⟩
    · unfold keyV Bat.val at hrun hent
      simp only at hrun hent
      have hpT := (List.mem_filter.1 hp).1
      have hbd := HT.out _ hpT
      have hbm := HM.out.2 _ hpT
      unfold headOk at hbd
      simp only at hbd hbm
      have hms : wr.rangeLeft m r = cn := HC.out.rg.left_eq
      have HC4 := Aside0.mk (HC.out.next hfr2 hrg2)
      have HLT := Aside0.mk (show cnt2 < wr.rangeLeft m r from by rw [hms]; exact hlt)
      have HP := Aside0.mk hp
      have HPT := Aside0.mk hpT
      have HBD := Aside0.mk hbd
      have HBM := Aside0.mk hbm
      have hwr : IntKind.i64.wrap (z0 + z1) = z0 + z1 := IntWalk.i64_in _ (by omega)
      have HWS : Aside0 True := ⟨trivial⟩
      clear hp hpT hbd hbm hms hrg2 hlt hfr2 hseen
      go_upto_region 8 with (fail)
      have hb1 := below_alloc (Below.refl w4.heap.size w4) (.cells #[.int .i64 ka, .int .i64 kb] 30)
      have k1 := heap_alloc_new w4 (.cells #[.int .i64 ka, .int .i64 kb] 30)
      have hb2 := below_alloc (Below.refl (w4.alloc (.cells #[.int .i64 ka, .int .i64 kb] 30)).heap.size (w4.alloc (.cells #[.int .i64 ka, .int .i64 kb] 30))) (.cells #[.int .i64 z0, .int .i64 z1, .int .i64 z2, .int .i64 z3, .int .i64 z4, .slice none 0 0] 33)
      have HC5 := Aside0.mk ((HC4.out.below hb1).below hb2)
      have K1 := Aside0.mk ((hb2.block _ (blk_lt k1)).trans k1)
      obtain ⟨g, hg⟩ : ∃ g, w4.heap.size = g := ⟨_, rfl⟩
      rw [hg] at K1
      rw [hg]
      clear hb1 hb2 k1 hg HC4 HC hent hrun
      generalize (w4.alloc (.cells #[.int .i64 ka, .int .i64 kb] 30)).alloc (.cells #[.int .i64 z0, .int .i64 z1, .int .i64 z2, .int .i64 z3, .int .i64 z4, .slice none 0 0] 33) = w5 at HC5 K1 ⊢
      clear w4
      have b0 : w5.cell? ⟨bx, 0, none⟩ = some (.pointer (some ⟨t, 0, none⟩)) := (blk_cell HC5.out.bx 0).trans rfl
      by_cases hbig : off < z0 + z1
      · have hd1 : decide (off < z0 + z1) = true := by simpa using hbig
        have c1 : w5.cell? ⟨t, 1, none⟩ = some (.map (some m)) := (blk_cell HC5.out.bt 1).trans rfl
        have i0 : w5.cell? ⟨g, 0, none⟩ = some (.int .i64 ka) := (blk_cell K1.out 0).trans rfl
        have i1 : w5.cell? ⟨g, 1, none⟩ = some (.int .i64 kb) := (blk_cell K1.out 1).trans rfl
        obtain ⟨w6, cnt6, hdel, hrg6, hle6, hfr6⟩ := (HC5.out.rg.move (W' := w5.drew) rfl rfl).drop ka kb ⟨z0, z1, z2, z3, z4⟩ HP.out 0
        have HC6 := Aside0.mk ((HC5.out.below (w' := w5.drew) (below_drew (Below.refl _ _))).drop hfr6 hrg6)
        have HL6 := Aside0.mk hle6
        have HCB : Aside0 ((T.l.filter (fun q => !(seen q.1 && big off q))).filter (fun q => decide (q.1 ≠ (ka, kb))) = T.l.filter (fun q => !((seen q.1 || decide (q.1 = (ka, kb))) && big off q))) := ⟨cut_big HA.out HPT.out (by unfold big; exact hd1)⟩
        clear hrg6 hle6 hfr6 hbig
        go_wp2_with fail
        go_region
        all_goals
          go_roundw
          case rel => ((repeat apply Exists.intro); exact ⟨⟨e1, fun k => seen k || decide (k = (ka, kb)), _, ⟨HCB.out ▸ HC6.out⟩⟩, rfl⟩)
          case measure => exact Nat.lt_of_le_of_lt (by rw [HC6.out.rg.left_eq]; exact HL6.out) HLT.out
      · have hd1 : decide (off < z0 + z1) = false := by simpa using hbig
        have c2 : w5.cell? ⟨t, 2, none⟩ = some (.int .i64 e1) := (blk_cell HC5.out.bt 2).trans rfl
        have f2 : w5.frozen? ⟨t, 2, none⟩ = false := blk_frozen HC5.out.bt 2
        clear hbig
        go_wp2_with fail
        go_region
        all_goals
          have HC6 := Aside0.mk ((HC5.out.set (if e1 < z0 + z1 then z0 + z1 else e1) (by have := HC5.out.he; have := HBM.out; split <;> omega)).below (w' := (w5.setCell ⟨t, 2, none⟩ (.int .i64 (if e1 < z0 + z1 then z0 + z1 else e1))).drew) (below_drew (Below.refl _ _)))
          have HCB : Aside0 (T.l.filter (fun q => !(seen q.1 && big off q)) = T.l.filter (fun q => !((seen q.1 || decide (q.1 = (ka, kb))) && big off q))) := ⟨cut_small HA.out HPT.out (by unfold big; exact hd1)⟩
          go_roundw
          case rel => ((repeat apply Exists.intro); exact ⟨⟨_, fun k => seen k || decide (k = (ka, kb)), _, ⟨HCB.out ▸ HC6.out⟩⟩, rfl⟩)
          case measure => exact Nat.lt_of_le_of_lt (by rw [HC6.out.rg.left_eq]; exact Nat.le_refl _) HLT.out
end Go.Proofs.Ytllgaikgpfionaa.SM
