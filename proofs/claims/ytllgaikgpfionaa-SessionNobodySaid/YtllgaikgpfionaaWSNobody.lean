/- SessionNobody: walked. -/
import Derived.Test.YtllgaikgpfionaaHAsk
import Derived.Test.YtllgaikgpfionaaHSAwk
import Derived.Test.YtllgaikgpfionaaHShSes
namespace Go.Proofs.Ytllgaikgpfionaa.SM
open Go.RowKit Go.Proofs.YtllgaikgpfionaaW.PrintWords Go.Proofs.YtllgaikgpfionaaW.PrintLast Go.Proofs.YtllgaikgpfionaaW.PrintMore Go.Proofs.Ytllgaikgpfionaa.HW Go.Proofs.Ytllgaikgpfionaa.MB Go.Proofs.Ytllgaikgpfionaa.Fn
attribute [local go_sem] max2_int min2_int max_two min_two max_three min_three max_four min_four   -- for this text's walks alone
theorem same_zero (W : World) : Calls Try.prog 11 #[Bat.zero.val, Bat.zero.val] W fun e w' => e = .returned (.bool true) ∧ Below W.heap.size W w' :=
  postroadlaw15_same.calls 0 0 0 0 0 none 0 [] 0 0 0 0 0 none 0 [] true W (Kd.C_nil _ _) (Nat.le_refl _) (Kd.C_nil _ _) (Nat.le_refl _) (by simp [postroadlaw15_same.f, postroadref10_SameHead.f]; exact wrap64_id 0 (by omega) (by omega))
def zB : Array Value := #[.int .i64 0, .int .i64 0, .int .i64 0, .int .i64 0, .int .i64 0, .slice none 0 0]
structure NS (w1 w : World) (gI g8 g10 : Nat) (a b : Int) (p : Option Addr) : Prop where
  be : Below w1.heap.size w1 w
  id : w.heap[gI]? = some (.cells #[.int .i64 a, .int .i64 b] 30 (0, 0))
  b8 : w.heap[g8]? = some (.cells zB 33 (0, 0))
  b10 : w.heap[g10]? = some (.cells zB 33 (0, 0))
  ng : NG w p
theorem NS.below {w1 w w' : World} {gI g8 g10 : Nat} {a b : Int} {p : Option Addr} (h : NS w1 w gI g8 g10 a b p) (hb : Below w.heap.size w w') : NS w1 w' gI g8 g10 a b p :=
  ⟨h.be.trans (hb.mono h.be.size), (hb.block _ (blk_lt h.id)).trans h.id, (hb.block _ (blk_lt h.b8)).trans h.b8, (hb.block _ (blk_lt h.b10)).trans h.b10, h.ng.below hb⟩
theorem zb_cell {w : World} {g : Nat} (h : w.heap[g]? = some (.cells zB 33 (0, 0))) : w.cell? ⟨g, 0, none⟩ = some (.int .i64 0) ∧ w.cell? ⟨g, 1, none⟩ = some (.int .i64 0) ∧ w.cell? ⟨g, 2, none⟩ = some (.int .i64 0) ∧ w.cell? ⟨g, 3, none⟩ = some (.int .i64 0) ∧ w.cell? ⟨g, 4, none⟩ = some (.int .i64 0) ∧ w.cell? ⟨g, 5, none⟩ = some (.slice none 0 0) :=
  ⟨(blk_cell h 0).trans rfl, (blk_cell h 1).trans rfl, (blk_cell h 2).trans rfl, (blk_cell h 3).trans rfl, (blk_cell h 4).trans rfl, (blk_cell h 5).trans rfl⟩
structure NW (W w1 wr : World) (gI gT gL : Nat) (a b : Int) : Prop where
  be : Below w1.heap.size w1 wr
  id : w1.heap[gI]? = some (.cells #[.int .i64 a, .int .i64 b] 30 (0, 0))
  tb : w1.heap[gT]? = some (.cells #[.int .i64 0, .map none, .int .i64 0, .slice none 0 0] 57 (0, 0))
  ro : w1.heap[gL]? = some (.cells #[.pointer none, .pointer (some ⟨gT, 0, none⟩)] 24 (0, 0))
set_option maxRecDepth 100000 in
set_option maxHeartbeats 8000000 in
theorem snobody_walk (n : Int) (wn : (Lit.int .i64 n).wf = true) (x : Int × Int) (cs : Array Value) (W : World) (hK : HR.shId.d.K W x cs.toList) (hok : HR.shId.ok x) : Calls Try.prog 7 #[.int .i64 n, .agg cs] W fun e w' => e = .returned (.bool true) ∧ Below W.heap.size W w' := by
  have hu3 := Try.underlying30
  have hu4 := Try.underlying33
  obtain ⟨a, b⟩ := x
  have hcs : cs = #[.int .i64 a, .int .i64 b] := Array.toList_inj.1 (HR.id_open hK)
  subst hcs
  clear hK hok wn
  go_enter Try.func7, Try.ntmps7
  go_wp2_with fail
  have e1 : (W.alloc (.cells #[.int .i64 a, .int .i64 b] 30)).heap.size = W.heap.size + 1 := Array.size_push _
  have e2 : ((W.alloc (.cells #[.int .i64 a, .int .i64 b] 30)).alloc (.cells #[.int .i64 0, .map none, .int .i64 0, .slice none 0 0] 57)).heap.size = W.heap.size + 1 + 1 := (Array.size_push _).trans (by rw [e1])
  have hNW : NW W (((W.alloc (.cells #[.int .i64 a, .int .i64 b] 30)).alloc (.cells #[.int .i64 0, .map none, .int .i64 0, .slice none 0 0] 57)).alloc (.cells #[.pointer none, .pointer (some ⟨W.heap.size + 1, 0, none⟩)] 24)) (((W.alloc (.cells #[.int .i64 a, .int .i64 b] 30)).alloc (.cells #[.int .i64 0, .map none, .int .i64 0, .slice none 0 0] 57)).alloc (.cells #[.pointer none, .pointer (some ⟨W.heap.size + 1, 0, none⟩)] 24)) W.heap.size (W.heap.size + 1) (W.heap.size + 1 + 1) a b := by
    refine ⟨Below.refl _ _, ?_, ?_, ?_⟩
    · have k0 := heap_alloc_new W (.cells #[.int .i64 a, .int .i64 b] 30)
      exact ((below_alloc (below_alloc (Below.refl _ _) _) _).block _ (blk_lt k0)).trans k0
    · have k0 := heap_alloc_new (W.alloc (.cells #[.int .i64 a, .int .i64 b] 30)) (.cells #[.int .i64 0, .map none, .int .i64 0, .slice none 0 0] 57)
      rw [e1] at k0
      exact ((below_alloc (Below.refl _ _) _).block _ (blk_lt k0)).trans k0
    · have k0 := heap_alloc_new ((W.alloc (.cells #[.int .i64 a, .int .i64 b] 30)).alloc (.cells #[.int .i64 0, .map none, .int .i64 0, .slice none 0 0] 57)) (.cells #[.pointer none, .pointer (some ⟨W.heap.size + 1, 0, none⟩)] 24)
      rw [e2] at k0
      exact k0
  have HB1 := Aside0.mk (below_alloc (below_alloc (below_alloc (Below.refl W.heap.size W) (.cells #[.int .i64 a, .int .i64 b] 30)) (.cells #[.int .i64 0, .map none, .int .i64 0, .slice none 0 0] 57)) (.cells #[.pointer none, .pointer (some ⟨W.heap.size + 1, 0, none⟩)] 24))
  clear e1 e2
  obtain ⟨g, hg⟩ : ∃ g, W.heap.size = g := ⟨_, rfl⟩
  rw [hg] at hNW HB1
  rw [hg]
  generalize (((W.alloc (.cells #[.int .i64 a, .int .i64 b] 30)).alloc (.cells #[.int .i64 0, .map none, .int .i64 0, .slice none 0 0] 57)).alloc (.cells #[.pointer none, .pointer (some ⟨g + 1, 0, none⟩)] 24)) = w1 at hNW HB1 ⊢
  obtain ⟨ad, had⟩ : ∃ ad : Addr, (⟨g + 1 + 1, 0, none⟩ : Addr) = ad := ⟨_, rfl⟩
  rw [had]
  have HNW := Aside0.mk hNW
  have HAD := Aside0.mk had
  have HGG := Aside0.mk hg
  clear hNW had hg
  go_loopw [6] (fun v6 wr => ∃ i : Nat, v6 = .int .i64 i ∧ i ≤ 2 ∧ Aside0 (NW W w1 wr g (g + 1) (g + 1 + 1) a b)) (fun v6 _ => 2 - (intOf v6).toNat)
  case atStart => exact ⟨0, rfl, by omega, HNW⟩
  case round =>
    have HNW0 := HNW
    clear HNW
    obtain ⟨i, rfl, hi, HN⟩ := hrel
    by_cases hlt : i < 2
    · have hb1 : decide ((i : Int) < 2) = true := by simp; omega
      obtain ⟨p, hp, hng⟩ : ∃ p, wr.cell? (ad.add i) = some (.pointer p) ∧ NG wr p := by
        have hro := (HN.out.be.block _ (blk_lt HN.out.ro)).trans HN.out.ro
        have htb := (HN.out.be.block _ (blk_lt HN.out.tb)).trans HN.out.tb
        rcases (show i = 0 ∨ i = 1 by omega) with rfl | rfl
        · refine ⟨none, ?_, Or.inl rfl⟩
          rw [← HAD.out]
          exact (blk_cell hro 0).trans rfl
        · refine ⟨some ⟨g + 1, 0, none⟩, ?_, Or.inr ⟨_, rfl, htb⟩⟩
          rw [← HAD.out]
          exact (blk_cell hro 1).trans rfl
      have q1 : (0 : Int) ≤ (i : Int) := by omega
      have q2 : (i : Int) < 2 := by omega
      have hi2 : i ≤ 2 := by omega
      have HI := Aside0.mk hlt
      have HG := Aside0.mk hng
      have hid := (HN.out.be.block _ (blk_lt HN.out.id)).trans HN.out.id
      have i0 : wr.cell? ⟨g, 0, none⟩ = some (.int .i64 a) := (blk_cell hid 0).trans rfl
      have i1 : wr.cell? ⟨g, 1, none⟩ = some (.int .i64 b) := (blk_cell hid 1).trans rfl
      have HID := Aside0.mk hid
      clear hlt hng hid
      go_wp2_with fail
      refine (find_no HG.out a b).mono ?_
      rintro e w2 ⟨rfl, hb⟩
      unfold Bat.val Bat.zero
      simp only
      have hbe := HN.out.be.trans (hb.mono HN.out.be.size)
      have hid := (hb.block _ (blk_lt HID.out)).trans HID.out
      have hng := HG.out.below hb
      clear hb i0 i1 hp HN HID HG
      go_upto_region 7 with (fail)
      have hb := below_alloc (Below.refl w2.heap.size w2) (.cells zB 33)
      have k8 := heap_alloc_new w2 (.cells zB 33)
      replace hbe := hbe.trans (hb.mono hbe.size)
      replace hid := (hb.block _ (blk_lt hid)).trans hid
      replace hng := hng.below hb
      unfold zB at k8 hbe hid hng hb
      obtain ⟨g8, hg8⟩ : ∃ g8, w2.heap.size = g8 := ⟨_, rfl⟩
      rw [hg8] at k8
      rw [hg8]
      clear hb
      generalize w2.alloc (.cells #[.int .i64 0, .int .i64 0, .int .i64 0, .int .i64 0, .int .i64 0, .slice none 0 0] 33) = w3 at k8 hbe hid hng ⊢
      clear hg8
      have i0 : w3.cell? ⟨g, 0, none⟩ = some (.int .i64 a) := (blk_cell hid 0).trans rfl
      have i1 : w3.cell? ⟨g, 1, none⟩ = some (.int .i64 b) := (blk_cell hid 1).trans rfl
      have HBE := Aside0.mk hbe
      have HID := Aside0.mk hid
      have HG := Aside0.mk hng
      have K8 := Aside0.mk k8
      clear hbe hid hng k8 w2
      go_wp2_with fail
      refine (ask_no HG.out a b n).mono ?_
      rintro e w4 ⟨rfl, hb⟩
      unfold Bat.val Bat.zero
      simp only
      have hbe := HBE.out.trans (hb.mono HBE.out.size)
      have hid := (hb.block _ (blk_lt HID.out)).trans HID.out
      have hk8 := (hb.block _ (blk_lt K8.out)).trans K8.out
      have hng := HG.out.below hb
      clear hb i0 i1 HBE HID HG K8
      go_upto_region 8 with (fail)
      have hb := below_alloc (Below.refl w4.heap.size w4) (.cells #[.int .i64 0, .int .i64 0, .int .i64 0, .int .i64 0, .int .i64 0, .slice none 0 0] 33)
      have k10 := heap_alloc_new w4 (.cells #[.int .i64 0, .int .i64 0, .int .i64 0, .int .i64 0, .int .i64 0, .slice none 0 0] 33)
      obtain ⟨g10, hg10⟩ : ∃ g10, w4.heap.size = g10 := ⟨_, rfl⟩
      rw [hg10] at k10
      rw [hg10]
      have hS : NS w1 (w4.alloc (.cells #[.int .i64 0, .int .i64 0, .int .i64 0, .int .i64 0, .int .i64 0, .slice none 0 0] 33)) g g8 g10 a b p := ⟨hbe.trans (hb.mono hbe.size), (hb.block _ (blk_lt hid)).trans hid, (hb.block _ (blk_lt hk8)).trans hk8, k10, hng.below hb⟩
      clear hb k10 hg10 hbe hid hk8 hng
      generalize w4.alloc (.cells #[.int .i64 0, .int .i64 0, .int .i64 0, .int .i64 0, .int .i64 0, .slice none 0 0] 33) = w5 at hS ⊢
      clear w4
      have HS := Aside0.mk hS
      clear hS
      go_wp2_with fail
      refine (put_no HS.out.ng 0 1 0 0 0).mono ?_
      rintro e w6 ⟨rfl, hb⟩
      replace HS := Aside0.mk (HS.out.below hb)
      clear hb w5
      obtain ⟨d0, d1, d2, d3, d4, d5⟩ := zb_cell HS.out.b8
      go_wp2_with fail
      refine (same_zero w6).mono ?_
      rintro e w7 ⟨rfl, hb⟩
      clear d0 d1 d2 d3 d4 d5
      replace HS := Aside0.mk (HS.out.below hb)
      clear hb w6
      obtain ⟨d0, d1, d2, d3, d4, d5⟩ := zb_cell HS.out.b10
      go_wp2_with fail
      refine (same_zero w7).mono ?_
      rintro e w8 ⟨rfl, hb⟩
      clear d0 d1 d2 d3 d4 d5
      replace HS := Aside0.mk (HS.out.below hb)
      clear hb w7
      have i0 : w8.cell? ⟨g, 0, none⟩ = some (.int .i64 a) := (blk_cell HS.out.id 0).trans rfl
      have i1 : w8.cell? ⟨g, 1, none⟩ = some (.int .i64 b) := (blk_cell HS.out.id 1).trans rfl
      go_wp2_with fail
      refine (wait_no HS.out.ng a b n).mono ?_
      rintro e w9 ⟨rfl, hb⟩
      clear i0 i1
      replace HS := Aside0.mk (HS.out.below hb)
      clear hb w8
      go_wp2_with fail
      refine (done_no HS.out.ng n).mono ?_
      rintro e wA ⟨rfl, rfl⟩
      go_wp2_with fail
      refine (cut_no HS.out.ng n).mono ?_
      rintro e wB ⟨rfl, hb⟩
      replace HS := Aside0.mk (HS.out.below hb)
      clear hb w9
      go_wp2_with fail
      refine (waiting_no HS.out.ng).mono ?_
      rintro e wC ⟨rfl, rfl⟩
      go_wp2_with fail
      go_roundw
      case rel => exact ⟨i + 1, by simp, HI.out, ⟨⟨HS.out.be, HNW0.out.id, HNW0.out.tb, HNW0.out.ro⟩⟩⟩
      case measure => simp [intOf]; have := HI.out; omega
    · have hie : i = 2 := by omega
      subst hie
      have hb1 : decide ((2 : Int) < 2) = false := by decide
      clear hlt
      go_wp2_with fail
      refine (awake_ok wr).mono ?_
      rintro e w9 ⟨rfl, hb⟩
      have HBE := Aside0.mk (HB1.out.trans ((HN.out.be.trans (hb.mono HN.out.be.size)).mono (by have := HB1.out.size; have := HGG.out; omega)))
      clear hb
      go_wp2_with fail
      go_ret
      exact ⟨rfl, by rw [HGG.out]; exact HBE.out⟩
end Go.Proofs.Ytllgaikgpfionaa.SM
