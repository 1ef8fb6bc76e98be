/- The closure of Cut; slices.DeleteFunc over waiters: walked. -/
import Derived.Test.YtllgaikgpfionaaHRng
import Derived.Test.YtllgaikgpfionaaHWait
namespace Go.Proofs.Ytllgaikgpfionaa.SM
open Go.RowKit Go.Proofs.YtllgaikgpfionaaW.PrintWords Go.Proofs.YtllgaikgpfionaaW.PrintLast Go.Proofs.YtllgaikgpfionaaW.PrintMore Go.Proofs.Ytllgaikgpfionaa.HW Go.Proofs.Ytllgaikgpfionaa.MB
attribute [local go_sem] max2_int min2_int max_two min_two max_three min_three max_four min_four   -- for this text's walks alone
/-- What the closure of Cut reads. -/
structure CL (W : World) (bx t m : Nat) (q e v : Value) (l : Ents) : Prop where
  bx : W.heap[bx]? = some (.cells #[.pointer (some ⟨t, 0, none⟩)] 24 (0, 0))
  bt : W.heap[t]? = some (.cells #[q, .map (some m), e, v] 57 (0, 0))
  bm : MapIs W m l
theorem CL.keep {S : Nat → Prop} {W W' : World} {bx t m : Nat} {q e v : Value} {l : Ents} (h : CL W bx t m q e v l) (hf : Fr S W W') (h1 : ¬ S bx) (h2 : ¬ S t) (h3 : ¬ S m) : CL W' bx t m q e v l :=
  ⟨hf.blk h.bx h1, hf.blk h.bt h2, h.bm.move (hf.block _ h.bm.lt h3)⟩
theorem CL.below {W W' : World} {bx t m : Nat} {q e v : Value} {l : Ents} (h : CL W bx t m q e v l) (hb : Below W.heap.size W W') : CL W' bx t m q e v l :=
  h.keep (Fr.of_below_all hb (fun _ => False)) (fun h => h) (fun h => h) (fun h => h)
def gone (l : Ents) (x : Wt) : Bool := !(look l (x.prod, x.seq)).isSome
set_option maxHeartbeats 2000000 in
theorem cclos_ok {W : World} {bx t m : Nat} {q e v : Value} {l : Ents} (h : CL W bx t m q e v l) (x : Wt) :
    Calls Try.prog 28 #[x.val, .pointer (some ⟨bx, 0, none⟩)] W fun e w' => e = .returned (.bool (gone l x)) ∧ Below W.heap.size W w' := by
  have hu := Try.underlying57
  have hu2 := Try.underlying62
  have hu3 := Try.underlying30
  have hu4 := Try.underlying33
  obtain ⟨x0, x1, x2⟩ := x
  unfold Wt.val
  simp only
  have H := Aside0.mk h
  clear h
  go_enter Try.func28, Try.ntmps28
  go_upto_region 1 with (fail)
  have hB := below_alloc (Below.refl W.heap.size W) (.cells #[.int .i64 x0, .int .i64 x1, .int .i64 x2] 62)
  have k0 := heap_alloc_new W (.cells #[.int .i64 x0, .int .i64 x1, .int .i64 x2] 62)
  have H2 := Aside0.mk (H.out.below hB)
  have HB := Aside0.mk hB
  obtain ⟨g, hg⟩ : ∃ g, W.heap.size = g := ⟨_, rfl⟩
  rw [hg] at k0
  rw [hg]
  have HG := Aside0.mk hg
  have K0 := Aside0.mk k0
  clear k0 hB hg H
  generalize W.alloc (.cells #[.int .i64 x0, .int .i64 x1, .int .i64 x2] 62) = w1 at H2 HB K0 ⊢
  have hba := below_alloc (Below.refl w1.heap.size w1) (.cells #[.int .i64 0, .int .i64 0, .int .i64 0, .int .i64 0, .int .i64 0, .slice none 0 0] 33)
  have b0 : w1.cell? ⟨bx, 0, none⟩ = some (.pointer (some ⟨t, 0, none⟩)) := (blk_cell H2.out.bx 0).trans rfl
  have c1 : w1.cell? ⟨t, 1, none⟩ = some (.map (some m)) := (blk_cell H2.out.bt 1).trans rfl
  have i0 : w1.cell? ⟨g, 0, none⟩ = some (.int .i64 x0) := (blk_cell K0.out 0).trans rfl
  have i1 : w1.cell? ⟨g, 1, none⟩ = some (.int .i64 x1) := (blk_cell K0.out 1).trans rfl
  have b0a : (w1.alloc (.cells #[.int .i64 0, .int .i64 0, .int .i64 0, .int .i64 0, .int .i64 0, .slice none 0 0] 33)).cell? ⟨bx, 0, none⟩ = some (.pointer (some ⟨t, 0, none⟩)) := (blk_cell ((hba.block _ (blk_lt H2.out.bx)).trans H2.out.bx) 0).trans rfl
  have c1a : (w1.alloc (.cells #[.int .i64 0, .int .i64 0, .int .i64 0, .int .i64 0, .int .i64 0, .slice none 0 0] 33)).cell? ⟨t, 1, none⟩ = some (.map (some m)) := (blk_cell ((hba.block _ (blk_lt H2.out.bt)).trans H2.out.bt) 1).trans rfl
  have i0a : (w1.alloc (.cells #[.int .i64 0, .int .i64 0, .int .i64 0, .int .i64 0, .int .i64 0, .slice none 0 0] 33)).cell? ⟨g, 0, none⟩ = some (.int .i64 x0) := (blk_cell ((hba.block _ (blk_lt K0.out)).trans K0.out) 0).trans rfl
  have i1a : (w1.alloc (.cells #[.int .i64 0, .int .i64 0, .int .i64 0, .int .i64 0, .int .i64 0, .slice none 0 0] 33)).cell? ⟨g, 1, none⟩ = some (.int .i64 x1) := (blk_cell ((hba.block _ (blk_lt K0.out)).trans K0.out) 1).trans rfl
  have hM := H2.out.bm
  have l0 := run_lookup_pr (hM.move (W' := w1.drew) rfl) x0 x1
  have hM2 : MapIs (w1.alloc (.cells #[.int .i64 0, .int .i64 0, .int .i64 0, .int .i64 0, .int .i64 0, .slice none 0 0] 33)) m l := hM.move (hba.block _ hM.lt)
  have l1 := run_lookup_pr (hM2.move (W' := (w1.alloc (.cells #[.int .i64 0, .int .i64 0, .int .i64 0, .int .i64 0, .int .i64 0, .slice none 0 0] 33)).drew) rfl) x0 x1
  obtain ⟨⟨y0, y1, y2, y3, y4⟩, hy⟩ : ∃ z : Bat, (look l (x0, x1)).getD Bat.zero = z := ⟨_, rfl⟩
  obtain ⟨d, hd⟩ : ∃ d, (look l (x0, x1)).isSome = d := ⟨_, rfl⟩
  rw [hy, hd] at l0 l1
  unfold Bat.val at l0 l1
  simp only at l0 l1
  have HD := Aside0.mk (show gone l ⟨x0, x1, x2⟩ = !d from by unfold gone; rw [hd])
  clear hM hM2 hba hy hd
  go_region
  all_goals
    have hb := below_alloc (Below.refl w1.heap.size w1) (.cells #[.int .i64 y0, .int .i64 y1, .int .i64 y2, .int .i64 y3, .int .i64 y4, .slice none 0 0] 33)
    replace HB := Aside0.mk (below_drew (HB.out.trans (hb.mono HB.out.size)))
    clear hb l0 l1 b0 b0a c1 i0 i1 c1a i0a i1a H2 K0
    generalize (w1.alloc (.cells #[.int .i64 y0, .int .i64 y1, .int .i64 y2, .int .i64 y3, .int .i64 y4, .slice none 0 0] 33)).drew = w3 at HB ⊢
    go_wp2_with fail
    go_ret
    exact ⟨by rw [HD.out]; rfl, HB.out⟩
/-- Where the first one stands that is gone. -/
def gindex (l : Ents) : List Wt → Nat → Int
  | [], _ => -1
  | x :: t, i => if gone l x = true then i else gindex l t (i + 1)
set_option maxHeartbeats 2000000 in
theorem gindex_ok {W : World} {bx t m : Nat} {q e v : Value} {l : Ents} (hc : CL W bx t m q e v l) {A : Option Addr} {c : Nat} (ws : List Wt) (hl : Kd.C kWt W A ws.length ws) (hn : ws.length ≤ 1000000) :
    Calls Try.prog 30 #[.slice A ws.length c, .func (.func 28) #[] #[.pointer (some ⟨bx, 0, none⟩)]] W fun e w' => e = .returned (.int .i64 (gindex l ws 0)) ∧ Below W.heap.size W w' := by
  have hu := Try.underlying55
  have hu2 := Try.underlying62
  have HP := Aside0.mk hc
  have HL := Aside0.mk hl
  have HN := Aside0.mk hn
  clear hc hl
  go_enter Try.func30, Try.ntmps30
  go_wp2_with fail
  go_loopw [8] (fun v8 wr => ∃ i : Nat, v8 = .int .i64 i ∧ i ≤ ws.length ∧ Aside0 (Below W.heap.size W wr) ∧ Aside0 (gindex l ws 0 = gindex l (ws.drop i) i)) (fun v8 _ => ws.length - (intOf v8).toNat)
  case atStart => exact ⟨0, rfl, Nat.zero_le _, ⟨Below.refl _ _⟩, ⟨rfl⟩⟩
  case round =>
    obtain ⟨i, rfl, hi, HB, HJ⟩ := hrel
    by_cases hlt : i < ws.length
    · have hb1 : decide ((i : Int) < (ws.length : Int)) = true := by simp; omega
      obtain ⟨ad, hA, h0, h1, h2⟩ := atWt (Kd.C_below HL.out HB.out) (i : Int) (by omega) (by omega)
      subst hA
      simp only [Int.toNat_natCast] at h0 h1 h2
      have q1 : (0 : Int) ≤ (i : Int) := by omega
      have q2 : (i : Int) < (ws.length : Int) := by omega
      have hd : gindex l (ws.drop i) i = if gone l (rdWt ws i) = true then (i : Int) else gindex l (ws.drop (i + 1)) (i + 1) := by
        rw [List.drop_eq_getElem_cons hlt, gindex]
        have : rdWt ws (i : Int) = ws[i] := by unfold rdWt; rw [Int.toNat_natCast, List.getD_eq_getElem?_getD, List.getElem?_eq_getElem hlt]; rfl
        rw [this]
      have HC := Aside0.mk (cclos_ok (HP.out.below HB.out) (rdWt ws i))
      obtain ⟨⟨x0, x1, x2⟩, hx⟩ : ∃ z : Wt, rdWt ws (i : Int) = z := ⟨_, rfl⟩
      rw [hx] at h0 h1 h2 hd HC
      unfold Wt.val at HC
      simp only at h0 h1 h2 HC
      have HD := Aside0.mk hd
      have HI := Aside0.mk hlt
      clear hd hx
      go_wp2_with fail
      refine HC.out.mono ?_
      rintro e w2 ⟨rfl, hb⟩
      have HB2 := Aside0.mk (HB.out.trans (hb.mono HB.out.size))
      have hd2 := HD.out
      clear hb h0 h1 h2 HB HD HC
      by_cases hs : gone l ⟨x0, x1, x2⟩ = true
      · rw [hs] at hd2 ⊢
        rw [if_pos rfl] at hd2
        go_wp2_with fail
        go_ret
        exact ⟨by rw [HJ.out, hd2]; rfl, HB2.out⟩
      · have hs2 := Bool.eq_false_iff.2 hs
        rw [hs2] at hd2 ⊢
        rw [if_neg (by decide)] at hd2
        have HJ2 := Aside0.mk (HJ.out.trans hd2)
        clear hs hs2 hd2
        go_wp2_with fail
        go_roundw
        case rel => exact ⟨i + 1, by simp, HI.out, HB2, HJ2⟩
        case measure => simp [intOf]; have := HI.out; omega
    · have hie : i = ws.length := by omega
      subst hie
      have hb1 : decide ((ws.length : Int) < (ws.length : Int)) = false := by simp
      clear hlt
      go_wp2_with fail
      go_ret
      have := HJ.out
      rw [List.drop_length] at this
      exact ⟨by rw [this]; rfl, HB.out⟩
theorem gindex_none {l : Ents} : ∀ (ws : List Wt) (i : Nat), gindex l ws i = -1 → ws.filter (fun x => !gone l x) = ws
  | [], _, _ => rfl
  | x :: t, i, h => by
    unfold gindex at h
    by_cases hg : gone l x = true
    · rw [if_pos hg] at h; omega
    · rw [if_neg hg] at h
      rw [List.filter_cons_of_pos (by simpa using hg), gindex_none t (i + 1) h]
theorem gindex_some {l : Ents} : ∀ (ws : List Wt) (i : Nat), gindex l ws i ≠ -1 → ∃ j : Nat, gindex l ws i = (i + j : Nat) ∧ j < ws.length ∧ (ws.take (j + 1)).filter (fun x => !gone l x) = ws.take j
  | [], i, h => absurd rfl h
  | x :: t, i, h => by
    unfold gindex at h ⊢
    by_cases hg : gone l x = true
    · rw [if_pos hg]
      exact ⟨0, rfl, by simp, by simp [hg]⟩
    · rw [if_neg hg] at h ⊢
      obtain ⟨j, h1, h2, h3⟩ := gindex_some t (i + 1) h
      refine ⟨j + 1, by rw [h1]; congr 1; omega, by simpa using h2, ?_⟩
      rw [List.take_succ_cons, List.filter_cons_of_pos (by simpa using hg), h3, List.take_succ_cons]
end Go.Proofs.Ytllgaikgpfionaa.SM
