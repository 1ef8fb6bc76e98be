/- session.Ask: walked (of a new batch; of a table that nobody made). -/
import Derived.Test.YtllgaikgpfionaaHNot
import Derived.Test.YtllgaikgpfionaaFL
import Derived.Test.YtllgaikgpfionaaHSes
namespace Go.Proofs.Ytllgaikgpfionaa.SM
open Go.RowKit Go.Proofs.YtllgaikgpfionaaW.PrintWords Go.Proofs.YtllgaikgpfionaaW.PrintLast Go.Proofs.YtllgaikgpfionaaW.PrintMore Go.Proofs.Ytllgaikgpfionaa.HW Go.Proofs.Ytllgaikgpfionaa.MB Go.Proofs.Ytllgaikgpfionaa.Fn
attribute [local go_sem] max2_int min2_int max_two min_two max_three min_three max_four min_four   -- for this text's walks alone
set_option maxHeartbeats 2000000 in
theorem ask_no {W : World} {p : Option Addr} (h : NG W p) (a b n : Int) : Calls Try.prog 16 #[.pointer p, .agg #[.int .i64 a, .int .i64 b], .slice none 0 0, .int .i64 n] W fun e w' => e = .returned (.tuple #[Bat.zero.val, .int .i64 0, .int .i64 1]) ∧ Below W.heap.size W w' := by
  have hu4 := Try.underlying33
  have hb := below_alloc (below_alloc (Below.refl W.heap.size W) (.cells #[.int .i64 a, .int .i64 b] 30)) (.cells #[.int .i64 0, .int .i64 0, .int .i64 0, .int .i64 0, .int .i64 0, .slice none 0 0] 33)
  have k1 := heap_alloc_new (W.alloc (.cells #[.int .i64 a, .int .i64 b] 30)) (.cells #[.int .i64 0, .int .i64 0, .int .i64 0, .int .i64 0, .int .i64 0, .slice none 0 0] 33)
  have e1 : (W.alloc (.cells #[.int .i64 a, .int .i64 b] 30)).heap.size = W.heap.size + 1 := Array.size_push _
  rw [e1] at k1
  have H := Aside0.mk (given_no (h.below hb))
  have HB := Aside0.mk hb
  have K := Aside0.mk k1
  clear h hb k1 e1
  go_enter Try.func16, Try.ntmps16
  go_wp2_with fail
  refine H.out.mono ?_
  rintro e w2 ⟨rfl, rfl⟩
  obtain ⟨g, hg⟩ : ∃ g, W.heap.size = g := ⟨_, rfl⟩
  have HG := Aside0.mk hg
  rw [hg] at K
  rw [hg]
  generalize (W.alloc (.cells #[.int .i64 a, .int .i64 b] 30)).alloc (.cells #[.int .i64 0, .int .i64 0, .int .i64 0, .int .i64 0, .int .i64 0, .slice none 0 0] 33) = w1 at HB K ⊢
  clear H hg
  go_wp2_with ((with_reducible refine gate_store (t := 33) (p := 8) (v := .tmp 34) rfl ?_); refine store_all rfl rfl rfl (g + 1) #[.int .i64 0, .int .i64 0, .int .i64 0, .int .i64 0, .int .i64 0, .slice none 0 0] #[.int .i64 0, .int .i64 0, .int .i64 0, .int .i64 0, .int .i64 0, .slice none 0 0] 33 (by rfl) (by rfl) K.out rfl (by kernel_rfl) zcells_one ?_; intro w9 hr1 hf6; have HR1 := Aside0.mk hr1; have HF6 := Aside0.mk hf6; clear hr1 hf6)
  refine bodyPost_ret (results_ctt rfl _ _ (g + 1) 33 #[.int .i64 0, .int .i64 0, .int .i64 0, .int .i64 0, .int .i64 0, .slice none 0 0] (0, 0) _ rfl HR1.out Try.underlying33 rfl (by kernel_rfl)) rfl ?_
  exact ⟨rfl, HB.out.trans (HF6.out.below (by have := HB.out.size; omega) (fun k hk => by have := HG.out; omega))⟩
theorem inA_ok (n : Int) (W : World) : Calls Try.prog 24 #[.int .i64 n] W fun e w' => e = .returned (.bool (decide (0 ≤ n) && decide (n ≤ 2147483647))) ∧ W = w' := by
  go_enter Try.func24, Try.ntmps24
  by_cases h : 0 ≤ n
  · have b1 : decide (0 ≤ n) = true := by simpa using h
    rw [b1]
    go_wp2_with fail
    go_ret
    exact ⟨rfl, rfl⟩
  · have b1 : decide (0 ≤ n) = false := by simpa using h
    rw [b1]
    go_wp2_with fail
    go_ret
    exact ⟨rfl, rfl⟩
set_option maxHeartbeats 4000000 in
theorem ask_new {W : World} {B t m : Nat} {v : Value} {T : Tb} (h : IsT W B t m v T) (hq : 0 < T.q) (hw : (T.ws.length : Int) < T.q) (hl : look T.l (0, 0) = none)
    (A : Option Addr) (c : Nat) (l : List S48) (hr : Kd.C k48 W A l.length l) (hc : l.length ≤ c) (k : Nat) (r : Bool) (hf : session_large.f k l = some r) :
    Calls Try.prog 16 #[.pointer (some ⟨t, 0, none⟩), .agg #[.int .i64 0, .int .i64 0], .slice A l.length c, .int .i64 0] W fun e w' => e = .returned (.tuple #[Bat.zero.val, .int .i64 (if r = true then 0 else 3), .int .i64 (if r = true then 152 else 0)]) ∧ Below W.heap.size W w' := by
  have hu := Try.underlying57
  have hu3 := Try.underlying30
  have hu4 := Try.underlying33
  obtain ⟨A0, c0, rfl⟩ := h.slice
  have e1 : (W.alloc (.cells #[.int .i64 0, .int .i64 0] 30)).heap.size = W.heap.size + 1 := Array.size_push _
  have k0 := heap_alloc_new W (.cells #[.int .i64 0, .int .i64 0] 30)
  have hb1 := below_alloc (Below.refl (W.alloc (.cells #[.int .i64 0, .int .i64 0] 30)).heap.size (W.alloc (.cells #[.int .i64 0, .int .i64 0] 30))) (.cells #[.int .i64 0, .int .i64 0, .int .i64 0, .int .i64 0, .int .i64 0, .slice none 0 0] 33)
  have k0' := (hb1.block _ (blk_lt k0)).trans k0
  have k1 := heap_alloc_new (W.alloc (.cells #[.int .i64 0, .int .i64 0] 30)) (.cells #[.int .i64 0, .int .i64 0, .int .i64 0, .int .i64 0, .int .i64 0, .slice none 0 0] 33)
  rw [e1] at k1
  have hb := below_alloc (below_alloc (Below.refl W.heap.size W) (.cells #[.int .i64 0, .int .i64 0] 30)) (.cells #[.int .i64 0, .int .i64 0, .int .i64 0, .int .i64 0, .int .i64 0, .slice none 0 0] 33)
  have H2 := Aside0.mk (h.below hb)
  have HB := Aside0.mk hb
  have HR := Aside0.mk (Kd.C_below hr hb)
  have HF := Aside0.mk hf
  have HC := Aside0.mk hc
  have HG := Aside0.mk (given_ok (h.below hb) hq)
  have K1 := Aside0.mk k1
  have K0 := Aside0.mk k0'
  have HL := Aside0.mk hl
  have HQ := Aside0.mk hw
  clear h hb hr hf hc hl hq hw e1 k0 hb1 k0' k1
  go_enter Try.func16, Try.ntmps16
  go_wp2_with fail
  refine HG.out.mono ?_
  rintro e w2 ⟨rfl, rfl⟩
  clear HG
  go_wp2_with fail
  refine (inA_ok 0 _).mono ?_
  rintro e w2 ⟨rfl, rfl⟩
  go_wp2_with fail
  refine (inA_ok 0 _).mono ?_
  rintro e w2 ⟨rfl, rfl⟩
  have c1 : ((W.alloc (.cells #[.int .i64 0, .int .i64 0] 30)).alloc (.cells #[.int .i64 0, .int .i64 0, .int .i64 0, .int .i64 0, .int .i64 0, .slice none 0 0] 33)).cell? ⟨t, 1, none⟩ = some (.map (some m)) := (blk_cell H2.out.bt 1).trans rfl
  have l0 := run_lookup_pr (H2.out.bm.move (W' := ((W.alloc (.cells #[.int .i64 0, .int .i64 0] 30)).alloc (.cells #[.int .i64 0, .int .i64 0, .int .i64 0, .int .i64 0, .int .i64 0, .slice none 0 0] 33)).drew) rfl) 0 0
  rw [HL.out] at l0
  replace l0 : (Instr.lookup 54 (.map (some m)) (.agg #[.int .i64 0, .int .i64 0]) true).run Try.prog ((W.alloc (.cells #[.int .i64 0, .int .i64 0] 30)).alloc (.cells #[.int .i64 0, .int .i64 0, .int .i64 0, .int .i64 0, .int .i64 0, .slice none 0 0] 33)).drew = .ok (.tuple #[.agg #[.int .i64 0, .int .i64 0, .int .i64 0, .int .i64 0, .int .i64 0, .slice none 0 0], .bool false]) ((W.alloc (.cells #[.int .i64 0, .int .i64 0] 30)).alloc (.cells #[.int .i64 0, .int .i64 0, .int .i64 0, .int .i64 0, .int .i64 0, .slice none 0 0] 33)).drew := l0
  go_upto_region 4 with (fail)
  go_region
  clear c1 l0
  have K2 := Aside0.mk (show ((W.alloc (.cells #[.int .i64 0, .int .i64 0] 30)).alloc (.cells #[.int .i64 0, .int .i64 0, .int .i64 0, .int .i64 0, .int .i64 0, .slice none 0 0] 33)).drew.heap[W.heap.size + 1]? = _ from K1.out)
  have H3 := Aside0.mk H2.out.drew
  have HB1 := Aside0.mk (below_drew HB.out)
  have HR1 := Aside0.mk (Kd.C_drew HR.out)
  generalize ((W.alloc (.cells #[.int .i64 0, .int .i64 0] 30)).alloc (.cells #[.int .i64 0, .int .i64 0, .int .i64 0, .int .i64 0, .int .i64 0, .slice none 0 0] 33)).drew = w2 at K2 H3 HB1 HR1 ⊢
  clear K0 K1 H2 HB HR
  obtain ⟨g, hg⟩ : ∃ g, W.heap.size = g := ⟨_, rfl⟩
  have HG := Aside0.mk hg
  rw [hg] at K2
  rw [hg]
  clear hg
  go_wp2_with fail
  refine (session_large.calls k A c l r w2 HR1.out HC.out HF.out).mono ?_
  rintro e w3 ⟨rfl, hb⟩
  have HB2 := Aside0.mk (HB1.out.trans (hb.mono HB1.out.size))
  have K3 := Aside0.mk ((hb.block _ (blk_lt K2.out)).trans K2.out)
  have H4 := Aside0.mk (H3.out.below hb)
  clear hb K2 H3 HB1 HR1
  cases r with
  | true =>
    go_wp2_with ((with_reducible refine gate_store (t := 33) (p := 8) (v := .tmp 62) rfl ?_); refine store_all rfl rfl rfl (g + 1) #[.int .i64 0, .int .i64 0, .int .i64 0, .int .i64 0, .int .i64 0, .slice none 0 0] #[.int .i64 0, .int .i64 0, .int .i64 0, .int .i64 0, .int .i64 0, .slice none 0 0] 33 (by rfl) (by rfl) K3.out rfl (by kernel_rfl) zcells_one ?_; intro w9 hr1 hf6; have HR1 := Aside0.mk hr1; have HF6 := Aside0.mk hf6; clear hr1 hf6)
    refine bodyPost_ret (results_ctt rfl _ _ (g + 1) 33 #[.int .i64 0, .int .i64 0, .int .i64 0, .int .i64 0, .int .i64 0, .slice none 0 0] (0, 0) _ rfl HR1.out Try.underlying33 rfl (by kernel_rfl)) rfl ?_
    exact ⟨rfl, HB2.out.trans (HF6.out.below (by have := HB2.out.size; omega) (fun k hk => by have := HG.out; omega))⟩
  | false =>
    go_upto_region 11 with (fail)
    have c3 : w3.cell? ⟨t, 3, none⟩ = some (.slice A0 T.ws.length c0) := (blk_cell H4.out.bt 3).trans rfl
    have c00 : w3.cell? ⟨t, 0, none⟩ = some (.int .i64 T.q) := (blk_cell H4.out.bt 0).trans rfl
    have b1 : decide (T.q ≤ (T.ws.length : Int)) = false := by have := HQ.out; simp; omega
    go_region
    all_goals
      have HBX := Aside0.mk (below_drew HB2.out)
      replace K3 := Aside0.mk (show w3.drew.heap[g + 1]? = _ from K3.out)
      generalize w3.drew = w4 at K3 HBX ⊢
      clear c3 c00 H4 HB2 w3
      have HB2 := HBX
      go_wp2_with ((with_reducible refine gate_store (t := 33) (p := 8) (v := .tmp 75) rfl ?_); refine store_all rfl rfl rfl (g + 1) #[.int .i64 0, .int .i64 0, .int .i64 0, .int .i64 0, .int .i64 0, .slice none 0 0] #[.int .i64 0, .int .i64 0, .int .i64 0, .int .i64 0, .int .i64 0, .slice none 0 0] 33 (by rfl) (by rfl) K3.out rfl (by kernel_rfl) zcells_one ?_; intro w9 hr1 hf6; have HR1 := Aside0.mk hr1; have HF6 := Aside0.mk hf6; clear hr1 hf6)
      refine bodyPost_ret (results_ctt rfl _ _ (g + 1) 33 #[.int .i64 0, .int .i64 0, .int .i64 0, .int .i64 0, .int .i64 0, .slice none 0 0] (0, 0) _ rfl HR1.out Try.underlying33 rfl (by kernel_rfl)) rfl ?_
      exact ⟨rfl, HB2.out.trans (HF6.out.below (by have := HB2.out.size; omega) (fun k hk => by have := HG.out; omega))⟩
end Go.Proofs.Ytllgaikgpfionaa.SM
