/- batch.Check of a batch without records: walked. -/
import Derived.Test.YtllgaikgpfionaaHTab
import Derived.Test.YtllgaikgpfionaaHBytes
import Derived.Deep.RegionHeld3
namespace Go.Proofs.Ytllgaikgpfionaa.SM
open Go.RowKit Go.Proofs.YtllgaikgpfionaaW.PrintWords Go.Proofs.YtllgaikgpfionaaW.PrintLast Go.Proofs.YtllgaikgpfionaaW.PrintMore Go.Proofs.Ytllgaikgpfionaa.HW Go.Proofs.Ytllgaikgpfionaa.MB Go.Proofs.Ytllgaikgpfionaa.RB
attribute [local go_sem] max2_int min2_int max_two min_two max_three min_three max_four min_four   -- for this text's walks alone
theorem in_ok (n lo hi : Int) (W : World) : Calls Try.prog 41 #[.int .i64 n, .int .i64 lo, .int .i64 hi] W fun e w' => e = .returned (.bool (decide (lo ≤ n) && decide (n ≤ hi))) ∧ W = w' := by
  go_enter Try.func41, Try.ntmps41
  by_cases h : lo ≤ n
  · have b1 : decide (lo ≤ n) = true := by simpa using h
    rw [b1]
    go_wp2_with fail
    go_ret
    exact ⟨rfl, rfl⟩
  · have b1 : decide (lo ≤ n) = false := by simpa using h
    rw [b1]
    go_wp2_with fail
    go_ret
    exact ⟨rfl, rfl⟩
/-- May a batch's head be? -/
def headOk (b : Bat) : Prop := 0 ≤ b.base ∧ b.base ≤ 1099511627520 ∧ 1 ≤ b.count ∧ b.count ≤ 256 ∧ 0 ≤ b.view ∧ b.view ≤ 2147483647 ∧ 0 ≤ b.prod ∧ b.prod ≤ 2147483647 ∧ 0 ≤ b.seq ∧ b.seq ≤ 2147483647
set_option maxHeartbeats 2000000 in
theorem headed_ok {b : Bat} (h : headOk b) (W : World) : Calls Try.prog 34 #[b.val] W fun e w' => e = .returned (.bool true) ∧ Below W.heap.size W w' := by
  obtain ⟨y0, y1, y2, y3, y4⟩ := b
  obtain ⟨h1, h2, h3, h4, h5, h6, h7, h8, h9, h10⟩ := h
  simp only at h1 h2 h3 h4 h5 h6 h7 h8 h9 h10
  have b1 : decide (0 ≤ y0) = true := by simpa using h1
  have b2 : decide (y0 ≤ 1099511627520) = true := by simpa using h2
  have b3 : decide (1 ≤ y1) = true := by simpa using h3
  have b4 : decide (y1 ≤ 256) = true := by simpa using h4
  have b5 : decide (0 ≤ y2) = true := by simpa using h5
  have b6 : decide (y2 ≤ 2147483647) = true := by simpa using h6
  have b7 : decide (0 ≤ y3) = true := by simpa using h7
  have b8 : decide (y3 ≤ 2147483647) = true := by simpa using h8
  have b9 : decide (0 ≤ y4) = true := by simpa using h9
  have b10 : decide (y4 ≤ 2147483647) = true := by simpa using h10
  clear h1 h2 h3 h4 h5 h6 h7 h8 h9 h10
  have i1 := in_ok y0 0 1099511627520
  have i2 := in_ok y1 1 256
  have i3 := in_ok y2 0 2147483647
  have i4 := in_ok y3 0 2147483647
  have i5 := in_ok y4 0 2147483647
  rw [b1, b2] at i1
  rw [b3, b4] at i2
  rw [b5, b6] at i3
  rw [b7, b8] at i4
  rw [b9, b10] at i5
  clear b1 b2 b3 b4 b5 b6 b7 b8 b9 b10
  unfold Bat.val
  go_enter Try.func34, Try.ntmps34
  go_wp2_with fail
  refine (i1 _).mono ?_
  rintro e w2 ⟨rfl, rfl⟩
  go_wp2_with fail
  refine (i2 _).mono ?_
  rintro e w2 ⟨rfl, rfl⟩
  go_wp2_with fail
  refine (i3 _).mono ?_
  rintro e w2 ⟨rfl, rfl⟩
  go_wp2_with fail
  refine (i4 _).mono ?_
  rintro e w2 ⟨rfl, rfl⟩
  go_wp2_with fail
  refine (i5 _).mono ?_
  rintro e w2 ⟨rfl, rfl⟩
  go_wp2_with fail
  go_ret
  exact ⟨rfl, below_alloc (Below.refl _ _) _⟩
set_option maxHeartbeats 2000000 in
theorem plain_ok {b : Bat} (h : headOk b) (W : World) : Calls Try.prog 29 #[b.val] W fun e w' => e = .returned (.tuple #[.string ⟨#[]⟩, .bool true]) ∧ Below W.heap.size W w' := by
  have hc : recBytes [] b.base = some (⟨#[]⟩, 0) := by
    obtain ⟨h1, h2, _⟩ := h
    unfold recBytes
    rw [if_neg (by omega)]
    rfl
  have hh := headed_ok h
  obtain ⟨y0, y1, y2, y3, y4⟩ := b
  unfold Bat.val at hh ⊢
  simp only at hc hh ⊢
  have hB := fun (w : World) => bytes_any none 0 [] y0 ⟨#[]⟩ 0 w (Kd.C_nil _ _) (Nat.le_refl _) hc
  have HH := Aside0.mk hh
  have HBB := Aside0.mk hB
  clear h hh hB hc
  go_enter Try.func29, Try.ntmps29
  go_upto_region 1 with (fail)
  have e1 : (W.alloc (.cells #[.int .i64 y0, .int .i64 y1, .int .i64 y2, .int .i64 y3, .int .i64 y4, .slice none 0 0] 33)).heap.size = W.heap.size + 1 := Array.size_push _
  have k0 := heap_alloc_new W (.cells #[.int .i64 y0, .int .i64 y1, .int .i64 y2, .int .i64 y3, .int .i64 y4, .slice none 0 0] 33)
  have hb := below_alloc (Below.refl W.heap.size W) (.cells #[.int .i64 y0, .int .i64 y1, .int .i64 y2, .int .i64 y3, .int .i64 y4, .slice none 0 0] 33)
  have K0 := Aside0.mk k0
  have HB := Aside0.mk hb
  clear k0 hb e1
  generalize W.alloc (.cells #[.int .i64 y0, .int .i64 y1, .int .i64 y2, .int .i64 y3, .int .i64 y4, .slice none 0 0] 33) = w1 at K0 HB ⊢
  obtain ⟨g, hg⟩ : ∃ g, W.heap.size = g := ⟨_, rfl⟩
  rw [hg] at K0
  rw [hg]
  have HG := Aside0.mk hg
  clear hg
  have c0 : w1.cell? ⟨g, 0, none⟩ = some (.int .i64 y0) := (blk_cell K0.out 0).trans rfl
  have c5 : w1.cell? ⟨g, 5, none⟩ = some (.slice none 0 0) := (blk_cell K0.out 5).trans rfl
  go_wp2_with fail
  refine (HBB.out _).mono ?_
  rintro e w2 ⟨rfl, hb⟩
  replace K0 := Aside0.mk ((hb.block _ (blk_lt K0.out)).trans K0.out)
  replace HB := Aside0.mk (HB.out.trans (hb.mono HB.out.size))
  clear hb c0 c5
  have c5 : w2.cell? ⟨g, 5, none⟩ = some (.slice none 0 0) := (blk_cell K0.out 5).trans rfl
  go_upto_region 3 with (fail)
  have c0 : w2.cell? ⟨g, 0, none⟩ = some (.int .i64 y0) := (blk_cell K0.out 0).trans rfl
  have c1 : w2.cell? ⟨g, 1, none⟩ = some (.int .i64 y1) := (blk_cell K0.out 1).trans rfl
  have c2 : w2.cell? ⟨g, 2, none⟩ = some (.int .i64 y2) := (blk_cell K0.out 2).trans rfl
  have c3 : w2.cell? ⟨g, 3, none⟩ = some (.int .i64 y3) := (blk_cell K0.out 3).trans rfl
  have c4 : w2.cell? ⟨g, 4, none⟩ = some (.int .i64 y4) := (blk_cell K0.out 4).trans rfl
  refine wp_region_any (by kernel_rfl) ?_
  change wpAny _ _ _ _ _ _ _ (World.drew _)
  refine wpAny_take (i := 0) (v := ?v0) rfl (by kernel_rfl) (by kernel_rfl) (by kernel_rfl) (fun _ _ _ h => h) (Or.inl ⟨by kernel_rfl, ?y0⟩) ?_
  case y0 => (intro w; go_simp; try with_reducible rfl)
  refine wpAny_ready (rs := [1]) (by kernel_rfl) (by simp) ?_
  refine AllReady.cons rfl (fun K hK => ?_) AllReady.nil
  go_simp
  refine hK _ _ ?_
  clear hK K
  refine wpAny_ready (rs := [2]) (by kernel_rfl) (by simp) ?_
  refine AllReady.cons rfl (fun K hK => ?_) AllReady.nil
  go_simp
  go_wp2_with fail
  refine (HH.out _).mono ?_
  rintro e w5 ⟨rfl, hb⟩
  replace HB := Aside0.mk ((below_drew HB.out).trans (hb.mono (below_drew HB.out).size))
  clear hb c0 c1 c2 c3 c4 c5
  refine hK _ _ ?_
  clear hK K
  refine wpAny_take (i := 3) (v := ?v3) rfl (by kernel_rfl) (by kernel_rfl) (by kernel_rfl) (fun _ _ _ h => h) (Or.inl ⟨by kernel_rfl, ?y3⟩) ?_
  case y3 => (intro w; go_simp; try with_reducible rfl)
  refine wpAny_take (i := 4) (v := ?v4) rfl (by kernel_rfl) (by kernel_rfl) (by kernel_rfl) (fun _ _ _ h => h) (Or.inl ⟨by kernel_rfl, ?y4⟩) ?_
  case y4 => (intro w; go_simp; try with_reducible rfl)
  refine wpAny_take (i := 5) (v := ?v5) rfl (by kernel_rfl) (by kernel_rfl) (by kernel_rfl) (fun _ _ _ h => h) (Or.inl ⟨by kernel_rfl, ?y5⟩) ?_
  case y5 => (intro w; go_simp; try with_reducible rfl)
  refine wpAny_take (i := 6) (v := ?v6) rfl (by kernel_rfl) (by kernel_rfl) (by kernel_rfl) (fun _ _ _ h => h) (Or.inl ⟨by kernel_rfl, ?y6⟩) ?_
  case y6 => (intro w; go_simp; try with_reducible rfl)
  refine wpAny_take (i := 7) (v := ?v7) rfl (by kernel_rfl) (by kernel_rfl) (by kernel_rfl) (fun _ _ _ h => h) (Or.inl ⟨by kernel_rfl, ?y7⟩) ?_
  case y7 => (intro w; go_simp; try with_reducible rfl)
  refine wpAny_take (i := 8) (v := ?v8) rfl (by kernel_rfl) (by kernel_rfl) (by kernel_rfl) (fun _ _ _ h => h) (Or.inl ⟨by kernel_rfl, ?y8⟩) ?_
  case y8 => (intro w; go_simp; try with_reducible rfl)
  refine wpAny_take (i := 9) (v := ?v9) rfl (by kernel_rfl) (by kernel_rfl) (by kernel_rfl) (fun _ _ _ h => h) (Or.inl ⟨by kernel_rfl, ?y9⟩) ?_
  case y9 => (intro w; go_simp; try with_reducible rfl)
  refine wpAny_take (i := 10) (v := ?v10) rfl (by kernel_rfl) (by kernel_rfl) (by kernel_rfl) (fun _ _ _ h => h) (Or.inl ⟨by kernel_rfl, ?y10⟩) ?_
  case y10 => (intro w; go_simp; try with_reducible rfl)
  refine wpAny_take (i := 11) (v := undef) rfl (by kernel_rfl) (by kernel_rfl) (by kernel_rfl) (fun _ _ _ h => h) (Or.inr ⟨by kernel_rfl, rfl⟩) ?_
  refine wpAny_take (i := 12) (v := undef) rfl (by kernel_rfl) (by kernel_rfl) (by kernel_rfl) (fun _ _ _ h => h) (Or.inr ⟨by kernel_rfl, rfl⟩) ?_
  refine wpAny_take (i := 13) (v := undef) rfl (by kernel_rfl) (by kernel_rfl) (by kernel_rfl) (fun _ _ _ h => h) (Or.inr ⟨by kernel_rfl, rfl⟩) ?_
  refine wpAny_take (i := 14) (v := undef) rfl (by kernel_rfl) (by kernel_rfl) (by kernel_rfl) (fun _ _ _ h => h) (Or.inr ⟨by kernel_rfl, rfl⟩) ?_
  refine wpAny_take (i := 15) (v := undef) rfl (by kernel_rfl) (by kernel_rfl) (by kernel_rfl) (fun _ _ _ h => h) (Or.inr ⟨by kernel_rfl, rfl⟩) ?_
  refine wpAny_take (i := 16) (v := undef) rfl (by kernel_rfl) (by kernel_rfl) (by kernel_rfl) (fun _ _ _ h => h) (Or.inr ⟨by kernel_rfl, rfl⟩) ?_
  refine wpAny_take (i := 17) (v := undef) rfl (by kernel_rfl) (by kernel_rfl) (by kernel_rfl) (fun _ _ _ h => h) (Or.inr ⟨by kernel_rfl, rfl⟩) ?_
  refine wpAny_take (i := 18) (v := undef) rfl (by kernel_rfl) (by kernel_rfl) (by kernel_rfl) (fun _ _ _ h => h) (Or.inr ⟨by kernel_rfl, rfl⟩) ?_
  refine wpAny_take (i := 19) (v := undef) rfl (by kernel_rfl) (by kernel_rfl) (by kernel_rfl) (fun _ _ _ h => h) (Or.inr ⟨by kernel_rfl, rfl⟩) ?_
  refine wpAny_take (i := 20) (v := undef) rfl (by kernel_rfl) (by kernel_rfl) (by kernel_rfl) (fun _ _ _ h => h) (Or.inr ⟨by kernel_rfl, rfl⟩) ?_
  refine wpAny_take (i := 21) (v := undef) rfl (by kernel_rfl) (by kernel_rfl) (by kernel_rfl) (fun _ _ _ h => h) (Or.inr ⟨by kernel_rfl, rfl⟩) ?_
  refine wpAny_take (i := 22) (v := undef) rfl (by kernel_rfl) (by kernel_rfl) (by kernel_rfl) (fun _ _ _ h => h) (Or.inr ⟨by kernel_rfl, rfl⟩) ?_
  refine wpAny_take (i := 23) (v := undef) rfl (by kernel_rfl) (by kernel_rfl) (by kernel_rfl) (fun _ _ _ h => h) (Or.inr ⟨by kernel_rfl, rfl⟩) ?_
  refine wpAny_take (i := 24) (v := ?v24) rfl (by kernel_rfl) (by kernel_rfl) (by kernel_rfl) (fun _ _ _ h => h) (Or.inl ⟨by kernel_rfl, ?y24⟩) ?_
  case y24 => (intro w; go_simp; try with_reducible rfl)
  refine wpAny_take (i := 25) (v := ?v25) rfl (by kernel_rfl) (by kernel_rfl) (by kernel_rfl) (fun _ _ _ h => h) (Or.inl ⟨by kernel_rfl, ?y25⟩) ?_
  case y25 => (intro w; go_simp; try with_reducible rfl)
  refine wpAny_take (i := 26) (v := ?v26) rfl (by kernel_rfl) (by kernel_rfl) (by kernel_rfl) (fun _ _ _ h => h) (Or.inl ⟨by kernel_rfl, ?y26⟩) ?_
  case y26 => (intro w; go_simp; try with_reducible rfl)
  refine wpAny_take (i := 27) (v := ?v27) rfl (by kernel_rfl) (by kernel_rfl) (by kernel_rfl) (fun _ _ _ h => h) (Or.inl ⟨by kernel_rfl, ?y27⟩) ?_
  case y27 => (intro w; go_simp; try with_reducible rfl)
  refine wpAny_done (by kernel_rfl) ?_ _
  all_goals
    go_wp2_with fail
    go_ret2
    exact ⟨by kernel_rfl, HB.out⟩
set_option maxHeartbeats 2000000 in
theorem bcheck_ok {b : Bat} (h : headOk b) (W : World) : Calls Try.prog 20 #[b.val] W fun e w' => e = .returned (.int .i64 0) ∧ Below W.heap.size W w' := by
  have hp := plain_ok h
  obtain ⟨y0, y1, y2, y3, y4⟩ := b
  unfold Bat.val at hp ⊢
  simp only at hp ⊢
  have HP := Aside0.mk hp
  clear hp h
  go_enter Try.func20, Try.ntmps20
  go_wp2_with fail
  refine (HP.out _).mono ?_
  rintro e w2 ⟨rfl, hb⟩
  go_wp2_with fail
  go_ret
  exact ⟨rfl, (below_alloc (Below.refl _ _) _).trans (hb.mono (by show _ ≤ (Array.push _ _).size; rw [Array.size_push]; omega))⟩
end Go.Proofs.Ytllgaikgpfionaa.SM
