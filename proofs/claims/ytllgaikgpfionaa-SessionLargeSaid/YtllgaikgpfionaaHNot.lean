/- Calls of a table that nobody made: walked. -/
import Derived.Test.YtllgaikgpfionaaHTab
import Derived.Test.YtllgaikgpfionaaFS
namespace Go.Proofs.Ytllgaikgpfionaa.SM
open Go.RowKit Go.Proofs.YtllgaikgpfionaaW.PrintWords Go.Proofs.YtllgaikgpfionaaW.PrintLast Go.Proofs.YtllgaikgpfionaaW.PrintMore Go.Proofs.Ytllgaikgpfionaa.HW Go.Proofs.Ytllgaikgpfionaa.MB
attribute [local go_sem] max2_int min2_int max_two min_two max_three min_three max_four min_four   -- for this text's walks alone
/-- No table, or one that nobody made. -/
def NG (W : World) (p : Option Addr) : Prop := p = none ∨ ∃ t, p = some ⟨t, 0, none⟩ ∧ W.heap[t]? = some (.cells #[.int .i64 0, .map none, .int .i64 0, .slice none 0 0] 57 (0, 0))
theorem NG.below {W W' : World} {p : Option Addr} (h : NG W p) (hb : Below W.heap.size W W') : NG W' p := by
  rcases h with h | ⟨t, h, ht⟩
  · exact Or.inl h
  · exact Or.inr ⟨t, h, (hb.block t (blk_lt ht)).trans ht⟩
set_option maxHeartbeats 1000000 in
theorem given_no {W : World} {p : Option Addr} (h : NG W p) : Calls Try.prog 19 #[.pointer p] W fun e w' => e = .returned (.bool false) ∧ W = w' := by
  rcases h with rfl | ⟨t, rfl, ht⟩
  · go_enter Try.func19, Try.ntmps19
    go_wp2_with fail
    go_ret
    exact ⟨rfl, rfl⟩
  · have c0 : W.cell? ⟨t, 0, none⟩ = some (.int .i64 0) := (blk_cell ht 0).trans rfl
    clear ht
    go_enter Try.func19, Try.ntmps19
    go_wp2_with fail
    go_ret
    exact ⟨rfl, rfl⟩
set_option maxHeartbeats 1000000 in
theorem waiting_no {W : World} {p : Option Addr} (h : NG W p) : Calls Try.prog 14 #[.pointer p] W fun e w' => e = .returned (.int .i64 0) ∧ W = w' := by
  have H := Aside0.mk (given_no h)
  clear h
  go_enter Try.func14, Try.ntmps14
  go_wp2_with fail
  refine H.out.mono ?_
  rintro e w2 ⟨rfl, rfl⟩
  go_wp2_with fail
  go_ret
  exact ⟨rfl, rfl⟩
set_option maxHeartbeats 1000000 in
theorem done_no {W : World} {p : Option Addr} (h : NG W p) (n : Int) : Calls Try.prog 13 #[.pointer p, .int .i64 n] W fun e w' => e = .returned (.slice none 0 0) ∧ W = w' := by
  have H := Aside0.mk (given_no h)
  clear h
  go_enter Try.func13, Try.ntmps13
  go_wp2_with fail
  refine H.out.mono ?_
  rintro e w2 ⟨rfl, rfl⟩
  go_wp2_with fail
  go_ret
  exact ⟨rfl, rfl⟩
set_option maxHeartbeats 1000000 in
theorem cut_no {W : World} {p : Option Addr} (h : NG W p) (n : Int) : Calls Try.prog 18 #[.pointer p, .int .i64 n] W fun e w' => e = .returned (.int .i64 1) ∧ Below W.heap.size W w' := by
  have hb := below_alloc (Below.refl W.heap.size W) (.cells #[.pointer p] 24)
  have H := Aside0.mk (given_no (h.below hb))
  have HB := Aside0.mk hb
  clear h hb
  go_enter Try.func18, Try.ntmps18
  go_wp2_with fail
  refine H.out.mono ?_
  rintro e w2 ⟨rfl, rfl⟩
  go_wp2_with fail
  go_ret
  exact ⟨rfl, HB.out⟩
set_option maxHeartbeats 1000000 in
theorem put_no {W : World} {p : Option Addr} (h : NG W p) (y0 y1 y2 y3 y4 : Int) : Calls Try.prog 10 #[.pointer p, .agg #[.int .i64 y0, .int .i64 y1, .int .i64 y2, .int .i64 y3, .int .i64 y4, .slice none 0 0]] W fun e w' => e = .returned (.int .i64 1) ∧ Below W.heap.size W w' := by
  have hb := below_alloc (Below.refl W.heap.size W) (.cells #[.int .i64 y0, .int .i64 y1, .int .i64 y2, .int .i64 y3, .int .i64 y4, .slice none 0 0] 33)
  have H := Aside0.mk (given_no (h.below hb))
  have HB := Aside0.mk hb
  clear h hb
  go_enter Try.func10, Try.ntmps10
  go_wp2_with fail
  refine H.out.mono ?_
  rintro e w2 ⟨rfl, rfl⟩
  go_wp2_with fail
  go_ret
  exact ⟨rfl, HB.out⟩
theorem zcells_one : ∀ q ∈ (#[.int .i64 0, .int .i64 0, .int .i64 0, .int .i64 0, .int .i64 0, .slice none 0 0] : Array Value).toList, q.oneCell' = true := by decide
set_option maxHeartbeats 2000000 in
theorem find_no {W : World} {p : Option Addr} (h : NG W p) (a b : Int) : Calls Try.prog 9 #[.pointer p, .agg #[.int .i64 a, .int .i64 b]] W fun e w' => e = .returned (.tuple #[Bat.zero.val, .int .i64 1]) ∧ Below W.heap.size W w' := by
  have hu4 := Try.underlying33
  have hb := below_alloc (below_alloc (Below.refl W.heap.size W) (.cells #[.int .i64 a, .int .i64 b] 30)) (.cells #[.int .i64 0, .int .i64 0, .int .i64 0, .int .i64 0, .int .i64 0, .slice none 0 0] 33)
  have k1 := heap_alloc_new (W.alloc (.cells #[.int .i64 a, .int .i64 b] 30)) (.cells #[.int .i64 0, .int .i64 0, .int .i64 0, .int .i64 0, .int .i64 0, .slice none 0 0] 33)
  have e1 : (W.alloc (.cells #[.int .i64 a, .int .i64 b] 30)).heap.size = W.heap.size + 1 := Array.size_push _
  rw [e1] at k1
  have H := Aside0.mk (given_no (h.below hb))
  have HB := Aside0.mk hb
  have K := Aside0.mk k1
  clear h hb k1 e1
  go_enter Try.func9, Try.ntmps9
  go_wp2_with fail
  refine H.out.mono ?_
  rintro e w2 ⟨rfl, rfl⟩
  obtain ⟨g, hg⟩ : ∃ g, W.heap.size = g := ⟨_, rfl⟩
  have HG := Aside0.mk hg
  rw [hg] at K
  rw [hg]
  generalize (W.alloc (.cells #[.int .i64 a, .int .i64 b] 30)).alloc (.cells #[.int .i64 0, .int .i64 0, .int .i64 0, .int .i64 0, .int .i64 0, .slice none 0 0] 33) = w1 at HB K ⊢
  clear H hg
  go_wp2_with ((with_reducible refine gate_store (t := 33) (p := 4) (v := .tmp 11) rfl ?_); refine store_all rfl rfl rfl (g + 1) #[.int .i64 0, .int .i64 0, .int .i64 0, .int .i64 0, .int .i64 0, .slice none 0 0] #[.int .i64 0, .int .i64 0, .int .i64 0, .int .i64 0, .int .i64 0, .slice none 0 0] 33 (by rfl) (by rfl) K.out rfl (by kernel_rfl) zcells_one ?_; intro w9 hr1 hf6; have HR1 := Aside0.mk hr1; have HF6 := Aside0.mk hf6; clear hr1 hf6)
  refine bodyPost_ret (results_ct rfl _ _ (g + 1) 33 #[.int .i64 0, .int .i64 0, .int .i64 0, .int .i64 0, .int .i64 0, .slice none 0 0] (0, 0) _ rfl HR1.out Try.underlying33 rfl (by kernel_rfl)) rfl ?_
  exact ⟨rfl, HB.out.trans (HF6.out.below (by have := HB.out.size; omega) (fun k hk => by have := HG.out; omega))⟩
set_option maxHeartbeats 2000000 in
theorem wait_no {W : World} {p : Option Addr} (h : NG W p) (a b n : Int) : Calls Try.prog 12 #[.pointer p, .agg #[.int .i64 a, .int .i64 b], .int .i64 n] W fun e w' => e = .returned (.int .i64 1) ∧ Below W.heap.size W w' := by
  have hb := below_alloc (Below.refl W.heap.size W) (.cells #[.int .i64 a, .int .i64 b] 30)
  have H := Aside0.mk (find_no (h.below hb) a b)
  have HB := Aside0.mk hb
  clear h hb
  go_enter Try.func12, Try.ntmps12
  go_wp2_with fail
  refine H.out.mono ?_
  rintro e w2 ⟨rfl, hb⟩
  have HB2 := Aside0.mk (HB.out.trans (hb.mono HB.out.size))
  clear hb H HB
  unfold Bat.val Bat.zero
  simp only
  go_wp2_with fail
  go_ret
  exact ⟨rfl, HB2.out.trans ((below_alloc (Below.refl _ _) _).mono HB2.out.size)⟩
end Go.Proofs.Ytllgaikgpfionaa.SM
