/- The walk of BitsNobody: readers and writers that nobody made answer nothing. -/
import Derived.Test.YtggfahgkjdkjmaaHRd
import Derived.Test.YtggfahgkjdkjmaaHAwake
import Derived.Outline
namespace Go.Proofs.Ytggfahgkjdkjmaa.HW
open Go.RowKit Go.Proofs.YtggfahgkjdkjmaaW.PrintWords Go.Proofs.YtggfahgkjdkjmaaW.PrintLast Go.Proofs.YtggfahgkjdkjmaaW.PrintMore Go.Proofs.Ytggfahgkjdkjmaa.MB Go.Proofs.Ytggfahgkjdkjmaa.Fn Go.Proofs.Ytggfahgkjdkjmaa.PR
attribute [local go_sem] max2_int min2_int max_two min_two max_three min_three max_four min_four   -- for this text's walks alone
/-- Nobody made it: nil, or its first cell says so. -/
def NG (w : World) (p : Option Addr) : Prop := p = none ∨ ∃ g, p = some ⟨g, 0, none⟩ ∧ w.cell? ⟨g, 0, none⟩ = some (.bool false)
theorem rgiven_no (w : World) (p : Option Addr) (h : NG w p) : Calls Try.prog 36 #[.pointer p] w fun e w' => e = .returned (.bool false) ∧ w = w' := by
  rcases h with rfl | ⟨g, rfl, hc⟩
  · go_enter Try.func36, Try.ntmps36
    go_wp2
    go_ret
    exact ⟨rfl, rfl⟩
  · go_enter Try.func36, Try.ntmps36
    go_wp2
    go_ret
    exact ⟨rfl, rfl⟩
theorem wgiven_no (w : World) (p : Option Addr) (h : NG w p) : Calls Try.prog 35 #[.pointer p] w fun e w' => e = .returned (.bool false) ∧ w = w' := by
  rcases h with rfl | ⟨g, rfl, hc⟩
  · go_enter Try.func35, Try.ntmps35
    go_wp2
    go_ret
    exact ⟨rfl, rfl⟩
  · go_enter Try.func35, Try.ntmps35
    go_wp2
    go_ret
    exact ⟨rfl, rfl⟩
theorem rbits_no (w : World) (p : Option Addr) (n : Int) (h : NG w p) : Calls Try.prog 16 #[.pointer p, .int .i64 n] w fun e w' => e = .returned (.tuple #[.int .i64 0, .int .i64 1]) ∧ w = w' := by
  have H := Aside0.mk h
  clear h
  go_enter Try.func16, Try.ntmps16
  go_wp2_with (go_at_call 36; refine (rgiven_no _ p H.out).mono ?_; rintro e w' ⟨rfl, rfl⟩)
  go_ret2
  exact ⟨rfl, rfl⟩
theorem rbytes_no (w : World) (p : Option Addr) (n : Int) (h : NG w p) : Calls Try.prog 34 #[.pointer p, .int .i64 n] w fun e w' => e = .returned (.tuple #[.string ⟨#[]⟩, .int .i64 1]) ∧ w = w' := by
  have H := Aside0.mk h
  clear h
  go_enter Try.func34, Try.ntmps34
  go_wp2_with (go_at_call 36; refine (rgiven_no _ p H.out).mono ?_; rintro e w' ⟨rfl, rfl⟩)
  go_ret2
  exact ⟨rfl, rfl⟩
theorem ralign_no (w : World) (p : Option Addr) (h : NG w p) : Calls Try.prog 33 #[.pointer p] w fun e w' => e = .returned (.int .i64 1) ∧ w = w' := by
  have H := Aside0.mk h
  clear h
  go_enter Try.func33, Try.ntmps33
  go_wp2_with (go_at_call 36; refine (rgiven_no _ p H.out).mono ?_; rintro e w' ⟨rfl, rfl⟩)
  go_ret
  exact ⟨rfl, rfl⟩
theorem rplace_no (w : World) (p : Option Addr) (h : NG w p) : Calls Try.prog 18 #[.pointer p] w fun e w' => e = .returned (.int .i64 0) ∧ w = w' := by
  have H := Aside0.mk h
  clear h
  go_enter Try.func18, Try.ntmps18
  go_wp2_with (go_at_call 36; refine (rgiven_no _ p H.out).mono ?_; rintro e w' ⟨rfl, rfl⟩)
  go_ret
  exact ⟨rfl, rfl⟩
theorem wbits_no (w : World) (p : Option Addr) (x n : Int) (h : NG w p) : Calls Try.prog 13 #[.pointer p, .int .i64 x, .int .i64 n] w fun e w' => e = .returned (.int .i64 1) ∧ w = w' := by
  have H := Aside0.mk h
  clear h
  go_enter Try.func13, Try.ntmps13
  go_wp2_with (go_at_call 35; refine (wgiven_no _ p H.out).mono ?_; rintro e w' ⟨rfl, rfl⟩)
  go_ret
  exact ⟨rfl, rfl⟩
theorem wbytes_no (w : World) (p : Option Addr) (s : ByteArray) (h : NG w p) : Calls Try.prog 32 #[.pointer p, .string s] w fun e w' => e = .returned (.int .i64 1) ∧ w = w' := by
  have H := Aside0.mk h
  clear h
  go_enter Try.func32, Try.ntmps32
  go_wp2_with (go_at_call 35; refine (wgiven_no _ p H.out).mono ?_; rintro e w' ⟨rfl, rfl⟩)
  go_ret
  exact ⟨rfl, rfl⟩
theorem walign_no (w : World) (p : Option Addr) (h : NG w p) : Calls Try.prog 31 #[.pointer p] w fun e w' => e = .returned (.int .i64 1) ∧ w = w' := by
  have H := Aside0.mk h
  clear h
  go_enter Try.func31, Try.ntmps31
  go_wp2_with (go_at_call 35; refine (wgiven_no _ p H.out).mono ?_; rintro e w' ⟨rfl, rfl⟩)
  go_ret
  exact ⟨rfl, rfl⟩
theorem wplace_no (w : World) (p : Option Addr) (h : NG w p) : Calls Try.prog 24 #[.pointer p] w fun e w' => e = .returned (.int .i64 0) ∧ w = w' := by
  have H := Aside0.mk h
  clear h
  go_enter Try.func24, Try.ntmps24
  go_wp2_with (go_at_call 35; refine (wgiven_no _ p H.out).mono ?_; rintro e w' ⟨rfl, rfl⟩)
  go_ret
  exact ⟨rfl, rfl⟩
theorem wdone_no (w : World) (p : Option Addr) (h : NG w p) : Calls Try.prog 14 #[.pointer p] w fun e w' => e = .returned (.string ⟨#[]⟩) ∧ w = w' := by
  have H := Aside0.mk h
  clear h
  go_enter Try.func14, Try.ntmps14
  go_wp2_with (go_at_call 35; refine (wgiven_no _ p H.out).mono ?_; rintro e w' ⟨rfl, rfl⟩)
  go_ret
  exact ⟨rfl, rfl⟩
set_option maxHeartbeats 4000000 in
set_option maxRecDepth 100000 in
theorem nobody_walk (n : Int) (_hn : (Lit.int .i64 n).wf = true) (s : ByteArray) (_hs : s.size ≤ 140737488351232) (W0 : World) :
    Calls Try.prog 10 #[.int .i64 n, .string s] W0 fun e w' => e = .returned (.bool true) ∧ Below W0.heap.size W0 w' := by
  have hu58 := Try.underlying58
  have hu62 := Try.underlying62
  go_enter Try.func10, Try.ntmps10
  go_wp2_with fail
  obtain ⟨W, hW⟩ : ∃ W, (((W0.alloc (Obj.cells #[Value.bool false, Value.string { data := #[] }, Value.int IntKind.i64 0] 58)).alloc (Obj.cells #[Value.pointer none, Value.pointer (some { block := W0.heap.size, off := 0 })] 28)).alloc (Obj.cells #[Value.bool false, Value.slice none 0 0, Value.int IntKind.i64 0] 62)).alloc (Obj.cells #[Value.pointer none, Value.pointer (some { block := W0.heap.size + 1 + 1, off := 0 })] 23) = W := ⟨_, rfl⟩
  have c1 : W.cell? ⟨W0.heap.size + 1, 0, none⟩ = some (.pointer none) := by subst hW; go_simp
  have c2 : W.cell? ⟨W0.heap.size + 1, 1, none⟩ = some (.pointer (some ⟨W0.heap.size, 0, none⟩)) := by subst hW; go_simp
  have c3 : W.cell? ⟨W0.heap.size + 1 + 1 + 1, 0, none⟩ = some (.pointer none) := by subst hW; go_simp
  have c4 : W.cell? ⟨W0.heap.size + 1 + 1 + 1, 1, none⟩ = some (.pointer (some ⟨W0.heap.size + 1 + 1, 0, none⟩)) := by subst hW; go_simp
  have n1 : NG W (some ⟨W0.heap.size, 0, none⟩) := Or.inr ⟨_, rfl, by subst hW; go_simp⟩
  have n2 : NG W (some ⟨W0.heap.size + 1 + 1, 0, none⟩) := Or.inr ⟨_, rfl, by subst hW; go_simp⟩
  have hb : Below W0.heap.size W0 W := by subst hW; exact below_alloc (below_alloc (below_alloc (below_alloc (Below.refl _ _) _) _) _) _
  rw [hW]
  have N0 := Aside0.mk (show NG W none from Or.inl rfl)
  have N1 := Aside0.mk n1
  have N2 := Aside0.mk n2
  have HB := Aside0.mk hb
  clear hW n1 n2 hb hu58 hu62
  go_loop [7] (fun v7 => ∃ i : Nat, v7 = .int .i64 i ∧ i ≤ 2) (fun v => 2 - (intOf v).toNat)
  case atStart => exact ⟨0, rfl, by omega⟩
  case round =>
    obtain ⟨i, rfl, hi⟩ := hrel
    have hcase : i = 0 ∨ i = 1 ∨ i = 2 := by omega
    rcases hcase with rfl | rfl | rfl
    · go_wp2_with (first | (go_at_call 16; refine (rbits_no _ none _ N0.out).mono ?_; rintro e w' ⟨rfl, rfl⟩) | (go_at_call 34; refine (rbytes_no _ none _ N0.out).mono ?_; rintro e w' ⟨rfl, rfl⟩) | (go_at_call 33; refine (ralign_no _ none N0.out).mono ?_; rintro e w' ⟨rfl, rfl⟩) | (go_at_call 18; refine (rplace_no _ none N0.out).mono ?_; rintro e w' ⟨rfl, rfl⟩) | (go_at_call 13; refine (wbits_no _ none _ _ N0.out).mono ?_; rintro e w' ⟨rfl, rfl⟩) | (go_at_call 32; refine (wbytes_no _ none _ N0.out).mono ?_; rintro e w' ⟨rfl, rfl⟩) | (go_at_call 31; refine (walign_no _ none N0.out).mono ?_; rintro e w' ⟨rfl, rfl⟩) | (go_at_call 24; refine (wplace_no _ none N0.out).mono ?_; rintro e w' ⟨rfl, rfl⟩) | (go_at_call 14; refine (wdone_no _ none N0.out).mono ?_; rintro e w' ⟨rfl, rfl⟩))
      go_round
      case rel => exact ⟨1, rfl, by omega⟩
      case measure => simp [intOf]
    · go_wp2_with (first | (go_at_call 16; refine (rbits_no _ _ _ N1.out).mono ?_; rintro e w' ⟨rfl, rfl⟩) | (go_at_call 34; refine (rbytes_no _ _ _ N1.out).mono ?_; rintro e w' ⟨rfl, rfl⟩) | (go_at_call 33; refine (ralign_no _ _ N1.out).mono ?_; rintro e w' ⟨rfl, rfl⟩) | (go_at_call 18; refine (rplace_no _ _ N1.out).mono ?_; rintro e w' ⟨rfl, rfl⟩) | (go_at_call 13; refine (wbits_no _ _ _ _ N2.out).mono ?_; rintro e w' ⟨rfl, rfl⟩) | (go_at_call 32; refine (wbytes_no _ _ _ N2.out).mono ?_; rintro e w' ⟨rfl, rfl⟩) | (go_at_call 31; refine (walign_no _ _ N2.out).mono ?_; rintro e w' ⟨rfl, rfl⟩) | (go_at_call 24; refine (wplace_no _ _ N2.out).mono ?_; rintro e w' ⟨rfl, rfl⟩) | (go_at_call 14; refine (wdone_no _ _ N2.out).mono ?_; rintro e w' ⟨rfl, rfl⟩))
      go_round
      case rel => exact ⟨2, rfl, by omega⟩
      case measure => simp [intOf]
    · go_wp2_with fail
      refine (awake_any _).mono ?_
      rintro e w9 ⟨rfl, hb⟩
      have HB := Aside0.mk (HB.out.trans (hb.mono HB.out.size))
      clear hb
      go_wp2
      go_ret
      exact ⟨rfl, HB.out⟩
end Go.Proofs.Ytggfahgkjdkjmaa.HW
