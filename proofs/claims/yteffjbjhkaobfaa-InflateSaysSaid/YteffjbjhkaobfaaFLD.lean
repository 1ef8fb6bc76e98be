-- machine text of this session's own
import Derived.Test.YteffjbjhkaobfaaFnx0
namespace Go.Proofs.Yteffjbjhkaobfaa.Fn
open Go.RowKit Go.Proofs.YteffjbjhkaobfaaW.PrintWords Go.Proofs.YteffjbjhkaobfaaW.PrintLast Go.Proofs.YteffjbjhkaobfaaW.PrintMore
attribute [local go_sem] max2_int min2_int max_two min_two max_three min_three max_four min_four   -- for this text's walks alone
set_option linter.unusedVariables false
set_option linter.unusedSimpArgs false

/-! ### postroadlaw04_length: function 15 -/
def postroadlaw04_length.l0 : Nat → Int → Int → Option (Int × Int × Int)
  | 0, _, _ => none
  | k + 1, x0, x5 => if 0 ≤ x5 then (if (wrap64 (3 + (shl .i64 8 x5))) ≤ x0 then (postroadlaw04_length.l0 k x0 (wrap64 (x5 + 1))) else (some (wrap64 ((wrap64 (261 + (wrap64 (4 * x5)))) + (shr .i64 (wrap64 ((wrap64 (x0 - 3)) - (shl .i64 4 x5))) x5)), Go.bits .and .i64 (wrap64 ((wrap64 (x0 - 3)) - (shl .i64 4 x5))) (wrap64 ((shl .i64 1 x5) - 1)), x5))) else (none)
def postroadlaw04_length.f (k : Nat) (a0 : Int) : Option (Int × Int × Int) := if a0 = 258 then (some (285, 0, 0)) else (if a0 < 11 then (some (wrap64 (254 + a0), 0, 0)) else (postroadlaw04_length.l0 k a0 1))
theorem postroadlaw04_length.mono_l : ∀ k, (∀ y0 y1, LeO (postroadlaw04_length.l0 k y0 y1) (postroadlaw04_length.l0 (k + 1) y0 y1))
  | 0 => fun _ _ r h => by simp [postroadlaw04_length.l0] at h
  | k + 1 => by
    have ih0 := postroadlaw04_length.mono_l k
    · intro y0 y1
      unfold postroadlaw04_length.l0
      repeat' first
      | (with_reducible exact ih0 _ _)
      | (with_reducible exact LeO.refl _)
      | (with_reducible exact LeO.none _)
      | (with_reducible refine LeO.ite ?_ ?_)
      | (with_reducible refine LeO.bind ?_ (fun _ => ?_))
      | exact ih0 _ _
      | exact LeO.none _
      | refine LeO.ite ?_ ?_
      | refine LeO.bind ?_ (fun _ => ?_)
theorem postroadlaw04_length.mono : ∀ a0 k, LeO (postroadlaw04_length.f k a0) (postroadlaw04_length.f (k + 1) a0) := by
  intro a0 k
  have ih0 := postroadlaw04_length.mono_l k
  unfold postroadlaw04_length.f
  repeat' first
      | (with_reducible exact ih0 _ _)
      | (with_reducible exact LeO.refl _)
      | (with_reducible exact LeO.none _)
      | (with_reducible refine LeO.ite ?_ ?_)
      | (with_reducible refine LeO.bind ?_ (fun _ => ?_))
      | exact ih0 _ _
      | exact LeO.none _
      | refine LeO.ite ?_ ?_
      | refine LeO.bind ?_ (fun _ => ?_)
set_option maxHeartbeats 8000000 in
set_option maxRecDepth 100000 in
theorem postroadlaw04_length.calls (k : Nat) (a0 : Int) (r1 : Int) (r2 : Int) (r3 : Int) (w : World) (h : postroadlaw04_length.f k a0 = some (r1, r2, r3)) :
    Calls Try.prog 15 #[.int .i64 a0] w fun e w' => e = .returned (.tuple #[.int .i64 r1, .int .i64 r2, .int .i64 r3]) ∧ Drawn0 w w' := by
  have H : (if a0 = 258 then (some (285, 0, 0)) else (if a0 < 11 then (some (wrap64 (254 + a0), 0, 0)) else (postroadlaw04_length.l0 k a0 1))) = some (r1, r2, r3) := h
  clear h
  by_cases c2 : a0 = 258
  · rw [if_pos c2] at H
    have c2b0 : (a0 == 258) = true := beq_iff_eq.mpr c2
    have c2b1 : (a0 != 258) = false := bne_eq_false_iff_eq.mpr c2
    clear c2
    simp only [Option.some.injEq, Prod.mk.injEq] at H
    obtain ⟨rfl, rfl, rfl⟩ := H
    go_enter Try.func15, Try.ntmps15
    go_wp2
    repeat (go_quiet (fail); try go_wp2)
    go_ret3
    exact ⟨by first | rfl | (simp; done) | (simp [*]; done), by repeat (first | exact Drawn0.refl _ | apply Drawn0.step)⟩
  · rw [if_neg c2] at H
    have c2b0 : (a0 == 258) = false := beq_eq_false_iff_ne.mpr c2
    have c2b1 : (a0 != 258) = true := bne_iff_ne.mpr c2
    by_cases c3 : a0 < 11
    · rw [if_pos c3] at H
      have c3b0 : decide (a0 < 11) = true := decide_eq_true c3
      clear c3
      simp only [Option.some.injEq, Prod.mk.injEq] at H
      obtain ⟨rfl, rfl, rfl⟩ := H
      go_enter Try.func15, Try.ntmps15
      go_wp2
      repeat (go_quiet (fail); try go_wp2)
      go_ret3
      exact ⟨by first | rfl | (simp; done) | (simp [*]; done), by repeat (first | exact Drawn0.refl _ | apply Drawn0.step)⟩
    · rw [if_neg c3] at H
      have c3b0 : decide (a0 < 11) = false := decide_eq_false c3
      clear c3
      have H' := Aside0.mk H
      clear H
      go_enter Try.func15, Try.ntmps15
      go_wp2
      repeat (go_quiet (fail); try go_wp2)
      go_loopg [5] k (fun kq v5 w' => ∃ (x5_1 : Int), v5 = .int .i64 x5_1 ∧ Aside0 (postroadlaw04_length.l0 kq a0 x5_1 = some (r1, r2, r3)) ∧ Aside0 (kq ≤ k) ∧ Drawn0 w w')
      case atStart => exact ⟨(1), (by first | rfl | (simp; done) | (simp [*]; done)), H', ⟨Nat.le_refl _⟩, by repeat (first | exact Drawn0.refl _ | apply Drawn0.step)⟩
      case round =>
        clear H'
        try clear c1
        try clear c2
        try clear c2b0
        try clear c2b1
        try clear p2
        try clear c3
        try clear c3b0
        obtain ⟨x5_1, rfl, HA, HK1, ⟨m1, rfl⟩⟩ := hrel
        cases gk with
        | zero => exact absurd HA.out (by simp [postroadlaw04_length.l0])
        | succ k1 =>
          have H := HA.out
          clear HA
          simp only [postroadlaw04_length.l0] at H
          by_cases c4 : 0 ≤ x5_1
          · rw [if_pos c4] at H
            have c4b0 := eq_true c4
            have c4b1 : decide (0 ≤ x5_1) = true := decide_eq_true c4
            clear c4
            obtain ⟨ji5, hji5⟩ : ∃ j_ : Int, (shl .i64 8 x5_1) = j_ := ⟨_, rfl⟩
            replace H : (if (wrap64 (3 + (ji5))) ≤ a0 then (postroadlaw04_length.l0 k1 a0 (wrap64 (x5_1 + 1))) else (some (wrap64 ((wrap64 (261 + (wrap64 (4 * x5_1)))) + (shr .i64 (wrap64 ((wrap64 (a0 - 3)) - (shl .i64 4 x5_1))) x5_1)), Go.bits .and .i64 (wrap64 ((wrap64 (a0 - 3)) - (shl .i64 4 x5_1))) (wrap64 ((shl .i64 1 x5_1) - 1)), x5_1))) = some (r1, r2, r3) := by first | (rw [hji5] at H; exact H) | (simp only [hji5] at H ⊢; exact H)
            have hji5_ : (IntKind.i64.wrap (8 * 2 ^ min x5_1.toNat 64)) = ji5 := hji5
            have hji5z : x5_1 ≤ 64 → (IntKind.i64.wrap (8 * 2 ^ x5_1.toNat)) = ji5 := shl_small hji5
            have hji5y : (wrap64 (8 * 2 ^ min x5_1.toNat 64)) = ji5 := (i64_w _).symm.trans hji5_
            have hji5x : x5_1 ≤ 64 → (wrap64 (8 * 2 ^ x5_1.toNat)) = ji5 := fun h_ => (i64_w _).symm.trans (hji5z h_)
            by_cases c6 : (wrap64 (3 + (ji5))) ≤ a0
            · rw [if_pos c6] at H
              have c6b0 : decide ((wrap64 (3 + (ji5))) ≤ a0) = true := decide_eq_true c6
              clear c6
              have H' := Aside0.mk H
              clear H
              go_wp2
              repeat (go_quiet (fail); try go_wp2)
              go_roundg k1
              case measure => have := HK1.out; omega
              case rel => exact ⟨(wrap64 (x5_1 + 1)), (by first | rfl | (simp; done) | (simp [*]; done)), H', ⟨by have := HK1.out; omega⟩, by repeat (first | exact Drawn0.refl _ | apply Drawn0.step)⟩
            · rw [if_neg c6] at H
              have c6b0 : decide ((wrap64 (3 + (ji5))) ≤ a0) = false := decide_eq_false c6
              clear c6
              have c7b0 := eq_true (of_decide_eq_true (by first | (with_reducible assumption) | assumption) : 0 ≤ x5_1)
              obtain ⟨ji8, hji8⟩ : ∃ j_ : Int, (shl .i64 4 x5_1) = j_ := ⟨_, rfl⟩
              replace H : (some (wrap64 ((wrap64 (261 + (wrap64 (4 * x5_1)))) + (shr .i64 (wrap64 ((wrap64 (a0 - 3)) - (ji8))) x5_1)), Go.bits .and .i64 (wrap64 ((wrap64 (a0 - 3)) - (ji8))) (wrap64 ((shl .i64 1 x5_1) - 1)), x5_1)) = some (r1, r2, r3) := by first | (rw [hji8] at H; exact H) | (simp only [hji8] at H ⊢; exact H)
              have hji8_ : (IntKind.i64.wrap (4 * 2 ^ min x5_1.toNat 64)) = ji8 := hji8
              have hji8z : x5_1 ≤ 64 → (IntKind.i64.wrap (4 * 2 ^ x5_1.toNat)) = ji8 := shl_small hji8
              have hji8y : (wrap64 (4 * 2 ^ min x5_1.toNat 64)) = ji8 := (i64_w _).symm.trans hji8_
              have hji8x : x5_1 ≤ 64 → (wrap64 (4 * 2 ^ x5_1.toNat)) = ji8 := fun h_ => (i64_w _).symm.trans (hji8z h_)
              have c9b0 := eq_true (of_decide_eq_true (by first | (with_reducible assumption) | assumption) : 0 ≤ x5_1)
              obtain ⟨ji10, hji10⟩ : ∃ j_ : Int, (shr .i64 (wrap64 ((wrap64 (a0 - 3)) - (ji8))) x5_1) = j_ := ⟨_, rfl⟩
              replace H : (some (wrap64 ((wrap64 (261 + (wrap64 (4 * x5_1)))) + (ji10)), Go.bits .and .i64 (wrap64 ((wrap64 (a0 - 3)) - (ji8))) (wrap64 ((shl .i64 1 x5_1) - 1)), x5_1)) = some (r1, r2, r3) := by first | (rw [hji10] at H; exact H) | (simp only [hji10] at H ⊢; exact H)
              have hji10_ : ((wrap64 ((wrap64 (a0 - 3)) - (ji8))) / 2 ^ min x5_1.toNat 64) = ji10 := hji10
              have hji10z : x5_1 ≤ 64 → ((wrap64 ((wrap64 (a0 - 3)) - (ji8))) / 2 ^ x5_1.toNat) = ji10 := shr_small hji10
              have c11b0 := eq_true (of_decide_eq_true (by first | (with_reducible assumption) | assumption) : 0 ≤ x5_1)
              obtain ⟨ji12, hji12⟩ : ∃ j_ : Int, (shl .i64 1 x5_1) = j_ := ⟨_, rfl⟩
              replace H : (some (wrap64 ((wrap64 (261 + (wrap64 (4 * x5_1)))) + (ji10)), Go.bits .and .i64 (wrap64 ((wrap64 (a0 - 3)) - (ji8))) (wrap64 ((ji12) - 1)), x5_1)) = some (r1, r2, r3) := by first | (rw [hji12] at H; exact H) | (simp only [hji12] at H ⊢; exact H)
              have hji12_ : (IntKind.i64.wrap (1 * 2 ^ min x5_1.toNat 64)) = ji12 := hji12
              have hji12z : x5_1 ≤ 64 → (IntKind.i64.wrap (1 * 2 ^ x5_1.toNat)) = ji12 := shl_small hji12
              have hji12u : (IntKind.i64.wrap (2 ^ min x5_1.toNat 64)) = ji12 := by have h_ := hji12_; rw [Int.one_mul] at h_; exact h_
              have hji12v : x5_1 ≤ 64 → (IntKind.i64.wrap (2 ^ x5_1.toNat)) = ji12 := fun hle_ => by have h_ := hji12z hle_; rw [Int.one_mul] at h_; exact h_
              have hji12y : (wrap64 (1 * 2 ^ min x5_1.toNat 64)) = ji12 := (i64_w _).symm.trans hji12_
              have hji12x : x5_1 ≤ 64 → (wrap64 (1 * 2 ^ x5_1.toNat)) = ji12 := fun h_ => (i64_w _).symm.trans (hji12z h_)
              simp only [Option.some.injEq, Prod.mk.injEq] at H
              obtain ⟨rfl, rfl, rfl⟩ := H
              go_wp2
              repeat (go_quiet (fail); try go_wp2)
              go_ret3
              exact ⟨by first | rfl | (simp; done) | (simp only [← hji5, ← hji8, ← hji10, ← hji12] <;> (first | rfl | simp)) | (simp [*]; done), by repeat (first | exact Drawn0.refl _ | apply Drawn0.step)⟩
          · rw [if_neg c4] at H
            exact absurd H (by simp)

/-! ### postroadlaw04_distance: function 16 -/
def postroadlaw04_distance.l0 : Nat → Int → Int → Option (Int × Int × Int)
  | 0, _, _ => none
  | k + 1, x0, x5 => if 0 ≤ x5 then (if (wrap64 (1 + (shl .i64 4 x5))) ≤ x0 then (postroadlaw04_distance.l0 k x0 (wrap64 (x5 + 1))) else (some (wrap64 ((wrap64 (2 + (wrap64 (2 * x5)))) + (shr .i64 (wrap64 ((wrap64 (x0 - 1)) - (shl .i64 2 x5))) x5)), Go.bits .and .i64 (wrap64 ((wrap64 (x0 - 1)) - (shl .i64 2 x5))) (wrap64 ((shl .i64 1 x5) - 1)), x5))) else (none)
def postroadlaw04_distance.f (k : Nat) (a0 : Int) : Option (Int × Int × Int) := if a0 < 5 then (some (wrap64 (a0 - 1), 0, 0)) else (postroadlaw04_distance.l0 k a0 1)
theorem postroadlaw04_distance.mono_l : ∀ k, (∀ y0 y1, LeO (postroadlaw04_distance.l0 k y0 y1) (postroadlaw04_distance.l0 (k + 1) y0 y1))
  | 0 => fun _ _ r h => by simp [postroadlaw04_distance.l0] at h
  | k + 1 => by
    have ih0 := postroadlaw04_distance.mono_l k
    · intro y0 y1
      unfold postroadlaw04_distance.l0
      repeat' first
      | (with_reducible exact ih0 _ _)
      | (with_reducible exact LeO.refl _)
      | (with_reducible exact LeO.none _)
      | (with_reducible refine LeO.ite ?_ ?_)
      | (with_reducible refine LeO.bind ?_ (fun _ => ?_))
      | exact ih0 _ _
      | exact LeO.none _
      | refine LeO.ite ?_ ?_
      | refine LeO.bind ?_ (fun _ => ?_)
theorem postroadlaw04_distance.mono : ∀ a0 k, LeO (postroadlaw04_distance.f k a0) (postroadlaw04_distance.f (k + 1) a0) := by
  intro a0 k
  have ih0 := postroadlaw04_distance.mono_l k
  unfold postroadlaw04_distance.f
  repeat' first
      | (with_reducible exact ih0 _ _)
      | (with_reducible exact LeO.refl _)
      | (with_reducible exact LeO.none _)
      | (with_reducible refine LeO.ite ?_ ?_)
      | (with_reducible refine LeO.bind ?_ (fun _ => ?_))
      | exact ih0 _ _
      | exact LeO.none _
      | refine LeO.ite ?_ ?_
      | refine LeO.bind ?_ (fun _ => ?_)
set_option maxHeartbeats 8000000 in
set_option maxRecDepth 100000 in
theorem postroadlaw04_distance.calls (k : Nat) (a0 : Int) (r1 : Int) (r2 : Int) (r3 : Int) (w : World) (h : postroadlaw04_distance.f k a0 = some (r1, r2, r3)) :
    Calls Try.prog 16 #[.int .i64 a0] w fun e w' => e = .returned (.tuple #[.int .i64 r1, .int .i64 r2, .int .i64 r3]) ∧ Drawn0 w w' := by
  have H : (if a0 < 5 then (some (wrap64 (a0 - 1), 0, 0)) else (postroadlaw04_distance.l0 k a0 1)) = some (r1, r2, r3) := h
  clear h
  by_cases c2 : a0 < 5
  · rw [if_pos c2] at H
    have c2b0 : decide (a0 < 5) = true := decide_eq_true c2
    clear c2
    simp only [Option.some.injEq, Prod.mk.injEq] at H
    obtain ⟨rfl, rfl, rfl⟩ := H
    go_enter Try.func16, Try.ntmps16
    go_wp2
    repeat (go_quiet (fail); try go_wp2)
    go_ret3
    exact ⟨by first | rfl | (simp; done) | (simp [*]; done), by repeat (first | exact Drawn0.refl _ | apply Drawn0.step)⟩
  · rw [if_neg c2] at H
    have c2b0 : decide (a0 < 5) = false := decide_eq_false c2
    clear c2
    have H' := Aside0.mk H
    clear H
    go_enter Try.func16, Try.ntmps16
    go_wp2
    repeat (go_quiet (fail); try go_wp2)
    go_loopg [5] k (fun kq v5 w' => ∃ (x5_1 : Int), v5 = .int .i64 x5_1 ∧ Aside0 (postroadlaw04_distance.l0 kq a0 x5_1 = some (r1, r2, r3)) ∧ Aside0 (kq ≤ k) ∧ Drawn0 w w')
    case atStart => exact ⟨(1), (by first | rfl | (simp; done) | (simp [*]; done)), H', ⟨Nat.le_refl _⟩, by repeat (first | exact Drawn0.refl _ | apply Drawn0.step)⟩
    case round =>
      clear H'
      try clear c1
      try clear c2
      try clear c2b0
      try clear p2
      obtain ⟨x5_1, rfl, HA, HK1, ⟨m1, rfl⟩⟩ := hrel
      cases gk with
      | zero => exact absurd HA.out (by simp [postroadlaw04_distance.l0])
      | succ k1 =>
        have H := HA.out
        clear HA
        simp only [postroadlaw04_distance.l0] at H
        by_cases c3 : 0 ≤ x5_1
        · rw [if_pos c3] at H
          have c3b0 := eq_true c3
          have c3b1 : decide (0 ≤ x5_1) = true := decide_eq_true c3
          clear c3
          obtain ⟨ji4, hji4⟩ : ∃ j_ : Int, (shl .i64 4 x5_1) = j_ := ⟨_, rfl⟩
          replace H : (if (wrap64 (1 + (ji4))) ≤ a0 then (postroadlaw04_distance.l0 k1 a0 (wrap64 (x5_1 + 1))) else (some (wrap64 ((wrap64 (2 + (wrap64 (2 * x5_1)))) + (shr .i64 (wrap64 ((wrap64 (a0 - 1)) - (shl .i64 2 x5_1))) x5_1)), Go.bits .and .i64 (wrap64 ((wrap64 (a0 - 1)) - (shl .i64 2 x5_1))) (wrap64 ((shl .i64 1 x5_1) - 1)), x5_1))) = some (r1, r2, r3) := by first | (rw [hji4] at H; exact H) | (simp only [hji4] at H ⊢; exact H)
          have hji4_ : (IntKind.i64.wrap (4 * 2 ^ min x5_1.toNat 64)) = ji4 := hji4
          have hji4z : x5_1 ≤ 64 → (IntKind.i64.wrap (4 * 2 ^ x5_1.toNat)) = ji4 := shl_small hji4
          have hji4y : (wrap64 (4 * 2 ^ min x5_1.toNat 64)) = ji4 := (i64_w _).symm.trans hji4_
          have hji4x : x5_1 ≤ 64 → (wrap64 (4 * 2 ^ x5_1.toNat)) = ji4 := fun h_ => (i64_w _).symm.trans (hji4z h_)
          by_cases c5 : (wrap64 (1 + (ji4))) ≤ a0
          · rw [if_pos c5] at H
            have c5b0 : decide ((wrap64 (1 + (ji4))) ≤ a0) = true := decide_eq_true c5
            clear c5
            have H' := Aside0.mk H
            clear H
            go_wp2
            repeat (go_quiet (fail); try go_wp2)
            go_roundg k1
            case measure => have := HK1.out; omega
            case rel => exact ⟨(wrap64 (x5_1 + 1)), (by first | rfl | (simp; done) | (simp [*]; done)), H', ⟨by have := HK1.out; omega⟩, by repeat (first | exact Drawn0.refl _ | apply Drawn0.step)⟩
          · rw [if_neg c5] at H
            have c5b0 : decide ((wrap64 (1 + (ji4))) ≤ a0) = false := decide_eq_false c5
            clear c5
            have c6b0 := eq_true (of_decide_eq_true (by first | (with_reducible assumption) | assumption) : 0 ≤ x5_1)
            obtain ⟨ji7, hji7⟩ : ∃ j_ : Int, (shl .i64 2 x5_1) = j_ := ⟨_, rfl⟩
            replace H : (some (wrap64 ((wrap64 (2 + (wrap64 (2 * x5_1)))) + (shr .i64 (wrap64 ((wrap64 (a0 - 1)) - (ji7))) x5_1)), Go.bits .and .i64 (wrap64 ((wrap64 (a0 - 1)) - (ji7))) (wrap64 ((shl .i64 1 x5_1) - 1)), x5_1)) = some (r1, r2, r3) := by first | (rw [hji7] at H; exact H) | (simp only [hji7] at H ⊢; exact H)
            have hji7_ : (IntKind.i64.wrap (2 * 2 ^ min x5_1.toNat 64)) = ji7 := hji7
            have hji7z : x5_1 ≤ 64 → (IntKind.i64.wrap (2 * 2 ^ x5_1.toNat)) = ji7 := shl_small hji7
            have hji7y : (wrap64 (2 * 2 ^ min x5_1.toNat 64)) = ji7 := (i64_w _).symm.trans hji7_
            have hji7x : x5_1 ≤ 64 → (wrap64 (2 * 2 ^ x5_1.toNat)) = ji7 := fun h_ => (i64_w _).symm.trans (hji7z h_)
            have c8b0 := eq_true (of_decide_eq_true (by first | (with_reducible assumption) | assumption) : 0 ≤ x5_1)
            obtain ⟨ji9, hji9⟩ : ∃ j_ : Int, (shr .i64 (wrap64 ((wrap64 (a0 - 1)) - (ji7))) x5_1) = j_ := ⟨_, rfl⟩
            replace H : (some (wrap64 ((wrap64 (2 + (wrap64 (2 * x5_1)))) + (ji9)), Go.bits .and .i64 (wrap64 ((wrap64 (a0 - 1)) - (ji7))) (wrap64 ((shl .i64 1 x5_1) - 1)), x5_1)) = some (r1, r2, r3) := by first | (rw [hji9] at H; exact H) | (simp only [hji9] at H ⊢; exact H)
            have hji9_ : ((wrap64 ((wrap64 (a0 - 1)) - (ji7))) / 2 ^ min x5_1.toNat 64) = ji9 := hji9
            have hji9z : x5_1 ≤ 64 → ((wrap64 ((wrap64 (a0 - 1)) - (ji7))) / 2 ^ x5_1.toNat) = ji9 := shr_small hji9
            have c10b0 := eq_true (of_decide_eq_true (by first | (with_reducible assumption) | assumption) : 0 ≤ x5_1)
            obtain ⟨ji11, hji11⟩ : ∃ j_ : Int, (shl .i64 1 x5_1) = j_ := ⟨_, rfl⟩
            replace H : (some (wrap64 ((wrap64 (2 + (wrap64 (2 * x5_1)))) + (ji9)), Go.bits .and .i64 (wrap64 ((wrap64 (a0 - 1)) - (ji7))) (wrap64 ((ji11) - 1)), x5_1)) = some (r1, r2, r3) := by first | (rw [hji11] at H; exact H) | (simp only [hji11] at H ⊢; exact H)
            have hji11_ : (IntKind.i64.wrap (1 * 2 ^ min x5_1.toNat 64)) = ji11 := hji11
            have hji11z : x5_1 ≤ 64 → (IntKind.i64.wrap (1 * 2 ^ x5_1.toNat)) = ji11 := shl_small hji11
            have hji11u : (IntKind.i64.wrap (2 ^ min x5_1.toNat 64)) = ji11 := by have h_ := hji11_; rw [Int.one_mul] at h_; exact h_
            have hji11v : x5_1 ≤ 64 → (IntKind.i64.wrap (2 ^ x5_1.toNat)) = ji11 := fun hle_ => by have h_ := hji11z hle_; rw [Int.one_mul] at h_; exact h_
            have hji11y : (wrap64 (1 * 2 ^ min x5_1.toNat 64)) = ji11 := (i64_w _).symm.trans hji11_
            have hji11x : x5_1 ≤ 64 → (wrap64 (1 * 2 ^ x5_1.toNat)) = ji11 := fun h_ => (i64_w _).symm.trans (hji11z h_)
            simp only [Option.some.injEq, Prod.mk.injEq] at H
            obtain ⟨rfl, rfl, rfl⟩ := H
            go_wp2
            repeat (go_quiet (fail); try go_wp2)
            go_ret3
            exact ⟨by first | rfl | (simp; done) | (simp only [← hji4, ← hji7, ← hji9, ← hji11] <;> (first | rfl | simp)) | (simp [*]; done), by repeat (first | exact Drawn0.refl _ | apply Drawn0.step)⟩
        · rw [if_neg c3] at H
          exact absurd H (by simp)

end Go.Proofs.Yteffjbjhkaobfaa.Fn
