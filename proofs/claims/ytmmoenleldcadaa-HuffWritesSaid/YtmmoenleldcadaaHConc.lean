/- slices.Grow, slices.Concat of numbers and of packs: walked. (printed by hconc.py) -/
import Derived.Test.YtmmoenleldcadaaHStab
import Derived.Lib.AppendZeros
namespace Go.Proofs.Ytmmoenleldcadaa.HF
open Go.RowKit Go.Proofs.YtmmoenleldcadaaW.PrintWords Go.Proofs.YtmmoenleldcadaaW.PrintLast Go.Proofs.YtmmoenleldcadaaW.PrintMore Go.Proofs.Ytmmoenleldcadaa.HW Go.Proofs.Ytmmoenleldcadaa.MB Go.Proofs.Ytmmoenleldcadaa.Fn
attribute [local go_sem] max2_int min2_int max_two min_two max_three min_three max_four min_four   -- for this text's walks alone
/-- A new row is handed back. -/
def GQ {α : Type} (d : Kd α) (t : TypeId) (W : World) (xs : List α) (e : Ending) (w' : World) : Prop := ∃ v, e = .returned v ∧ d.R t w' W.heap.size (fun _ => True) v xs ∧ Below W.heap.size W w'
theorem infoPk : (Try.prog.info? 63).map (fun i => (i.zero, i.size, i.bytes)) = some (some (.agg #[.int .i64 0, .slice none 0 0]), 2, 32) := by kernel_rfl
/-- An empty row with room. -/
theorem room_row {α : Type} (d : Kd α) {W : World} {t : TypeId} {b cap : Nat} {cur : Array Value} (hb : b ≤ W.heap.size) (hc : cap ≤ maxLen) (hs : cur.size = cap * d.sz) :
    d.R t (W.alloc (.cells cur t)) b (fun _ => True) (.slice (some ⟨W.heap.size, 0, none⟩) 0 cap) [] :=
  ⟨fun _ _ => trivial, [], ⟨by simp, .inr ⟨W.heap.size, cap, cur, rfl, hb, heap_alloc_new W _, Nat.zero_le _, hc, hs, by simp⟩⟩, ⟨by simp, fun j p hj => by simp at hj⟩⟩
set_option maxRecDepth 100000 in
set_option maxHeartbeats 8000000 in
theorem growI_ok {W : World} (n : Nat) (hn : n ≤ 1000000) : Calls Try.prog 55 #[.slice none 0 0, .int .i64 n] W (GQ (Kd.int .i64) 3 W []) := by
  obtain ⟨i0, hi, hzz⟩ := Option.map_eq_some_iff.1 info3
  simp only [Prod.mk.injEq] at hzz
  have hz0 := hzz.1
  have hz1 := hzz.2.1
  have hz2 := hzz.2.2
  have HN := Aside0.mk hn
  have hw : IntKind.i64.wrap (n : Int) = n := IntWalk.i64_in _ (by omega)
  by_cases h0 : 0 < n
  · have happ := Aside0.mk (Lib.run_append_nil_zeros (P := Try.prog) W 22 3 22 3 i0 (.int .i64 0) .i64 .i64 Try.underlying22 Try.underlying3 hi hz0 n h0 (by omega) (by omega) (by rw [hz2]; omega))
    have HC := Aside0.mk (grownCap_le_maxLen W n 0 3 (by simp only [maxLen]; omega))
    have HG := Aside0.mk (grownCap_ge W n 0 3)
    obtain ⟨cap, hcap⟩ : ∃ cap, grownCap W n 0 3 = cap := ⟨_, rfl⟩
    rw [hcap] at happ HC HG
    have hb1 : decide ((n : Int) < 0) = false := by simp
    have hb2 : decide ((0 : Int) < (n : Int)) = true := by simp; omega
    have hb3 : decide (0 < n) = true := by simp; omega
    clear hcap hzz hz0 hz1 hz2 hi
    go_enter Try.func55, Try.ntmps55
    go_wp2_with ((with_reducible refine gate_builtin (b := .append) (xs := #[.tmp 20, .tmp 21]) rfl ?_); at_builtin; refine Lib.wpList_append_run _ rfl (.tmp 20) (.tmp 21) 22 3 rfl (.slice none 0 0) (.int .i64 n) (by first | rfl | (go_simp; done)) (by first | rfl | (go_simp; done)) _ _ happ.out ?_)
    go_ret
    refine ⟨_, rfl, room_row (Kd.int .i64) (by simp) HC.out ?_, below_alloc (below_drew (Below.refl _ _)) _⟩
    rw [Array.size_append, size_zeroCells, size_zeroCells]
    show n * 1 + (cap - n) * 1 = cap * 1
    have := HG.out
    omega
  · obtain rfl : n = 0 := by omega
    go_enter Try.func55, Try.ntmps55
    go_wp2_with fail
    go_ret
    exact ⟨_, rfl, Kd.R_nil _ _ _ _ _, Below.refl _ _⟩
set_option maxRecDepth 100000 in
set_option maxHeartbeats 16000000 in
theorem concI_ok {W : World} {g : Nat} {A1 A2 : Option Addr} {n1 c1 n2 c2 : Nat} (l1 l2 : List Int) (hg1 : W.cell? ⟨g, 0, none⟩ = some (.slice A1 n1 c1)) (hg2 : W.cell? ⟨g, 1, none⟩ = some (.slice A2 n2 c2))
    (hl1 : (Kd.int .i64).C W A1 n1 l1) (hc1 : n1 ≤ c1) (hl2 : (Kd.int .i64).C W A2 n2 l2) (hc2 : n2 ≤ c2) (h1 : n1 ≤ 400000) (h2 : n2 ≤ 400000) :
    Calls Try.prog 40 #[.slice (some ⟨g, 0, none⟩) 2 2] W (GQ (Kd.int .i64) 3 W (l1 ++ l2)) := by
  have HL1 := Aside0.mk hl1
  have HL2 := Aside0.mk hl2
  have HE1 := Aside0.mk hl1.1
  have HE2 := Aside0.mk hl2.1
  have HGR := Aside0.mk (fun (w : World) (n : Nat) (h : n ≤ 1000000) => growI_ok (W := w) n h)
  have HCC := Aside0.mk (And.intro hc1 hc2)
  clear hl1 hl2 hc1 hc2
  go_enter Try.func40, Try.ntmps40
  go_wp2_with fail
  go_loopw [3, 11] (fun v3 v11 wr => ∃ k sz : Nat, v3 = .int .i64 sz ∧ v11 = .int .i64 k ∧ Aside0 ((k = 0 ∧ sz = 0) ∨ (k = 1 ∧ sz = n1) ∨ (k = 2 ∧ sz = n1 + n2)) ∧ W = wr) (fun _ v11 _ => 2 - (intOf v11).toNat)
  case atStart => exact ⟨0, 0, rfl, rfl, ⟨Or.inl ⟨rfl, rfl⟩⟩, rfl⟩
  case round =>
    obtain ⟨k, sz, rfl, rfl, HK, hW⟩ := hrel
    subst hW
    rcases HK.out with ⟨rfl, rfl⟩ | ⟨rfl, rfl⟩ | ⟨rfl, rfl⟩
    · clear HK
      have hb1 : decide (((n1 : Nat) : Int) < 0) = false := by simp
      have hw1 : IntKind.i64.wrap (n1 : Int) = n1 := IntWalk.i64_in _ (by omega)
      go_wp2_with fail
      go_roundw
      case rel => exact ⟨1, n1, by simp, rfl, ⟨Or.inr (Or.inl ⟨rfl, rfl⟩)⟩, by trivial⟩
      case measure => simp [intOf]
    · clear HK
      obtain ⟨t, ht⟩ : ∃ t, sz + n2 = t := ⟨_, rfl⟩
      have ht2 : (sz : Int) + (n2 : Int) = (t : Int) := by omega
      have HT := Aside0.mk ht
      have ht3 : t ≤ 800000 := by omega
      have hb1 : decide (((t : Nat) : Int) < 0) = false := by simp
      have hw1 : IntKind.i64.wrap (t : Int) = t := IntWalk.i64_in _ (by omega)
      clear ht
      go_wp2_with fail
      go_roundw
      case rel => exact ⟨2, t, by simp, rfl, ⟨Or.inr (Or.inr ⟨rfl, HT.out.symm⟩)⟩, by trivial⟩
      case measure => simp [intOf]
    · clear HK
      obtain ⟨t, ht⟩ : ∃ t, n1 + n2 = t := ⟨_, rfl⟩
      have HT := Aside0.mk ht
      have HC := Aside0.mk (HGR.out W t (by omega))
      clear HGR
      rw [ht]
      clear ht
      go_wp2_with fail
      refine HC.out.mono ?_
      rintro e w2 ⟨v, rfl, hr, hb⟩
      have HR := Aside0.mk hr
      have HB := Aside0.mk hb
      have hq1 := pw_cell_below hb hg1
      have hq2 := pw_cell_below hb hg2
      have HG := Aside0.mk (And.intro hg1 hg2)
      clear hr hb HC hg1 hg2
      go_wp2_with fail
      go_loopw [6, 27] (fun v6 v27 wr => ∃ (k : Nat) (ys : List Int), v27 = .int .i64 k ∧ Aside0 ((k = 0 ∧ [] = ys) ∨ (k = 1 ∧ l1 = ys) ∨ (k = 2 ∧ l1 ++ l2 = ys)) ∧ Aside0 ((Kd.int .i64).R 3 wr W.heap.size (fun _ => True) v6 ys) ∧ Aside0 (Below W.heap.size W wr)) (fun _ v27 _ => 2 - (intOf v27).toNat)
      case atStart => exact ⟨0, [], rfl, ⟨Or.inl ⟨rfl, rfl⟩⟩, HR, HB⟩
      case round =>
        clear HR HB hq1 hq2
        obtain ⟨k, ys, rfl, HK, HR, HB⟩ := hrel
        have hq1 := pw_cell_below HB.out HG.out.1
        have hq2 := pw_cell_below HB.out HG.out.2
        have HA1 := Aside0.mk (Kd.C_below HL1.out HB.out)
        have HA2 := Aside0.mk (Kd.C_below HL2.out HB.out)
        rcases HK.out with ⟨rfl, rfl⟩ | ⟨rfl, rfl⟩ | ⟨rfl, rfl⟩
        · clear HK
          have hln : ([] : List Int).length + n1 ≤ 800000 := by simp; omega
          go_wp2_with ((with_reducible refine gate_builtin (b := .append) (xs := #[.tmp 31, .tmp 32]) rfl ?_); at_builtin; refine Kd.R_append_rows (Kd.int .i64) (w0 := W) W.heap.size rfl (.tmp 31) (.tmp 32) 22 3 (.int .i64 0) 8 rfl Try.underlying22 info3 rfl (by decide) (by decide) u6 [] l1 A1 n1 c1 (fun _ => True) (fun _ => False) rfl (by first | (go_simp; done) | (go_simp; rfl)) HR.out HA1.out (fun _ _ h => h) (fun _ hk => hk.elim) (fun _ _ => trivial) HB.out HB.out.size (by omega) ?_; intro v9 w9 ho hb hg hat; have HR9 := Aside0.mk ho; have HB9 := Aside0.mk hb; clear ho hb hg hat)
          go_roundw
          case rel => exact ⟨1, _, rfl, ⟨Or.inr (Or.inl ⟨rfl, (List.nil_append _).symm⟩)⟩, HR9, HB9⟩
          case measure => simp [intOf]
        · clear HK
          have hln : (l1 : List Int).length + n2 ≤ 800000 := by have := HE1.out; omega
          go_wp2_with ((with_reducible refine gate_builtin (b := .append) (xs := #[.tmp 31, .tmp 32]) rfl ?_); at_builtin; refine Kd.R_append_rows (Kd.int .i64) (w0 := W) W.heap.size rfl (.tmp 31) (.tmp 32) 22 3 (.int .i64 0) 8 rfl Try.underlying22 info3 rfl (by decide) (by decide) u6 l1 l2 A2 n2 c2 (fun _ => True) (fun _ => False) rfl (by first | (go_simp; done) | (go_simp; rfl)) HR.out HA2.out (fun _ _ h => h) (fun _ hk => hk.elim) (fun _ _ => trivial) HB.out HB.out.size (by omega) ?_; intro v9 w9 ho hb hg hat; have HR9 := Aside0.mk ho; have HB9 := Aside0.mk hb; clear ho hb hg hat)
          go_roundw
          case rel => exact ⟨2, _, rfl, ⟨Or.inr (Or.inr ⟨rfl, rfl⟩)⟩, HR9, HB9⟩
          case measure => simp [intOf]
        · clear HK
          go_wp2_with fail
          go_ret
          exact ⟨_, rfl, HR.out, HB.out⟩
set_option maxRecDepth 100000 in
set_option maxHeartbeats 8000000 in
theorem growP_ok {W : World} (n : Nat) (hn : n ≤ 1000000) : Calls Try.prog 56 #[.slice none 0 0, .int .i64 n] W (GQ kP 63 W []) := by
  obtain ⟨i0, hi, hzz⟩ := Option.map_eq_some_iff.1 infoPk
  simp only [Prod.mk.injEq] at hzz
  have hz0 := hzz.1
  have hz1 := hzz.2.1
  have hz2 := hzz.2.2
  have HN := Aside0.mk hn
  have hw : IntKind.i64.wrap (n : Int) = n := IntWalk.i64_in _ (by omega)
  by_cases h0 : 0 < n
  · have happ := Aside0.mk (Lib.run_append_nil_zeros (P := Try.prog) W 61 3 61 63 i0 (.agg #[.int .i64 0, .slice none 0 0]) .i64 .i64 Try.underlying61 Try.underlying3 hi hz0 n h0 (by omega) (by omega) (by rw [hz2]; omega))
    have HC := Aside0.mk (grownCap_le_maxLen W n 0 63 (by simp only [maxLen]; omega))
    have HG := Aside0.mk (grownCap_ge W n 0 63)
    obtain ⟨cap, hcap⟩ : ∃ cap, grownCap W n 0 63 = cap := ⟨_, rfl⟩
    rw [hcap] at happ HC HG
    have hb1 : decide ((n : Int) < 0) = false := by simp
    have hb2 : decide ((0 : Int) < (n : Int)) = true := by simp; omega
    have hb3 : decide (0 < n) = true := by simp; omega
    clear hcap hzz hz0 hz1 hz2 hi
    go_enter Try.func56, Try.ntmps56
    go_wp2_with ((with_reducible refine gate_builtin (b := .append) (xs := #[.tmp 20, .tmp 21]) rfl ?_); at_builtin; refine Lib.wpList_append_run _ rfl (.tmp 20) (.tmp 21) 61 3 rfl (.slice none 0 0) (.int .i64 n) (by first | rfl | (go_simp; done)) (by first | rfl | (go_simp; done)) _ _ happ.out ?_)
    go_ret
    refine ⟨_, rfl, room_row kP (by simp) HC.out ?_, below_alloc (below_drew (Below.refl _ _)) _⟩
    rw [Array.size_append, size_zeroCells, size_zeroCells]
    show n * 2 + (cap - n) * 2 = cap * 2
    have := HG.out
    omega
  · obtain rfl : n = 0 := by omega
    go_enter Try.func56, Try.ntmps56
    go_wp2_with fail
    go_ret
    exact ⟨_, rfl, Kd.R_nil _ _ _ _ _, Below.refl _ _⟩
set_option maxRecDepth 100000 in
set_option maxHeartbeats 16000000 in
theorem concP_ok {W : World} {g : Nat} {A1 A2 : Option Addr} {n1 c1 n2 c2 : Nat} (l1 l2 : List Pk) (hg1 : W.cell? ⟨g, 0, none⟩ = some (.slice A1 n1 c1)) (hg2 : W.cell? ⟨g, 1, none⟩ = some (.slice A2 n2 c2))
    (hl1 : kP.C W A1 n1 l1) (hc1 : n1 ≤ c1) (hl2 : kP.C W A2 n2 l2) (hc2 : n2 ≤ c2) (h1 : n1 ≤ 400000) (h2 : n2 ≤ 400000) :
    Calls Try.prog 41 #[.slice (some ⟨g, 0, none⟩) 2 2] W (GQ kP 63 W (l1 ++ l2)) := by
  have HL1 := Aside0.mk hl1
  have HL2 := Aside0.mk hl2
  have HE1 := Aside0.mk hl1.1
  have HE2 := Aside0.mk hl2.1
  have HGR := Aside0.mk (fun (w : World) (n : Nat) (h : n ≤ 1000000) => growP_ok (W := w) n h)
  have HCC := Aside0.mk (And.intro hc1 hc2)
  clear hl1 hl2 hc1 hc2
  go_enter Try.func41, Try.ntmps41
  go_wp2_with fail
  go_loopw [3, 11] (fun v3 v11 wr => ∃ k sz : Nat, v3 = .int .i64 sz ∧ v11 = .int .i64 k ∧ Aside0 ((k = 0 ∧ sz = 0) ∨ (k = 1 ∧ sz = n1) ∨ (k = 2 ∧ sz = n1 + n2)) ∧ W = wr) (fun _ v11 _ => 2 - (intOf v11).toNat)
  case atStart => exact ⟨0, 0, rfl, rfl, ⟨Or.inl ⟨rfl, rfl⟩⟩, rfl⟩
  case round =>
    obtain ⟨k, sz, rfl, rfl, HK, hW⟩ := hrel
    subst hW
    rcases HK.out with ⟨rfl, rfl⟩ | ⟨rfl, rfl⟩ | ⟨rfl, rfl⟩
    · clear HK
      have hb1 : decide (((n1 : Nat) : Int) < 0) = false := by simp
      have hw1 : IntKind.i64.wrap (n1 : Int) = n1 := IntWalk.i64_in _ (by omega)
      go_wp2_with fail
      go_roundw
      case rel => exact ⟨1, n1, by simp, rfl, ⟨Or.inr (Or.inl ⟨rfl, rfl⟩)⟩, by trivial⟩
      case measure => simp [intOf]
    · clear HK
      obtain ⟨t, ht⟩ : ∃ t, sz + n2 = t := ⟨_, rfl⟩
      have ht2 : (sz : Int) + (n2 : Int) = (t : Int) := by omega
      have HT := Aside0.mk ht
      have ht3 : t ≤ 800000 := by omega
      have hb1 : decide (((t : Nat) : Int) < 0) = false := by simp
      have hw1 : IntKind.i64.wrap (t : Int) = t := IntWalk.i64_in _ (by omega)
      clear ht
      go_wp2_with fail
      go_roundw
      case rel => exact ⟨2, t, by simp, rfl, ⟨Or.inr (Or.inr ⟨rfl, HT.out.symm⟩)⟩, by trivial⟩
      case measure => simp [intOf]
    · clear HK
      obtain ⟨t, ht⟩ : ∃ t, n1 + n2 = t := ⟨_, rfl⟩
      have HT := Aside0.mk ht
      have HC := Aside0.mk (HGR.out W t (by omega))
      clear HGR
      rw [ht]
      clear ht
      go_wp2_with fail
      refine HC.out.mono ?_
      rintro e w2 ⟨v, rfl, hr, hb⟩
      have HR := Aside0.mk hr
      have HB := Aside0.mk hb
      have hq1 := pw_cell_below hb hg1
      have hq2 := pw_cell_below hb hg2
      have HG := Aside0.mk (And.intro hg1 hg2)
      clear hr hb HC hg1 hg2
      go_wp2_with fail
      go_loopw [6, 27] (fun v6 v27 wr => ∃ (k : Nat) (ys : List Pk), v27 = .int .i64 k ∧ Aside0 ((k = 0 ∧ [] = ys) ∨ (k = 1 ∧ l1 = ys) ∨ (k = 2 ∧ l1 ++ l2 = ys)) ∧ Aside0 (kP.R 63 wr W.heap.size (fun _ => True) v6 ys) ∧ Aside0 (Below W.heap.size W wr)) (fun _ v27 _ => 2 - (intOf v27).toNat)
      case atStart => exact ⟨0, [], rfl, ⟨Or.inl ⟨rfl, rfl⟩⟩, HR, HB⟩
      case round =>
        clear HR HB hq1 hq2
        obtain ⟨k, ys, rfl, HK, HR, HB⟩ := hrel
        have hq1 := pw_cell_below HB.out HG.out.1
        have hq2 := pw_cell_below HB.out HG.out.2
        have HA1 := Aside0.mk (Kd.C_below HL1.out HB.out)
        have HA2 := Aside0.mk (Kd.C_below HL2.out HB.out)
        rcases HK.out with ⟨rfl, rfl⟩ | ⟨rfl, rfl⟩ | ⟨rfl, rfl⟩
        · clear HK
          have hln : ([] : List Pk).length + n1 ≤ 800000 := by simp; omega
          go_wp2_with ((with_reducible refine gate_builtin (b := .append) (xs := #[.tmp 31, .tmp 32]) rfl ?_); at_builtin; refine Kd.R_append_rows kP (w0 := W) W.heap.size rfl (.tmp 31) (.tmp 32) 61 63 (.agg #[.int .i64 0, .slice none 0 0]) 32 rfl Try.underlying61 infoPk rfl (by decide) (by decide) u6 [] l1 A1 n1 c1 (fun _ => True) (fun _ => False) rfl (by first | (go_simp; done) | (go_simp; rfl)) HR.out HA1.out (fun _ _ h => by rw [kP_open h]; exact kP_mkM _ _ _ _) (fun _ hk => hk.elim) (fun _ _ => trivial) HB.out HB.out.size (by omega) ?_; intro v9 w9 ho hb hg hat; have HR9 := Aside0.mk ho; have HB9 := Aside0.mk hb; clear ho hb hg hat)
          go_roundw
          case rel => exact ⟨1, _, rfl, ⟨Or.inr (Or.inl ⟨rfl, (List.nil_append _).symm⟩)⟩, HR9, HB9⟩
          case measure => simp [intOf]
        · clear HK
          have hln : (l1 : List Pk).length + n2 ≤ 800000 := by have := HE1.out; omega
          go_wp2_with ((with_reducible refine gate_builtin (b := .append) (xs := #[.tmp 31, .tmp 32]) rfl ?_); at_builtin; refine Kd.R_append_rows kP (w0 := W) W.heap.size rfl (.tmp 31) (.tmp 32) 61 63 (.agg #[.int .i64 0, .slice none 0 0]) 32 rfl Try.underlying61 infoPk rfl (by decide) (by decide) u6 l1 l2 A2 n2 c2 (fun _ => True) (fun _ => False) rfl (by first | (go_simp; done) | (go_simp; rfl)) HR.out HA2.out (fun _ _ h => by rw [kP_open h]; exact kP_mkM _ _ _ _) (fun _ hk => hk.elim) (fun _ _ => trivial) HB.out HB.out.size (by omega) ?_; intro v9 w9 ho hb hg hat; have HR9 := Aside0.mk ho; have HB9 := Aside0.mk hb; clear ho hb hg hat)
          go_roundw
          case rel => exact ⟨2, _, rfl, ⟨Or.inr (Or.inr ⟨rfl, rfl⟩)⟩, HR9, HB9⟩
          case measure => simp [intOf]
        · clear HK
          go_wp2_with fail
          go_ret
          exact ⟨_, rfl, HR.out, HB.out⟩
end Go.Proofs.Ytmmoenleldcadaa.HF
