/- huff.Table's Put: walked. -/
import Derived.Test.YtmmoenleldcadaaGT
import Derived.Test.YtmmoenleldcadaaHWBitsS
import Derived.Test.YtmmoenleldcadaaPWd
namespace Go.Proofs.Ytmmoenleldcadaa.HF
open Go.RowKit Go.Proofs.YtmmoenleldcadaaW.PrintWords Go.Proofs.YtmmoenleldcadaaW.PrintLast Go.Proofs.YtmmoenleldcadaaW.PrintMore Go.Proofs.Ytmmoenleldcadaa.HW Go.Proofs.Ytmmoenleldcadaa.MB Go.Proofs.Ytmmoenleldcadaa.Fn
attribute [local go_sem] max2_int min2_int max_two min_two max_three min_three max_four min_four   -- for this text's walks alone
theorem IsTab.keepW {W W' : World} {B B2 t g : Nat} {lens : List Int} {lv wv sv v : Value} {l : List Bool} (h : IsTab W B t lens lv wv sv) (hw : IsW W B2 g v l) (hf : Fr (WS g v) W W') : IsTab W' B t lens lv wv sv := by
  refine h.keep hf (fun k hk e => ?_)
  rcases e with e | e
  · exact h.other hw.1 (by decide) (by decide) (e ▸ hk)
  · obtain ⟨_, _, bs, ho, _⟩ := hw
    obtain ⟨cells, hc⟩ := own_typed ho k e
    exact h.other hc (by decide) (by decide) hk
theorem WS_then {W w w' : World} {g : Nat} {v v1 : Value} (h : Fr (WS g v) W w) (k : Fr (WS g v1) w w') (ha : AtB W v v1) : Fr (WS g v) W w' :=
  h.then_ k (fun q hq => by
    rcases hq with hq | hq
    · exact Or.inl (Or.inl hq)
    · rcases ha with ha | ⟨b, hb, hb2⟩
      · exact Or.inl (Or.inr (ha ▸ hq))
      · rw [hb] at hq
        injection hq with hq
        subst hq
        exact Or.inr hb2)
/-- What Put of a symbol with a word tells. -/
def PuQ (c L B2 g : Nat) (v : Value) (l : List Bool) (W : World) (e : Ending) (w' : World) : Prop :=
  e = .returned (.int .i64 0) ∧ ∃ v', IsW w' B2 g v' (l ++ wordB c L) ∧ Fr (WS g v) W w' ∧ AtB W v v'
structure PuS (W w : World) (B B2 t g : Nat) (lens : List Int) (lv wv sv : Value) (v v1 : Value) (l pre : List Bool) : Prop where
  tb : IsTab w B t lens lv wv sv
  iw : IsW w B2 g v1 (l ++ pre)
  fr : Fr (WS g v) W w
  at_ : AtB W v v1
  le : W.heap.size ≤ w.heap.size
set_option maxRecDepth 100000 in
set_option maxHeartbeats 8000000 in
theorem put_ok {W : World} {B B2 t g : Nat} {lens : List Int} {lv wv sv v : Value} {l : List Bool} (h : IsTab W B t lens lv wv sv) (hw : IsW W B2 g v l) (hl : l.length ≤ 100000000000) (hB : B2 ≤ W.heap.size) (x c L : Nat) (hx : x < lens.length) (hL : rd lens (x : Int) = (L : Int)) (h0 : 0 < L) (h15 : L ≤ 15)
    (hc : rd (codesL lens) (x : Int) = (c : Int)) (hc15 : c < 2 ^ 63) (hn : lens.length ≤ 288) :
    Calls Try.prog 30 #[.pointer (some ⟨t, 0, none⟩), .pointer (some ⟨g, 0, none⟩), .int .i64 x] W (PuQ c L B2 g v l W) := by
  have HS0 := Aside0.mk (PuS.mk (W := W) (v := v) (l := l) (pre := []) h (by rw [List.append_nil]; exact hw) (Fr.refl _ _) (AtB.refl _ _) (Nat.le_refl _))
  have HLL := Aside0.mk hl
  have HBB := Aside0.mk hB
  have HC15 := Aside0.mk hc15
  have HCC := Aside0.mk hc
  have c0 := h.bt.c0
  obtain ⟨lA, lc, hlv⟩ := Kd.R_slice h.rl
  have hrl := (Kd.R_reads' (hlv ▸ h.rl)).2.2
  obtain ⟨ad1, hA1, x0⟩ := Kd.at_int hrl (x : Int) (by omega) (by omega)
  subst hA1
  rw [hL] at x0
  simp only [Int.toNat_natCast] at x0
  rw [hlv] at c0
  obtain ⟨wA, wk, hwv⟩ := Kd.R_slice h.rw
  have HWV := Aside0.mk hwv
  have b1 : decide ((x : Int) < 0) = false := decide_eq_false (by omega)
  have b1' : ¬ (x : Int) < 0 := by omega
  have b2 : decide ((lens.length : Int) ≤ (x : Int)) = false := decide_eq_false (by omega)
  have b2' : ¬ (lens.length : Int) ≤ (x : Int) := by omega
  have b3 : decide ((L : Int) = 0) = false := decide_eq_false (by omega)
  have b3' : ¬ (L : Int) = 0 := by omega
  have hx0 : (0 : Int) ≤ (x : Int) := by omega
  have hx1 : (x : Int) < (lens.length : Int) := by omega
  have HXN := Aside0.mk (And.intro hx hn)
  have HL0 := Aside0.mk (And.intro h0 h15)
  have u1 : IntKind.i64.wrap ((L : Int) - 1) = (L : Int) - 1 := IntWalk.i64_in _ (by omega)
  clear h hw hl hB hlv hrl hwv hL hc hc15 hx h0 h15 hn
  go_enter Try.func30, Try.ntmps30
  go_wp2_with fail
  go_loopw [8] (fun v8 wr => ∃ (kk : Int) (q : Nat) (v1 : Value) (pre : List Bool), v8 = .int .i64 kk ∧ kk = (q : Int) - 1 ∧ q ≤ 15 ∧ Aside0 (PuS W wr B B2 t g lens lv wv sv v v1 l pre) ∧ Aside0 (pre ++ wordB c q = wordB c L)) (fun v8 _ => (intOf v8 + 1).toNat)
  case atStart => exact ⟨_, L, v, [], rfl, rfl, HL0.out.2, HS0, ⟨rfl⟩⟩
  case round =>
    clear HS0 c0 x0 u1
    obtain ⟨kk, q, v1, pre, rfl, hkq, hq15, HS, HP⟩ := hrel
    by_cases hk : 0 ≤ kk
    · have hb4 : decide (0 ≤ kk) = true := decide_eq_true hk
      obtain ⟨r, rfl⟩ : ∃ r, q = r + 1 := ⟨q - 1, by omega⟩
      obtain rfl : kk = (r : Int) := by omega
      have c1 := HS.out.tb.bt.c1
      rw [HWV.out] at c1
      have hrw := (Kd.R_reads' (HWV.out ▸ HS.out.tb.rw)).2.2
      have hcl := codesL_len lens
      obtain ⟨ad2, hA2, x1⟩ := Kd.at_int hrw (x : Int) (by omega) (by have := HXN.out.1; omega)
      subst hA2
      rw [HCC.out] at x1
      simp only [Int.toNat_natCast] at x1
      rw [hcl] at c1
      have hr57 : r ≤ 57 := by omega
      have ha := and_bit c r HC15.out
      obtain ⟨bn, hbn⟩ : ∃ bn, bnat (c.testBit r) = bn := ⟨_, rfl⟩
      rw [hbn] at ha
      have u2 : IntKind.i64.wrap ((r : Int) - 1) = (r : Int) - 1 := IntWalk.i64_in _ (by omega)
      have HPL : Aside0 ((l ++ pre).length ≤ 1000000000000) := ⟨by
        have h1 := congrArg List.length HP.out
        rw [List.length_append, wordB_len, wordB_len] at h1
        have h2 := HL0.out.2
        have h3 := HLL.out
        rw [List.length_append]
        omega⟩
      have HC := Aside0.mk (bits_ok B2 g v1 (l ++ pre) bn 1 wr HS.out.iw (by decide) (by rw [← hbn]; unfold bnat; split <;> decide) HPL.out (Nat.le_trans HBB.out HS.out.le))
      have HBN := Aside0.mk hbn
      clear hrw hcl hbn hkq
      go_wp2_with fail
      refine HC.out.mono ?_
      rintro e w2 ⟨rfl, v2, hi2, hf2, ha2⟩
      have HS2 := Aside0.mk (PuS.mk (W := W) (v := v) (l := l) (pre := pre ++ [c.testBit r]) (HS.out.tb.keepW HS.out.iw hf2) (by rw [← HBN.out, bitsOf_bnat] at hi2; rw [← List.append_assoc]; exact hi2) (WS_then HS.out.fr hf2 HS.out.at_) (HS.out.at_.trans ha2 HS.out.le) (Nat.le_trans HS.out.le hf2.size))
      have HP2 : Aside0 (pre ++ [c.testBit r] ++ wordB c r = wordB c L) := ⟨by rw [List.append_assoc]; exact HP.out⟩
      clear hi2 hf2 ha2 HC HS HP c1 x1
      go_wp2_with fail
      go_roundw
      case rel => exact ⟨(r : Int) - 1, r, v2, _, rfl, rfl, by omega, HS2, HP2⟩
      case measure => simp [intOf]
    · have hb4 : decide (0 ≤ kk) = false := decide_eq_false hk
      obtain rfl : q = 0 := by omega
      have HP2 : Aside0 (pre = wordB c L) := ⟨by have := HP.out; rw [wordB, List.append_nil] at this; exact this⟩
      clear hkq
      go_wp2_with fail
      go_ret
      exact ⟨rfl, v1, by rw [← HP2.out]; exact HS.out.iw, HS.out.fr, HS.out.at_⟩
set_option maxRecDepth 100000 in
set_option maxHeartbeats 8000000 in
/-- A symbol without a word is refused. -/
theorem put_bad {W : World} {B t g : Nat} {lens : List Int} {lv wv sv : Value} (h : IsTab W B t lens lv wv sv) (x : Int) (hx : ¬ (0 ≤ x ∧ x < lens.length ∧ rd lens x ≠ 0)) :
    Calls Try.prog 30 #[.pointer (some ⟨t, 0, none⟩), .pointer (some ⟨g, 0, none⟩), .int .i64 x] W fun e w' => e = .returned (.int .i64 1) ∧ W = w' := by
  have c0 := h.bt.c0
  obtain ⟨lA, lc, hlv⟩ := Kd.R_slice h.rl
  have hrl := (Kd.R_reads' (hlv ▸ h.rl)).2.2
  rw [hlv] at c0
  by_cases h1 : x < 0
  · have b1 : decide (x < 0) = true := decide_eq_true h1
    clear h hlv hrl hx
    go_enter Try.func30, Try.ntmps30
    go_wp2_with fail
    go_ret
    exact ⟨rfl, rfl⟩
  · have b1 : decide (x < 0) = false := decide_eq_false h1
    by_cases h2 : (lens.length : Int) ≤ x
    · have b2 : decide ((lens.length : Int) ≤ x) = true := decide_eq_true h2
      clear h hlv hrl hx
      go_enter Try.func30, Try.ntmps30
      go_wp2_with fail
      go_ret
      exact ⟨rfl, rfl⟩
    · have b2 : decide ((lens.length : Int) ≤ x) = false := decide_eq_false h2
      have h3 : rd lens x = 0 := by
        by_cases h3 : rd lens x = 0
        · exact h3
        · exact absurd ⟨by omega, by omega, h3⟩ hx
      obtain ⟨ad1, hA1, x0⟩ := Kd.at_int hrl x (by omega) (by omega)
      subst hA1
      rw [h3] at x0
      have hx0 : 0 ≤ x := by omega
      have hx1 : x < (lens.length : Int) := by omega
      clear h hlv hrl hx h3
      go_enter Try.func30, Try.ntmps30
      go_wp2_with fail
      go_ret
      exact ⟨rfl, rfl⟩
end Go.Proofs.Ytmmoenleldcadaa.HF
