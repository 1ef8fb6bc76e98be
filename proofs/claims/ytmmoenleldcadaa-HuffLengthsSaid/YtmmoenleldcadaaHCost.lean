/- huff.Whole, counted, Cost: walked. -/
import Derived.Test.YtmmoenleldcadaaHCodes
namespace Go.Proofs.Ytmmoenleldcadaa.HF
open Go.RowKit Go.Proofs.YtmmoenleldcadaaW.PrintWords Go.Proofs.YtmmoenleldcadaaW.PrintLast Go.Proofs.YtmmoenleldcadaaW.PrintMore Go.Proofs.Ytmmoenleldcadaa.HW Go.Proofs.Ytmmoenleldcadaa.MB Go.Proofs.Ytmmoenleldcadaa.Fn
attribute [local go_sem] max2_int min2_int max_two min_two max_three min_three max_four min_four   -- for this text's walks alone
/-- What Whole tells. -/
def WQ (lens : List Int) (W : World) (e : Ending) (w' : World) : Prop := e = .returned (.tuple #[.bool (okL lens && wholeL lens), .int .i64 (if okL lens then 0 else 30)]) ∧ Below W.heap.size W w'
set_option maxHeartbeats 2000000 in
theorem whole_any (A : Option Addr) (c : Nat) (lens : List Int) (W : World) (hr : Kd.C (Kd.int .i64) W A lens.length lens) (hc : lens.length ≤ c) : Calls Try.prog 20 #[.slice A lens.length c] W (WQ lens W) := by
  have hu := Try.underlying50
  have HC := Aside0.mk (counts_any A c lens W hr hc)
  clear hr hc
  go_enter Try.func20, Try.ntmps20
  go_wp2_with fail
  refine HC.out.mono ?_
  rintro e w1 ⟨f, rfl, hf, hb⟩
  have HF := Aside0.mk hf
  have HB := Aside0.mk hb
  clear hf hb HC
  cases hok : okL lens with
  | false =>
    have HO := Aside0.mk hok
    clear HF hok
    go_wp2_with ((with_reducible refine gate_store (t := 50) (p := 4) (v := .tmp 9) rfl ?_); go_must (refine store_all rfl rfl rfl w1.heap.size (arrV (fun _ => 0)) (arrV f) 50 (by rfl) (by rfl) (IsArr.new w1) ((arrV_size _).trans (arrV_size _).symm) (by rw [arrV_size]; kernel_rfl) (arrV_one _) ?_); intro w9 hr1 hf6; have HF6 := Aside0.mk hf6; clear hr1 hf6)
    go_ret2
    exact ⟨(by rw [HO.out]; rfl), HB.out.trans (((below_alloc (Below.refl w1.heap.size w1) _).trans (HF6.out.below (by show _ ≤ (Array.push _ _).size; rw [Array.size_push]; omega) (fun k hk => by rw [hk]; exact Nat.le_refl _))).mono HB.out.size)⟩
  | true =>
    have HO := Aside0.mk hok
    clear hok
    go_upto_region 4 with ((with_reducible refine gate_store (t := 50) (p := 4) (v := .tmp 9) rfl ?_); go_must (refine store_all rfl rfl rfl w1.heap.size (arrV (fun _ => 0)) (arrV f) 50 (by rfl) (by rfl) (IsArr.new w1) ((arrV_size _).trans (arrV_size _).symm) (by rw [arrV_size]; kernel_rfl) (arrV_one _) ?_); intro w9 hr1 hf6; have HR1 := Aside0.mk hr1; have HF6 := Aside0.mk hf6; clear hr1 hf6)
    have c0 := IsArr.cell (f := f) HR1.out 0 (by decide)
    have h0 : f 0 = rooms (fun l => cntL lens l) 15 := by rw [HF.out HO.out 0 (by decide)]; rfl
    rw [h0] at c0
    obtain ⟨r, hr⟩ : ∃ r, rooms (fun l => cntL lens l) 15 = r := ⟨_, rfl⟩
    rw [hr] at c0
    have HW := Aside0.mk (show wholeL lens = (r == 0) from by unfold wholeL; rw [hr]; by_cases h : r = 0 <;> simp [h])
    clear h0 hr
    go_wp2_with fail
    go_ret2
    exact ⟨(by rw [HO.out, HW.out]; rfl), HB.out.trans (((below_alloc (Below.refl w1.heap.size w1) _).trans (HF6.out.below (by show _ ≤ (Array.push _ _).size; rw [Array.size_push]; omega) (fun k hk => by rw [hk]; exact Nat.le_refl _))).mono HB.out.size)⟩
def freqOk (f : Int) : Bool := decide (0 ≤ f ∧ f ≤ 1099511627776)
def countedL (fs : List Int) : Bool := fs.all freqOk
set_option maxHeartbeats 1000000 in
theorem fclos_ok (x : Int) (W : World) : Calls Try.prog 52 #[.int .i64 x] W fun e w' => e = .returned (.bool (!freqOk x)) ∧ W = w' := by
  by_cases h1 : x < 0
  · have hb : decide (x < 0) = true := by simpa using h1
    have HF := Aside0.mk (show freqOk x = false from by unfold freqOk; exact decide_eq_false (by omega))
    clear h1
    go_enter Try.func52, Try.ntmps52
    go_wp2_with fail
    go_ret
    exact ⟨by rw [HF.out]; rfl, rfl⟩
  · have hb : decide (x < 0) = false := by simpa using h1
    by_cases h2 : 1099511627776 < x
    · have hb2 : decide (1099511627776 < x) = true := by simpa using h2
      have HF := Aside0.mk (show freqOk x = false from by unfold freqOk; exact decide_eq_false (by omega))
      clear h1 h2
      go_enter Try.func52, Try.ntmps52
      go_wp2_with fail
      go_ret
      exact ⟨by rw [HF.out]; rfl, rfl⟩
    · have hb2 : decide (1099511627776 < x) = false := by simpa using h2
      have HF := Aside0.mk (show freqOk x = true from by unfold freqOk; exact decide_eq_true (by omega))
      clear h1 h2
      go_enter Try.func52, Try.ntmps52
      go_wp2_with fail
      go_ret
      exact ⟨by rw [HF.out]; rfl, rfl⟩
/-- Where the first bad one stands. -/
def findex : List Int → Nat → Int
  | [], _ => -1
  | x :: t, i => if freqOk x = true then findex t (i + 1) else i
theorem findex_pos : ∀ (l : List Int) (i : Nat), decide (0 ≤ findex l i) = !countedL l
  | [], i => by simp [findex, countedL]
  | x :: t, i => by
    have ih := findex_pos t (i + 1)
    unfold findex
    by_cases h : freqOk x = true
    · rw [if_pos h, ih]; simp [countedL, h]
    · rw [if_neg h]; simp [countedL, h]
set_option maxHeartbeats 2000000 in
theorem findex_ok (A : Option Addr) (c : Nat) (l : List Int) (W : World) (hr : Kd.C (Kd.int .i64) W A l.length l) (hn : l.length ≤ 9223372036854775807) :
    Calls Try.prog 57 #[.slice A l.length c, .func (.func 52) #[] #[]] W fun e w' => e = .returned (.int .i64 (findex l 0)) ∧ W = w' := by
  have HL := Aside0.mk hr
  have HN := Aside0.mk hn
  clear hr hn
  go_enter Try.func57, Try.ntmps57
  go_wp2_with fail
  go_loopw [8] (fun v8 wr => ∃ i : Nat, v8 = .int .i64 i ∧ i ≤ l.length ∧ Aside0 (W = wr) ∧ Aside0 (findex l 0 = findex (l.drop i) i)) (fun v8 _ => l.length - (intOf v8).toNat)
  case atStart => exact ⟨0, rfl, Nat.zero_le _, ⟨rfl⟩, ⟨rfl⟩⟩
  case round =>
    obtain ⟨i, rfl, hi, HWE, HJ⟩ := hrel
    have hwe := HWE.out
    subst hwe
    by_cases hlt : i < l.length
    · have hb1 : decide ((i : Int) < (l.length : Int)) = true := by simp; omega
      obtain ⟨ad, hA, h0⟩ := Kd.at_int HL.out (i : Int) (by omega) (by omega)
      subst hA
      simp only [Int.toNat_natCast] at h0
      have q1 : (0 : Int) ≤ (i : Int) := by omega
      have q2 : (i : Int) < (l.length : Int) := by omega
      have q3 : (l.length : Int) ≤ 9223372036854775807 := by have := HN.out; omega
      have hd : findex (l.drop i) i = if freqOk (rd l i) = true then findex (l.drop (i + 1)) (i + 1) else (i : Int) := by
        rw [List.drop_eq_getElem_cons hlt, findex, rd_get l i hlt]
      obtain ⟨x, hx⟩ : ∃ z, rd l (i : Int) = z := ⟨_, rfl⟩
      rw [hx] at h0 hd
      have HD := Aside0.mk hd
      have HI := Aside0.mk hlt
      clear hd hx
      go_wp2_with fail
      refine (fclos_ok x W).mono ?_
      rintro e w2 ⟨rfl, rfl⟩
      have hd2 := HD.out
      by_cases hs : freqOk x = true
      · rw [hs] at hd2 ⊢
        rw [if_pos rfl] at hd2
        have HJ2 := Aside0.mk (HJ.out.trans hd2)
        clear hs hd2
        go_wp2_with fail
        go_roundw
        case rel => exact ⟨i + 1, by simp, HI.out, ⟨by first | rfl | trivial⟩, HJ2⟩
        case measure => simp [intOf]; have := HI.out; omega
      · have hs2 := Bool.eq_false_iff.2 hs
        rw [hs2] at hd2 ⊢
        rw [if_neg (by decide)] at hd2
        clear hs hs2
        have HD2 := Aside0.mk hd2
        clear hd2
        go_wp2_with fail
        go_ret
        exact ⟨by rw [HJ.out, HD2.out]; rfl, rfl⟩
    · have hie : i = l.length := by omega
      subst hie
      have hb1 : decide ((l.length : Int) < (l.length : Int)) = false := by simp
      clear hlt
      go_wp2_with fail
      go_ret
      have := HJ.out
      rw [List.drop_length] at this
      exact ⟨by rw [this]; rfl, rfl⟩
set_option maxHeartbeats 1000000 in
theorem fcont_ok (A : Option Addr) (c : Nat) (l : List Int) (W : World) (hr : Kd.C (Kd.int .i64) W A l.length l) (hn : l.length ≤ 9223372036854775807) :
    Calls Try.prog 51 #[.slice A l.length c, .func (.func 52) #[] #[]] W fun e w' => e = .returned (.bool (!countedL l)) ∧ W = w' := by
  have h0 := findex_ok A c l W hr hn
  have he : decide (0 ≤ findex l 0) = !countedL l := findex_pos l 0
  obtain ⟨r, hr⟩ : ∃ r, findex l 0 = r := ⟨_, rfl⟩
  obtain ⟨d, hd⟩ : ∃ d, (!countedL l) = d := ⟨_, rfl⟩
  rw [hr] at h0 he
  rw [hd] at he
  rw [hd]
  have H := Aside0.mk h0
  clear h0 hr hd
  go_enter Try.func51, Try.ntmps51
  go_wp2_with fail
  refine H.out.mono ?_
  rintro e w2 ⟨rfl, rfl⟩
  cases d with
  | true =>
    go_wp2_with fail
    go_ret
    exact ⟨rfl, rfl⟩
  | false =>
    go_wp2_with fail
    go_ret
    exact ⟨rfl, rfl⟩
set_option maxHeartbeats 1000000 in
theorem counted_ok (A : Option Addr) (c : Nat) (l : List Int) (W : World) (hr : Kd.C (Kd.int .i64) W A l.length l) (hn : l.length ≤ 9223372036854775807) :
    Calls Try.prog 36 #[.slice A l.length c] W fun e w' => e = .returned (.bool (countedL l)) ∧ W = w' := by
  have H := Aside0.mk (fcont_ok A c l W hr hn)
  clear hr hn
  go_enter Try.func36, Try.ntmps36
  go_wp2_with fail
  refine H.out.mono ?_
  rintro e w2 ⟨rfl, rfl⟩
  go_wp2_with fail
  go_ret
  exact ⟨by simp, rfl⟩
end Go.Proofs.Ytmmoenleldcadaa.HF
