/- What 'awake' of layer 1 comes to. -/
import Derived.Test.YtggfahgkjdkjmaaHWBits
import Derived.Test.YtggfahgkjdkjmaaFna
namespace Go.Proofs.Ytggfahgkjdkjmaa.HW
open Go.RowKit Go.Proofs.YtggfahgkjdkjmaaW.PrintWords Go.Proofs.YtggfahgkjdkjmaaW.PrintLast Go.Proofs.YtggfahgkjdkjmaaW.PrintMore Go.Proofs.Ytggfahgkjdkjmaa.MB Go.Proofs.Ytggfahgkjdkjmaa.Fn
attribute [local go_sem] max2_int min2_int max_two min_two max_three min_three max_four min_four   -- for this text's walks alone
theorem told13 : STold ⟨#[13]⟩ (([] ++ bitsOf 5 3) ++ bitsOf 1 1) := by
  refine ⟨by decide, fun i => ?_⟩
  by_cases h : i < 8
  · have : i = 0 ∨ i = 1 ∨ i = 2 ∨ i = 3 ∨ i = 4 ∨ i = 5 ∨ i = 6 ∨ i = 7 := by omega
    rcases this with rfl | rfl | rfl | rfl | rfl | rfl | rfl | rfl <;> decide
  · rw [getD_high (by simp [bitsOf]; omega)]
    unfold sbit
    rw [bt_high _ _ (by show 1 ≤ _; omega)]
    simp
theorem read5 : bits_Reader_Bits.f 10 true ⟨#[13]⟩ 0 3 = some (5, 0, true, ⟨#[13]⟩, 3) := by kernel_rfl
theorem put300 : bits_PutVar.f 10 300 = some (⟨#[172, 2]⟩, 0) := by kernel_rfl
theorem newr : bits_NewReader.f ⟨#[13]⟩ = some (true, ⟨#[13]⟩, 0) := rfl
set_option maxHeartbeats 4000000 in
set_option maxRecDepth 100000 in
theorem awake_any (w : World) : Calls Try.prog 11 #[] w fun e w' => e = .returned (.bool true) ∧ Below w.heap.size w w' := by
  have hlt := Nat.le_refl w.heap.size
  go_enter Try.func11, Try.ntmps11
  go_wp2_with fail
  refine (newWriter _).mono ?_
  rintro e w1 ⟨rfl, hI, hb⟩
  have HB := Aside0.mk hb
  have HI := Aside0.mk hI
  clear hI hb
  go_wp2_with fail
  refine (bits_ok w.heap.size w.heap.size (.slice none 0 0) [] 5 3 _ HI.out (by omega) (by omega) (by simp) HB.out.size).mono ?_
  rintro e w2 ⟨rfl, v2, hI, hf, ha⟩
  have HI := Aside0.mk hI
  have HB := Aside0.mk ((HB.out.trans (hf.below HB.out.size (fun k hk => by rcases hk with rfl | hk; exact Nat.le_refl _; simp [Value.ownBlock] at hk))))
  clear hI hf
  have HG := Aside0.mk ha
  clear ha
  go_wp2_with fail
  refine (bits_ok w.heap.size w.heap.size v2 ([] ++ bitsOf 5 3) 1 1 _ HI.out (by omega) (by omega) (by simp [bitsOf_length]) HB.out.size).mono ?_
  rintro e w3 ⟨rfl, v3, hI, hf, ha⟩
  have HI3 := Aside0.mk hI
  have HB3 := Aside0.mk ((HB.out.trans (hf.below HB.out.size (fun k hk => by rcases hk with rfl | hk; exact Nat.le_refl _; exact (HI.out.row_lt k hk).1))))
  clear hI hf ha HI HB HG
  go_wp2_with fail
  refine (w_done w.heap.size w.heap.size v3 _ _ HI3.out).mono ?_
  rintro e w4 ⟨s, rfl, hs, rfl⟩
  obtain rfl := told_unique hs told13
  clear hs HI3
  go_wp2_with fail
  refine (bits_NewReader.calls _ _ _ _ w _ HB3.out newr).mono ?_
  rintro e w5 ⟨g5, rfl, hI, hb, hb2⟩
  have HI5 := Aside0.mk hI
  have HB5 := Aside0.mk hb
  clear hI hb hb2 HB3
  go_wp2_with fail
  refine (bits_Reader_Bits.calls 10 g5 _ _ _ 3 _ _ _ _ _ w _ HI5.out HB5.out read5).mono ?_
  rintro e w6 ⟨rfl, hI, hb, hk⟩
  have HB6 := Aside0.mk hb
  clear hI hb hk HI5 HB5
  go_wp2_with fail
  refine (bits_PutVar.calls 10 300 _ _ _ put300).mono ?_
  rintro e w7 ⟨rfl, hb⟩
  have HB7 := Aside0.mk (HB6.out.trans (hb.mono HB6.out.size))
  clear hb HB6
  go_wp2
  go_ret
  exact ⟨rfl, HB7.out⟩
end Go.Proofs.Ytggfahgkjdkjmaa.HW
