/- BitsWrites, walked. -/
import Derived.Test.YtggfahgkjdkjmaaPText
import Derived.Test.YtggfahgkjdkjmaaHShBits
import Derived.OpenShut
namespace Go.Proofs.Ytggfahgkjdkjmaa.HW
open Go.RowKit Go.Proofs.YtggfahgkjdkjmaaW.PrintWords Go.Proofs.YtggfahgkjdkjmaaW.PrintLast Go.Proofs.YtggfahgkjdkjmaaW.PrintMore Go.Proofs.Ytggfahgkjdkjmaa.MB Go.Proofs.Ytggfahgkjdkjmaa.Fn Go.Proofs.Ytggfahgkjdkjmaa.HR
attribute [local go_sem] max2_int min2_int max_two min_two max_three min_three max_four min_four   -- for this text's walks alone
set_option maxHeartbeats 4000000 in
set_option maxRecDepth 100000 in
theorem bitswrites_walk (A0 : Option Addr) (c0 : Nat) (ops : List S44) (W0 : World) (hr : shOp.d.C W0 A0 ops.length ops) (hc : ops.length ≤ c0) (ok : (∀ a ∈ ops, shOp.ok a) ∧ ops.length ≤ 9223372036854775807) (hk : shOps.wt ops ≤ 1048576) :
    Calls Try.prog 6 #[.slice A0 ops.length c0] W0 fun e w' => e = .returned (.bool true) ∧ Below W0.heap.size W0 w' := by
  have hu := Try.underlying44
  have hn : ops.length ≤ 1048576 := by
    have h1 : shOps.wt ops = Sh.wts shOp.wt ops + 1 := rfl
    have h2 : ops.length ≤ Sh.wts shOp.wt ops := by
      clear hr hc ok hk h1
      induction ops with
      | nil => exact Nat.zero_le _
      | cons r t ih =>
        rw [Sh.wts_cons, List.length_cons]
        have : 1 ≤ shOp.wt r := by show 1 ≤ _ + 1; omega
        omega
    omega
  have HR := Aside0.mk (show Kd.C k44 W0 A0 ops.length ops from hr)
  have HN := Aside0.mk hn
  clear hr hc ok hk hn
  go_enter Try.func6, Try.ntmps6
  go_wp2_with fail
  refine (newWriter _).mono ?_
  rintro e w1 ⟨rfl, hI, hb⟩
  have HW := Aside0.mk (show WR W0 w1 W0.heap.size W0.heap.size (.slice none 0 0) [] (.slice none 0 0) (ib []) from ⟨hI, Kd.R_nil _ _ _ _ _, hb, Nat.le_of_lt hI.lt⟩)
  clear hI hb
  go_wp2_with fail
  obtain ⟨g, hg⟩ : ∃ g, W0.heap.size = g := ⟨_, rfl⟩
  have HG := Aside0.mk hg
  rw [hg] at HW
  rw [hg]
  clear hg
  go_loopw [4, 5] (fun v4 v5 wr => ∃ (i : Nat) (v : Value) (l : List Bool), v5 = .int .i64 i ∧ i ≤ ops.length ∧ Aside0 (WR W0 wr g g v l v4 (ib l)) ∧ Aside0 (l.length ≤ 40000 * i)) (fun _ v5 _ => ops.length - (intOf v5).toNat)
  case atStart => exact ⟨0, _, [], rfl, Nat.zero_le _, HW, ⟨Nat.zero_le _⟩⟩
  case round =>
    clear HW
    obtain ⟨i, v, l, rfl, hi, HW, HL⟩ := hrel
    obtain ⟨A4, c4, e4⟩ := Kd.R_slice HW.out.ri
    subst e4
    by_cases hlt : i < ops.length
    · have hC := Kd.C_below HR.out (w1 := wr) (by rw [HG.out]; exact HW.out.be)
      obtain ⟨ad, rfl, k0, k1, k2, k3⟩ := at_T44 hC (i : Int) (by omega) (by omega)
      obtain ⟨r, hr⟩ : ∃ r, rd_T44 ops (i : Int) = r := ⟨_, rfl⟩
      rw [hr] at k0 k1 k2 k3
      simp only [Int.toNat_natCast] at k0 k1 k2 k3
      clear hC hr
      have hb1 : decide ((i : Int) < (ops.length : Int)) = true := by simp; omega
      by_cases hbig : 4096 < r.f3.size
      · have hb2 : decide (4096 < (r.f3.size : Int)) = true := by simp; omega
        go_wp2_with fail
        refine (awake_any _).mono ?_
        rintro e w9 ⟨rfl, hb⟩
        have HB := Aside0.mk (HW.out.below hb).be
        clear hb
        go_wp2
        go_ret
        exact ⟨rfl, by rw [HG.out]; exact HB.out⟩
      · have hb2 : decide (4096 < (r.f3.size : Int)) = false := by simp; omega
        have HSZ := Aside0.mk (show r.f3.size ≤ 4096 by omega)
        clear hbig
        go_wp2_with fail
        refine (writes_any W0 g g v l _ r _ HW.out (by have := HL.out; have := HN.out; omega) (by have := HSZ.out; omega)).mono ?_
        rintro e w2 ⟨v2, vl2, rfl, hW2⟩
        have HW2 := Aside0.mk hW2
        have HL2 := Aside0.mk (show (wkind r l).length ≤ 40000 * (i + 1) by have := wkind_len r l; have := HL.out; have := HSZ.out; omega)
        clear hW2
        obtain ⟨A5, c5, e5⟩ := Kd.R_slice HW2.out.ri
        subst e5
        obtain ⟨l2, hl2⟩ : ∃ y, wkind r l = y := ⟨_, rfl⟩
        rw [hl2] at HW2 HL2
        rw [hl2]
        have hlen := ib_length l2
        have HWN : Aside0 (WR W0 w2 g g v2 l2 (.slice A5 l2.length c5) (ib l2)) := ⟨by have h9 := HW2.out; rw [ib_length] at h9; exact h9⟩
        clear hl2 HW HL k0 k1 k2 k3
        go_wp2_with fail
        refine (w_place g g v2 l2 _ HW2.out.iw).mono ?_
        rintro e w3 ⟨rfl, rfl⟩
        have hi20 : i ≤ 1048576 := by have := HN.out; omega
        by_cases h4 : i % 4 = 0
        · have hb4 : ((i : Int) % 4 == 0) = true := by rw [beq_iff_eq]; omega
          clear h4
          go_wp2_with fail
          refine (w_done g g v2 l2 _ HW2.out.iw).mono ?_
          rintro e w4 ⟨s, rfl, hT, rfl⟩
          obtain ⟨s2, hs2, hT2⟩ := text_f l2 (by have := HL2.out; have := HN.out; omega)
          obtain rfl := told_unique hT hT2
          have HTX := Aside0.mk hs2
          clear hT hT2 hs2
          go_wp2_with fail
          have hTC := postroadref01_Text.calls _ A5 c5 (ib l2) s w2 (Kd.R_reads' HW2.out.ri).2.2 (Kd.R_reads' HW2.out.ri).2.1 HTX.out
          rw [ib_length] at hTC
          refine hTC.mono ?_
          rintro e w5 ⟨rfl, hb⟩
          have HW5 := Aside0.mk (HWN.out.below hb)
          clear hb
          go_wp2_with fail
          go_roundw
          case rel => exact ⟨i + 1, v2, l2, by simp, hlt, ⟨HW5.out⟩, HL2⟩
          case measure => simp [intOf]; omega
        · have hb4 : ((i : Int) % 4 == 0) = false := by rw [beq_eq_false_iff_ne]; omega
          clear h4
          go_wp2_with fail
          go_roundw
          case rel => exact ⟨i + 1, v2, l2, by simp, hlt, ⟨HWN.out⟩, HL2⟩
          case measure => simp [intOf]; omega
    · have hie : i = ops.length := by omega
      subst hie
      have hb1 : decide ((ops.length : Int) < (ops.length : Int)) = false := by simp
      go_wp2_with fail
      refine (w_done g g v l _ HW.out.iw).mono ?_
      rintro e w2 ⟨s, rfl, hT, rfl⟩
      obtain ⟨s2, hs2, hT2⟩ := text_f l (by have := HL.out; have := HN.out; omega)
      obtain rfl := told_unique hT hT2
      have HTX := Aside0.mk hs2
      clear hT hT2 hs2
      go_wp2_with fail
      refine (postroadref01_Text.calls _ _ _ _ s _ (Kd.R_reads' HW.out.ri).2.2 (Kd.R_reads' HW.out.ri).2.1 HTX.out).mono ?_
      rintro e w3 ⟨rfl, hb⟩
      have HW3 := Aside0.mk (HW.out.below hb)
      clear hb
      go_wp2_with fail
      refine (awake_any _).mono ?_
      rintro e w9 ⟨rfl, hb⟩
      have HB := Aside0.mk (HW3.out.below hb).be
      clear hb
      go_wp2
      go_ret
      exact ⟨rfl, by rw [HG.out]; exact HB.out⟩
end Go.Proofs.Ytggfahgkjdkjmaa.HW
