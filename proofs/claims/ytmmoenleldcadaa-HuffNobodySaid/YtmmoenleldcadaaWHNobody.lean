/- HuffNobody, walked: a table that nobody made answers nothing. -/
import Derived.Test.YtmmoenleldcadaaHLaw
import Derived.Test.YtmmoenleldcadaaHTNo
import Derived.Deep.RegionWith
import Derived.Deep.RegionHeld3
namespace Go.Proofs.Ytmmoenleldcadaa.HF
open Go.RowKit Go.Proofs.YtmmoenleldcadaaW.PrintWords Go.Proofs.YtmmoenleldcadaaW.PrintLast Go.Proofs.YtmmoenleldcadaaW.PrintMore Go.Proofs.Ytmmoenleldcadaa.HW Go.Proofs.Ytmmoenleldcadaa.MB Go.Proofs.Ytmmoenleldcadaa.Fn Go.Proofs.Ytmmoenleldcadaa.HP
attribute [local go_sem] max2_int min2_int max_two min_two max_three min_three max_four min_four   -- for this text's walks alone
/-- The state of HuffNobody. -/
structure NbS (W w : World) (B t z q : Nat) (lv wv sv : Value) : Prop where
  tb : IsTab w B t [1, 1] lv wv sv
  zt : TabS w z (.slice none 0 0) (.slice none 0 0) (fun _ => 0) (.slice none 0 0) 0
  ro : w.heap[q]? = some (.cells #[.pointer none, .pointer (some ⟨z, 0, none⟩)] 37 (0, 0))
  be : Below W.heap.size W w
theorem NbS.below {W w w' : World} {B t z q : Nat} {lv wv sv : Value} (h : NbS W w B t z q lv wv sv) (hb : Below w.heap.size w w') : NbS W w' B t z q lv wv sv :=
  ⟨h.tb.below hb, h.zt.below hb, (hb.block _ (blk_lt h.ro)).trans h.ro, h.be.trans (hb.mono h.be.size)⟩
theorem NbS.at_ {W w : World} {B t z q : Nat} {lv wv sv : Value} (h : NbS W w B t z q lv wv sv) (i : Nat) (hi : i < 2) : w.cell? ⟨q, i, none⟩ = some (.pointer (if i = 0 then none else some ⟨z, 0, none⟩)) ∧ NT w (if i = 0 then none else some ⟨z, 0, none⟩) := by
  rcases (show i = 0 ∨ i = 1 by omega) with rfl | rfl
  · exact ⟨(blk_cell h.ro 0).trans rfl, Or.inl rfl⟩
  · exact ⟨(blk_cell h.ro 1).trans rfl, Or.inr ⟨z, rfl, h.zt⟩⟩
set_option maxRecDepth 100000 in
set_option maxHeartbeats 8000000 in
theorem hnobody_walk (n : Int) (_wn : (Lit.int .i64 n).wf = true) (W : World) :
    Calls Try.prog 9 #[.int .i64 n] W fun e w' => e = .returned (.bool true) ∧ Below W.heap.size W w' := by
  clear _wn
  have hu := Try.underlying52
  have HB := Aside0.mk (Below.refl W.heap.size W)
  go_enter Try.func9, Try.ntmps9
  go_wp2_with ((with_reducible refine gate_dst (N := 12) rfl ?_); (try (refine gate_guard (by rfl) ?_; dsimp only)); refine Kd.R_lit (Kd.int .i64) _ 3 ?hg (N := 12) ?hd (xs := ([1, 1] : List Int)) (inner := [.int .i64 1, .int .i64 1]) (ok := fun _ => True) (okp := fun _ => True) ?hr ?hp (fun _ hk => hk) trivial (Below.refl _ _) (Nat.le_refl _) (by simp) ?_; (case hd => rfl); (case hg => rfl); (case hr => first | (go_simp; done) | (go_simp; rfl)); (case hp => exact (Reps.one (show Kd.M (Kd.int .i64) _ _ _ 1 [.int .i64 1] from rfl) (Reps.one (show Kd.M (Kd.int .i64) _ _ _ 1 [.int .i64 1] from rfl) (Reps.none _ _)))); intro v12 w5 ho hb hg hn; obtain ⟨A12, c12, e12⟩ := Kd.R_slice ho; subst e12; have HO := Aside0.mk ho; have HB := Aside0.mk hb; clear ho hb hg hn)
  have HC := Aside0.mk (newTable_ok A12 c12 [1, 1] w5 (Kd.R_reads' HO.out).2.2 (Kd.R_reads' HO.out).2.1)
  refine HC.out.mono ?_
  rintro e w1 ⟨hn1, _, hb1⟩
  obtain ⟨t, lv, wv, sv, rfl, hT⟩ := hn1 (by kernel_rfl)
  have HB1 := Aside0.mk (HB.out.trans (hb1.mono HB.out.size))
  have HT := Aside0.mk hT
  have HC4 := Aside0.mk (symbol_nilR hT)
  clear hb1 hT hn1 HC HO
  go_wp2_with fail
  refine HC4.out.mono ?_
  rintro e w2 ⟨rfl, hw2⟩
  subst hw2
  clear HC4
  go_upto_region 6 with (fail)
  have HN : Aside0 (NbS W ((w1.alloc (.cells #[.slice none 0 0, .slice none 0 0, .int .i64 0, .int .i64 0, .int .i64 0, .int .i64 0, .int .i64 0, .int .i64 0, .int .i64 0, .int .i64 0, .int .i64 0, .int .i64 0, .int .i64 0, .int .i64 0, .int .i64 0, .int .i64 0, .int .i64 0, .int .i64 0, .slice none 0 0, .int .i64 0] 52)).alloc (.cells #[.pointer none, .pointer (some ⟨w1.heap.size, 0, none⟩)] 37)) w5.heap.size t w1.heap.size (w1.heap.size + 1) lv wv sv) := ⟨by
    have h1 := below_alloc (Below.refl w1.heap.size w1) (.cells #[.slice none 0 0, .slice none 0 0, .int .i64 0, .int .i64 0, .int .i64 0, .int .i64 0, .int .i64 0, .int .i64 0, .int .i64 0, .int .i64 0, .int .i64 0, .int .i64 0, .int .i64 0, .int .i64 0, .int .i64 0, .int .i64 0, .int .i64 0, .int .i64 0, .slice none 0 0, .int .i64 0] 52)
    have e1 : (w1.alloc (.cells #[.slice none 0 0, .slice none 0 0, .int .i64 0, .int .i64 0, .int .i64 0, .int .i64 0, .int .i64 0, .int .i64 0, .int .i64 0, .int .i64 0, .int .i64 0, .int .i64 0, .int .i64 0, .int .i64 0, .int .i64 0, .int .i64 0, .int .i64 0, .int .i64 0, .slice none 0 0, .int .i64 0] 52)).heap.size = w1.heap.size + 1 := Array.size_push _
    have h2 := below_alloc (Below.refl (w1.alloc (.cells #[.slice none 0 0, .slice none 0 0, .int .i64 0, .int .i64 0, .int .i64 0, .int .i64 0, .int .i64 0, .int .i64 0, .int .i64 0, .int .i64 0, .int .i64 0, .int .i64 0, .int .i64 0, .int .i64 0, .int .i64 0, .int .i64 0, .int .i64 0, .int .i64 0, .slice none 0 0, .int .i64 0] 52)).heap.size (w1.alloc (.cells #[.slice none 0 0, .slice none 0 0, .int .i64 0, .int .i64 0, .int .i64 0, .int .i64 0, .int .i64 0, .int .i64 0, .int .i64 0, .int .i64 0, .int .i64 0, .int .i64 0, .int .i64 0, .int .i64 0, .int .i64 0, .int .i64 0, .int .i64 0, .int .i64 0, .slice none 0 0, .int .i64 0] 52))) (.cells #[.pointer none, .pointer (some ⟨w1.heap.size, 0, none⟩)] 37)
    have k1 : TabS (w1.alloc (.cells #[.slice none 0 0, .slice none 0 0, .int .i64 0, .int .i64 0, .int .i64 0, .int .i64 0, .int .i64 0, .int .i64 0, .int .i64 0, .int .i64 0, .int .i64 0, .int .i64 0, .int .i64 0, .int .i64 0, .int .i64 0, .int .i64 0, .int .i64 0, .int .i64 0, .slice none 0 0, .int .i64 0] 52)) w1.heap.size (.slice none 0 0) (.slice none 0 0) (fun _ => 0) (.slice none 0 0) 0 := heap_alloc_new w1 _
    have k2 := heap_alloc_new (w1.alloc (.cells #[.slice none 0 0, .slice none 0 0, .int .i64 0, .int .i64 0, .int .i64 0, .int .i64 0, .int .i64 0, .int .i64 0, .int .i64 0, .int .i64 0, .int .i64 0, .int .i64 0, .int .i64 0, .int .i64 0, .int .i64 0, .int .i64 0, .int .i64 0, .int .i64 0, .slice none 0 0, .int .i64 0] 52)) (.cells #[.pointer none, .pointer (some ⟨w1.heap.size, 0, none⟩)] 37)
    rw [e1] at k2
    exact ⟨(HT.out.below h1).below h2, k1.below h2, k2, HB1.out.trans ((h1.trans (h2.mono h1.size)).mono HB1.out.size)⟩⟩
  obtain ⟨z, hz⟩ : ∃ z, w1.heap.size = z := ⟨_, rfl⟩
  obtain ⟨q, hq⟩ : ∃ q, z + 1 = q := ⟨_, rfl⟩
  rw [hz, hq] at HN
  rw [hz, hq]
  clear hz hq
  generalize (w1.alloc (.cells #[.slice none 0 0, .slice none 0 0, .int .i64 0, .int .i64 0, .int .i64 0, .int .i64 0, .int .i64 0, .int .i64 0, .int .i64 0, .int .i64 0, .int .i64 0, .int .i64 0, .int .i64 0, .int .i64 0, .int .i64 0, .int .i64 0, .int .i64 0, .int .i64 0, .slice none 0 0, .int .i64 0] 52)).alloc (.cells #[.pointer none, .pointer (some ⟨z, 0, none⟩)] 37) = w7 at HN ⊢
  clear HT HB1 HB
  obtain ⟨B, hB⟩ : ∃ B, w5.heap.size = B := ⟨_, rfl⟩
  rw [hB] at HN
  clear hB
  go_wp2_with fail
  go_loopw [8] (fun v8 wr => ∃ i : Nat, v8 = .int .i64 i ∧ i ≤ 2 ∧ Aside0 (NbS W wr B t z q lv wv sv)) (fun v8 _ => 2 - (intOf v8).toNat)
  case atStart => exact ⟨0, rfl, by decide, HN⟩
  case round =>
    clear HN
    obtain ⟨i, rfl, hi, HN⟩ := hrel
    by_cases hlt : i < 2
    · have hb1 : decide ((i : Int) < 2) = true := by simp; omega
      have hi2 : (i : Int) < 2 := by omega
      have hi0 : (0 : Int) ≤ (i : Int) := by omega
      have HI := Aside0.mk hlt
      obtain ⟨c0, hnt⟩ := HN.out.at_ i hlt
      obtain ⟨p, hp⟩ : ∃ p : Option Addr, (if i = 0 then none else some ⟨z, 0, none⟩) = p := ⟨_, rfl⟩
      rw [hp] at c0 hnt
      have HNT := Aside0.mk hnt
      have HP := Aside0.mk hp
      clear hlt hnt hp
      have HSS := Aside0.mk (fun (w' : World) (hb : Below wr.heap.size wr w') => show Below wr.heap.size wr w' ∧ w'.cell? ⟨q, i, none⟩ = some (.pointer p) from ⟨hb, by rw [← HP.out]; exact ((HN.out.below hb).at_ i HI.out).1⟩)
      go_upto_region 9 with (fail)
      have b0 := below_drew (Below.refl wr.heap.size wr)
      go_region_held3 (fun w' => Below wr.heap.size wr w' ∧ w'.cell? ⟨q, i, none⟩ = some (.pointer p)) ((exact HSS.out _ (by assumption))) ((first | (go_at_call 24; refine (newReader ⟨#[120]⟩ _).mono ?_; rintro e w8 ⟨g8, rfl, hg8, hr8, hb8⟩; have b8 := b0.trans (hb8.mono (by exact Nat.le_refl _)); clear hg8 hr8 hb8) | (go_at_call 27; refine (symbol_no (HNT.out.below (by assumption)) _).mono ?_; rintro e w9 ⟨rfl, rfl⟩)))
      rename_i hHeld
      have HN8 := Aside0.mk (HN.out.below hHeld.1)
      have HNT8 := Aside0.mk (HNT.out.below hHeld.1)
      clear hHeld HSS HN HNT b0 b8 c0
      have c8 := (HN8.out.at_ i HI.out).1
      rw [HP.out] at c8
      have HSS := Aside0.mk (fun (w' : World) (hb : Below w8.heap.size w8 w') => show Below w8.heap.size w8 w' ∧ w'.cell? ⟨q, i, none⟩ = some (.pointer p) from ⟨hb, by rw [← HP.out]; exact ((HN8.out.below hb).at_ i HI.out).1⟩)
      go_upto_region 10 with (fail)
      have b0 := below_drew (Below.refl w8.heap.size w8)
      go_region_held3 (fun w' => Below w8.heap.size w8 w' ∧ w'.cell? ⟨q, i, none⟩ = some (.pointer p)) ((exact HSS.out _ (by assumption))) ((first | (go_at_call 31; refine (newWriter _).mono ?_; rintro e w10 ⟨rfl, _, hb10⟩; have b10 := b0.trans (hb10.mono (by exact Nat.le_refl _)); clear hb10) | (go_at_call 30; refine (put_no (HNT8.out.below (by assumption)) _ n).mono ?_; rintro e w11 ⟨rfl, rfl⟩)))
      rename_i hHeld
      have HN10 := Aside0.mk (HN8.out.below hHeld.1)
      clear hHeld HSS HN8 HNT8 b0 c8 HP
      go_wp2_with fail
      go_roundw
      case rel => exact ⟨i + 1, by simp, by have := HI.out; omega, HN10⟩
      case measure => simp [intOf]; have := HI.out; omega
    · have hie : i = 2 := by omega
      subst hie
      have hb1 : decide ((2 : Int) < 2) = false := by decide
      have HC := Aside0.mk (put_nilW t 0 wr)
      have HA := Aside0.mk (awake_any wr)
      clear hlt
      go_wp2_with fail
      refine HC.out.mono ?_
      rintro e w9 ⟨rfl, rfl⟩
      go_wp2_with fail
      refine HA.out.mono ?_
      rintro e w10 ⟨rfl, hb10⟩
      go_wp2_with fail
      go_ret
      exact ⟨rfl, HN.out.be.trans (hb10.mono HN.out.be.size)⟩
end Go.Proofs.Ytmmoenleldcadaa.HF
