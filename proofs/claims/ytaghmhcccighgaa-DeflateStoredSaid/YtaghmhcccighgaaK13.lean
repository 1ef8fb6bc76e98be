/- Parts: HCnt HCost HCostD FCmp HPk PSort PSort2 -/
import Derived.Test.YtaghmhcccighgaaK12
import Derived.Test.YtaghmhcccighgaaK04
import Derived.Test.YtaghmhcccighgaaK01
import Derived.RegionTactic
set_option linter.unusedVariables false
set_option linter.unusedSimpArgs false
section
/- How often a block's symbols come; walked. -/
namespace Go.Proofs.Ytaghmhcccighgaa.DF
open Go.RowKit Go.Proofs.YtaghmhcccighgaaW.PrintWords Go.Proofs.YtaghmhcccighgaaW.PrintLast Go.Proofs.YtaghmhcccighgaaW.PrintMore Go.Proofs.Ytaghmhcccighgaa.HW Go.Proofs.Ytaghmhcccighgaa.MB Go.Proofs.Ytaghmhcccighgaa.HF Go.Proofs.Ytaghmhcccighgaa.Fn
attribute [local go_sem] max2_int min2_int max_two min_two max_three min_three max_four min_four   -- for this text's walks alone
/-- A symbol that may be. -/
def SymV (x : Nat × Nat) : Prop := (x.1 = 0 ∧ x.2 < 256) ∨ (x.1 ≠ 0 ∧ (3 ≤ x.2 ∧ x.2 ≤ 258 ∧ 1 ≤ x.1 ∧ x.1 ≤ 32768))
/-- A symbol that was counted. -/
def CntP (f g : List Int) (x : Nat × Nat) : Prop := (x.1 = 0 ∧ 0 < rd f (x.2 : Int)) ∨ (x.1 ≠ 0 ∧ 0 < rd f ((lenS x.2).1 : Int) ∧ 0 < rd g ((disS x.1).1 : Int))
def CntI (zs : List (Nat × Nat)) (f g : List Int) (b : Int) : Prop := f.length = 286 ∧ g.length = 30 ∧ (∀ x ∈ f, 0 ≤ x ∧ x ≤ b) ∧ (∀ x ∈ g, 0 ≤ x ∧ x ≤ b) ∧ 0 < rd f 256 ∧ ∀ z ∈ zs, CntP f g z
theorem bump_rd {f : List Int} {j : Nat} (hj : j < f.length) (i : Int) (h0 : 0 ≤ i) (h : 0 < rd f i) : 0 < rd (f.set j (rd f (j : Int) + 1)) i := by
  obtain ⟨n, rfl⟩ : ∃ n : Nat, i = n := ⟨i.toNat, by omega⟩
  rw [rd_set _ _ _ _ hj]
  split
  · rename_i e
    subst e
    omega
  · exact h
theorem bump_self {f : List Int} {j : Nat} (hj : j < f.length) (h : 0 ≤ rd f (j : Int)) : 0 < rd (f.set j (rd f (j : Int) + 1)) (j : Int) := by
  rw [rd_set _ _ _ _ hj, if_pos rfl]
  omega
theorem bump_rng {f : List Int} {j : Nat} {b : Int} (hj : j < f.length) (h : ∀ x ∈ f, 0 ≤ x ∧ x ≤ b) : ∀ x ∈ f.set j (rd f (j : Int) + 1), 0 ≤ x ∧ x ≤ b + 1 := fun x hx => by
  rcases List.mem_or_eq_of_mem_set hx with hx | hx
  · have := h x hx
    omega
  · have := h f[j] (List.getElem_mem hj)
    rw [hx, rd_get f j hj]
    omega
theorem CntI.mono {zs : List (Nat × Nat)} {f g : List Int} {b b' : Int} (h : CntI zs f g b) (hb : b ≤ b') : CntI zs f g b' :=
  ⟨h.1, h.2.1, fun x hx => by have := h.2.2.1 x hx; omega, fun x hx => by have := h.2.2.2.1 x hx; omega, h.2.2.2.2⟩
theorem CntI.bumpF {zs : List (Nat × Nat)} {f g : List Int} {b : Int} (h : CntI zs f g b) {j : Nat} (hj : j < 286) : CntI zs (f.set j (rd f (j : Int) + 1)) g (b + 1) := by
  obtain ⟨h1, h2, h3, h4, h5, h6⟩ := h
  have hjf : j < f.length := by omega
  refine ⟨by rw [List.length_set]; exact h1, h2, bump_rng hjf h3, fun x hx => by have := h4 x hx; omega, bump_rd hjf 256 (by decide) h5, fun z hz => ?_⟩
  rcases h6 z hz with ⟨e, h7⟩ | ⟨e, h7, h8⟩
  · exact Or.inl ⟨e, bump_rd hjf _ (by omega) h7⟩
  · exact Or.inr ⟨e, bump_rd hjf _ (by omega) h7, h8⟩
theorem CntI.bumpG {zs : List (Nat × Nat)} {f g : List Int} {b : Int} (h : CntI zs f g b) {j : Nat} (hj : j < 30) : CntI zs f (g.set j (rd g (j : Int) + 1)) (b + 1) := by
  obtain ⟨h1, h2, h3, h4, h5, h6⟩ := h
  have hjg : j < g.length := by omega
  refine ⟨h1, by rw [List.length_set]; exact h2, fun x hx => by have := h3 x hx; omega, bump_rng hjg h4, h5, fun z hz => ?_⟩
  rcases h6 z hz with ⟨e, h7⟩ | ⟨e, h7, h8⟩
  · exact Or.inl ⟨e, h7⟩
  · exact Or.inr ⟨e, h7, bump_rd hjg _ (by omega) h8⟩
theorem rd_rng {f : List Int} {n : Nat} {b : Int} (hl : f.length = n) (h : ∀ x ∈ f, 0 ≤ x ∧ x ≤ b) {j : Nat} (hj : j < n) : 0 ≤ rd f (j : Int) ∧ rd f (j : Int) ≤ b := by
  rw [rd_get f j (by omega)]
  exact h _ (List.getElem_mem _)
theorem CntI.snocL {zs : List (Nat × Nat)} {f g : List Int} {b : Int} (h : CntI zs f g b) {z : Nat × Nat} (hz : CntP f g z) : CntI (zs ++ [z]) f g b :=
  ⟨h.1, h.2.1, h.2.2.1, h.2.2.2.1, h.2.2.2.2.1, fun y hy => by
    rcases List.mem_append.1 hy with hy | hy
    · exact h.2.2.2.2.2 y hy
    · rw [List.mem_singleton] at hy
      subst hy
      exact hz⟩
theorem CntI.start : CntI [] ((List.replicate 286 (0 : Int)).set 256 1) (List.replicate 30 0) 1 := by
  refine ⟨by rw [List.length_set, List.length_replicate], List.length_replicate, fun x hx => ?_, fun x hx => ?_, by decide +kernel, fun z hz => by cases hz⟩
  · rcases List.mem_or_eq_of_mem_set hx with hx | hx
    · rw [List.eq_of_mem_replicate hx]; decide
    · rw [hx]; decide
  · rw [List.eq_of_mem_replicate hx]; decide
/-- counted's state. -/
structure CoS (W w : World) (g1 g2 : Nat) (xs ys : List Int) (A : Option Addr) (L : List S60) : Prop where
  r1 : Kd.R (Kd.int .i64) 3 w W.heap.size (fun _ => True) (.slice (some ⟨g1, 0, none⟩) 286 286) xs
  r2 : Kd.R (Kd.int .i64) 3 w W.heap.size (fun _ => True) (.slice (some ⟨g2, 0, none⟩) 30 30) ys
  ne : g1 ≠ g2
  be : Below W.heap.size W w
  ro : RdL w A L
section
variable {W w w' : World} {g1 g2 : Nat} {xs ys : List Int} {A : Option Addr} {L : List S60}
theorem rdl_set {g n c : Nat} {B : Nat} (hr : Kd.R (Kd.int .i64) 3 w B (fun _ => True) (.slice (some ⟨g, 0, none⟩) n c) xs) (h : RdL w A L) (k : Nat) (x : Value) : RdL (w.setCell ⟨g, k, none⟩ x) A L :=
  h.keep ((Fr.refl (fun j => j = g) w).setCell (p := ⟨g, k, none⟩) (Or.inl rfl) x) (fun j cells hc e => by
    subst e
    exact Kd.R_ne hr hc (by decide) rfl)
theorem CoS.set1 (h : CoS W w g1 g2 xs ys A L) (k : Nat) (x : Int) : CoS W (w.setCell ⟨g1, k, none⟩ (.int .i64 x)) g1 g2 (xs.set k x) ys A L := by
  have hput := Kd.R_putg h.r1 (k : Int) x
  rw [Int.toNat_natCast] at hput
  refine ⟨hput.1, Kd.R_mono (Kd.R_step (Kd.R_tight rfl h.r2) (fun j hj hlt => Below.heap_setCell _ _ _ _ (fun e => ?_))) (fun _ _ => trivial), h.ne, h.be.setCell (Kd.R_base h.r1 g1 rfl) _, rdl_set h.r1 h.ro k _⟩
  have hj2 : some j = some g2 := hj
  exact h.ne ((show j = g1 from e).symm.trans (Option.some.inj hj2))
theorem CoS.set2 (h : CoS W w g1 g2 xs ys A L) (k : Nat) (x : Int) : CoS W (w.setCell ⟨g2, k, none⟩ (.int .i64 x)) g1 g2 xs (ys.set k x) A L := by
  have hput := Kd.R_putg h.r2 (k : Int) x
  rw [Int.toNat_natCast] at hput
  refine ⟨Kd.R_mono (Kd.R_step (Kd.R_tight rfl h.r1) (fun j hj hlt => Below.heap_setCell _ _ _ _ (fun e => ?_))) (fun _ _ => trivial), hput.1, h.ne, h.be.setCell (Kd.R_base h.r2 g2 rfl) _, rdl_set h.r2 h.ro k _⟩
  have hj2 : some j = some g1 := hj
  exact h.ne ((Option.some.inj hj2).symm.trans (show j = g2 from e))
theorem CoS.below (h : CoS W w g1 g2 xs ys A L) (hb : Below w.heap.size w w') : CoS W w' g1 g2 xs ys A L :=
  ⟨Kd.R_mono (Kd.R_step (Kd.R_tight rfl h.r1) (fun k hk hlt => hb.block k hlt)) (fun _ _ => trivial), Kd.R_mono (Kd.R_step (Kd.R_tight rfl h.r2) (fun k hk hlt => hb.block k hlt)) (fun _ _ => trivial), h.ne, h.be.trans (hb.mono h.be.size), h.ro.below hb⟩
theorem CoS.a1 (h : CoS W w g1 g2 xs ys A L) {j : Nat} (hj : j < 286) : w.cell? ⟨g1, j, none⟩ = some (.int .i64 (rd xs (j : Int))) ∧ w.frozen? ⟨g1, j, none⟩ = false := by
  have := Kd.R_celln 0 h.r1 (j : Int) (by omega) (by omega)
  rw [Int.toNat_natCast] at this
  exact this
theorem CoS.a2 (h : CoS W w g1 g2 xs ys A L) {j : Nat} (hj : j < 30) : w.cell? ⟨g2, j, none⟩ = some (.int .i64 (rd ys (j : Int))) ∧ w.frozen? ⟨g2, j, none⟩ = false := by
  have := Kd.R_celln 0 h.r2 (j : Int) (by omega) (by omega)
  rw [Int.toNat_natCast] at this
  exact this
end
theorem CoS.start1 {W : World} {A : Option Addr} {L : List S60} (hr : RdL W A L) : CoS W ((W.alloc (.cells (Array.replicate 286 (.int .i64 0)) 3)).alloc (.cells (Array.replicate 30 (.int .i64 0)) 3)).drew W.heap.size (W.heap.size + 1) (List.replicate 286 0) (List.replicate 30 0) A L := by
  have r1 := R_fresh W 286 (by decide)
  have hz1 : (W.alloc (.cells (Array.replicate 286 (.int .i64 0)) 3)).heap.size = W.heap.size + 1 := by simp
  have r2 := R_fresh (W.alloc (.cells (Array.replicate 286 (.int .i64 0)) 3)) 30 (by decide)
  rw [hz1] at r2
  have hb := below_drew (below_alloc (below_alloc (Below.refl W.heap.size W) (.cells (Array.replicate 286 (.int .i64 0)) 3)) (.cells (Array.replicate 30 (.int .i64 0)) 3))
  exact ⟨Kd.R_drew (Kd.R_alloc r1 _), Kd.R_drew (Kd.R_lower r2 (Nat.le_succ _)), by omega, hb, hr.below hb⟩
theorem CoS.start2 {W : World} {A : Option Addr} {L : List S60} (hr : RdL W A L) : CoS W ((W.alloc (.cells (Array.replicate 30 (.int .i64 0)) 3)).alloc (.cells (Array.replicate 286 (.int .i64 0)) 3)).drew (W.heap.size + 1) W.heap.size (List.replicate 286 0) (List.replicate 30 0) A L := by
  have r1 := R_fresh W 30 (by decide)
  have hz1 : (W.alloc (.cells (Array.replicate 30 (.int .i64 0)) 3)).heap.size = W.heap.size + 1 := by simp
  have r2 := R_fresh (W.alloc (.cells (Array.replicate 30 (.int .i64 0)) 3)) 286 (by decide)
  rw [hz1] at r2
  have hb := below_drew (below_alloc (below_alloc (Below.refl W.heap.size W) (.cells (Array.replicate 30 (.int .i64 0)) 3)) (.cells (Array.replicate 286 (.int .i64 0)) 3))
  exact ⟨Kd.R_drew (Kd.R_lower r2 (Nat.le_succ _)), Kd.R_drew (Kd.R_alloc r1 _), by omega, hb, hr.below hb⟩
/-- What counted tells. -/
def CoQ (zs : List (Nat × Nat)) (A : Option Addr) (L : List S60) (W : World) (e : Ending) (w' : World) : Prop := ∃ g1 g2 f g, e = .returned (.tuple #[.slice (some ⟨g1, 0, none⟩) 286 286, .slice (some ⟨g2, 0, none⟩) 30 30]) ∧ CntI zs f g (2 * zs.length + 1) ∧ CoS W w' g1 g2 f g A L
set_option maxRecDepth 100000 in
set_option maxHeartbeats 16000000 in
theorem counted_okD {W : World} (A : Option Addr) (c : Nat) (xs : List (Nat × Nat)) (hr : RdL W A (xs.map toS)) (hc : xs.length ≤ 100000000) (hx : ∀ x ∈ xs, SymV x) :
    Calls Try.prog 48 #[.slice A xs.length c] W (CoQ xs A (xs.map toS) W) := by
  have hm1 : ∀ w, (Instr.makeSlice 48 (.int .i64 286) (.int .i64 286)).run Try.prog w = .ok (.slice (some ⟨w.heap.size, 0, none⟩) 286 286) (w.alloc (.cells (Array.replicate 286 (.int .i64 0)) 3)) := fun _ => by kernel_rfl
  have hm2 : ∀ w, (Instr.makeSlice 48 (.int .i64 30) (.int .i64 30)).run Try.prog w = .ok (.slice (some ⟨w.heap.size, 0, none⟩) 30 30) (w.alloc (.cells (Array.replicate 30 (.int .i64 0)) 3)) := fun _ => by kernel_rfl
  have H1 := Aside0.mk (CoS.start1 hr)
  have H2 := Aside0.mk (CoS.start2 hr)
  have HX := Aside0.mk hx
  clear hr hx
  go_enter Try.func48, Try.ntmps48
  go_wp2_with fail
  go_region
  focus
    obtain ⟨g2, hg2⟩ : ∃ g, W.heap.size + 1 = g := ⟨_, rfl⟩
    obtain ⟨g1, hg1⟩ : ∃ g, W.heap.size = g := ⟨_, rfl⟩
    generalize hw : ((W.alloc (.cells (Array.replicate 286 (.int .i64 0)) 3)).alloc (.cells (Array.replicate 30 (.int .i64 0)) 3)).drew = w1 at H1 ⊢
    have HS : Aside0 (CoS W w1 g1 g2 (List.replicate 286 0) (List.replicate 30 0) A (xs.map toS)) := ⟨by rw [← hg1, ← hg2]; exact H1.out⟩
    simp only [hg2]
    simp only [hg1]
    clear H1 H2 hm1 hm2 hg1 hg2 hw
  rotate_left
  focus
    obtain ⟨g1, hg1⟩ : ∃ g, W.heap.size + 1 = g := ⟨_, rfl⟩
    obtain ⟨g2, hg2⟩ : ∃ g, W.heap.size = g := ⟨_, rfl⟩
    generalize hw : ((W.alloc (.cells (Array.replicate 30 (.int .i64 0)) 3)).alloc (.cells (Array.replicate 286 (.int .i64 0)) 3)).drew = w1 at H2 ⊢
    have HS : Aside0 (CoS W w1 g1 g2 (List.replicate 286 0) (List.replicate 30 0) A (xs.map toS)) := ⟨by rw [← hg1, ← hg2]; exact H2.out⟩
    simp only [hg1]
    simp only [hg2]
    clear H1 H2 hm1 hm2 hg1 hg2 hw
  all_goals
    obtain ⟨ca, fa⟩ := HS.out.a1 (j := 256) (by decide)
    have HS1 := Aside0.mk (HS.out.set1 256 1)
    go_upto_region 3 with (fail)
    generalize w1.setCell ⟨g1, 256, none⟩ (.int .i64 1) = w2 at HS1 ⊢
    clear HS ca fa
    have HC0 := Aside0.mk CntI.start
    go_wp2_with fail
    go_loopw [15] (fun v15 wr => ∃ (k : Nat) (f g : List Int), v15 = .int .i64 k ∧ k ≤ xs.length ∧ Aside0 (CoS W wr g1 g2 f g A (xs.map toS)) ∧ Aside0 (CntI (xs.take k) f g (2 * k + 1))) (fun v15 _ => xs.length - (intOf v15).toNat)
    case atStart => exact ⟨0, _, _, rfl, Nat.zero_le _, HS1, HC0⟩
    case round =>
      clear HS1 HC0
      obtain ⟨k, ff, gg, rfl, hk, HS, HC⟩ := hrel
      by_cases hlt : k < xs.length
      · have b1 : decide ((k : Int) < (xs.length : Int)) = true := decide_eq_true (by omega)
        have p0 : (0 : Int) ≤ (k : Int) := by omega
        have p1 : (k : Int) < (xs.length : Int) := by omega
        obtain ⟨ad, hA, ca, cb⟩ := at_T60 (HS.out.ro.c) (k : Int) p0 (by rw [List.length_map]; exact p1)
        subst hA
        obtain ⟨⟨f, n⟩, hxk⟩ : ∃ x, xs[k] = x := ⟨_, rfl⟩
        rw [rd_toS hlt hxk, Int.toNat_natCast] at ca cb
        have HTK : Aside0 (xs.take (k + 1) = xs.take k ++ [(f, n)]) := ⟨by rw [List.take_succ_eq_append_getElem hlt, hxk]⟩
        have hin : SymV (f, n) := hxk ▸ HX.out xs[k] (List.getElem_mem _)
        have HK := Aside0.mk hlt
        clear hxk hlt hk
        rcases hin with ⟨h0, hn256⟩ | ⟨h0, ⟨h3, h258, hf1, hf32⟩⟩
        · have h0' : f = 0 := h0
          subst h0'
          have hn256' : n < 256 := hn256
          have HR := Aside0.mk (rd_rng HC.out.1 HC.out.2.2.1 (j := n) (by omega))
          have HC2 : Aside0 (CntI (xs.take (k + 1)) (ff.set n (rd ff (n : Int) + 1)) gg (2 * ((k + 1 : Nat) : Int) + 1)) := ⟨by
            rw [HTK.out]
            exact ((HC.out.bumpF (j := n) (by omega)).mono (by omega)).snocL (Or.inl ⟨rfl, bump_self (by have := HC.out.1; omega) HR.out.1⟩)⟩
          clear h0 hn256 HC
          have ca' : wr.cell? (ad.add (k * 2)) = some (.int .i64 0) := ca
          clear ca
          go_upto_region 6 with (fail)
          have hb1 := below_alloc (Below.refl wr.heap.size wr) (.cells #[.int .i64 0, .int .i64 (n : Int)] 60)
          have HX1 := Aside0.mk (heap_alloc_new wr (.cells #[.int .i64 0, .int .i64 (n : Int)] 60))
          have HS1 := Aside0.mk (HS.out.below hb1)
          obtain ⟨q, hq⟩ : ∃ q, wr.heap.size = q := ⟨_, rfl⟩
          rw [hq] at HX1
          rw [hq]
          clear hb1 HS ca' cb hq
          generalize wr.alloc (.cells #[.int .i64 0, .int .i64 (n : Int)] 60) = w3 at HS1 HX1 ⊢
          have x0 : w3.cell? ⟨q, 0, none⟩ = some (.int .i64 0) := (blk_cell HX1.out 0).trans rfl
          have x1 : w3.cell? ⟨q, 1, none⟩ = some (.int .i64 (n : Int)) := (blk_cell HX1.out 1).trans rfl
          obtain ⟨y0, y1⟩ := HS1.out.a1 (j := n) (by omega)
          have HS2 := Aside0.mk (HS1.out.set1 n (rd ff (n : Int) + 1))
          obtain ⟨v, hv⟩ : ∃ v, rd ff (n : Int) = v := ⟨_, rfl⟩
          rw [hv] at HR HC2 y0 HS2
          have hv0 := HR.out.1
          have hv1 : v ≤ 1000000000 := by have := HR.out.2; have := HK.out; omega
          have p2 : (0 : Int) ≤ (n : Int) := by omega
          have p3 : (n : Int) < 286 := by omega
          clear HS1 HX1 hv
          go_wp2_with fail
          go_roundw
          case rel => exact ⟨k + 1, _, gg, by go_num, HK.out, HS2, HC2⟩
          case measure => simp [intOf]; have := HK.out; omega
        · have h0n : ¬ (f : Int) = 0 := by
            have : f ≠ 0 := h0
            omega
          have hf1' : 1 ≤ f := hf1
          have hf32' : f ≤ 32768 := hf32
          have h3' : 3 ≤ n := h3
          have h258' : n ≤ 258 := h258
          have b2 : ((f : Int) == 0) = false := by simp; omega
          have HLB := Aside0.mk (lenS_bd h3' h258')
          have HDB := Aside0.mk (dis_spec f hf1' hf32')
          have HLF := Aside0.mk (fun w => deflate_length.calls 30 (n : Int) _ _ _ w (length_f n h3' h258'))
          have HDF := Aside0.mk (fun w => deflate_spread.calls 30 ((f : Int) - 1) 2 _ _ _ w (dist_f f hf1' hf32'))
          have HRF := Aside0.mk (rd_rng HC.out.1 HC.out.2.2.1 (j := (lenS n).1) (by have := HLB.out.1.2; omega))
          have HRG := Aside0.mk (rd_rng HC.out.2.1 HC.out.2.2.2.1 (j := (disS f).1) HDB.out.1)
          have HC2 : Aside0 (CntI (xs.take (k + 1)) (ff.set (lenS n).1 (rd ff ((lenS n).1 : Int) + 1)) (gg.set (disS f).1 (rd gg ((disS f).1 : Int) + 1)) (2 * ((k + 1 : Nat) : Int) + 1)) := ⟨by
            rw [HTK.out]
            have hb := (HC.out.bumpF (j := (lenS n).1) (by have := HLB.out.1.2; omega)).bumpG (j := (disS f).1) HDB.out.1
            exact (hb.mono (by omega)).snocL (Or.inr ⟨h0, bump_self (by have := HC.out.1; have := HLB.out.1.2; omega) HRF.out.1, bump_self (by have := HC.out.2.1; have := HDB.out.1; omega) HRG.out.1⟩)⟩
          obtain ⟨kl, hkl⟩ : ∃ kl, (lenS n).1 = kl := ⟨_, rfl⟩
          obtain ⟨xl, hxl⟩ : ∃ xl, (lenS n).2.1 = xl := ⟨_, rfl⟩
          obtain ⟨bl, hbl⟩ : ∃ bl, (lenS n).2.2 = bl := ⟨_, rfl⟩
          obtain ⟨kd, hkd⟩ : ∃ kd, (disS f).1 = kd := ⟨_, rfl⟩
          obtain ⟨xd, hxd⟩ : ∃ xd, (disS f).2.1 = xd := ⟨_, rfl⟩
          obtain ⟨bd, hbd⟩ : ∃ bd, (disS f).2.2 = bd := ⟨_, rfl⟩
          simp only [hkl, hxl, hbl] at HLB HLF HC2 HRF
          simp only [hkd, hxd, hbd] at HDB HDF HC2 HRG
          clear hkl hxl hbl hkd hxd hbd h0 h3 h258 hf1 hf32 HC
          go_upto_region 6 with (fail)
          have hb1 := below_alloc (Below.refl wr.heap.size wr) (.cells #[.int .i64 (f : Int), .int .i64 (n : Int)] 60)
          have HX1 := Aside0.mk (heap_alloc_new wr (.cells #[.int .i64 (f : Int), .int .i64 (n : Int)] 60))
          have HS1 := Aside0.mk (HS.out.below hb1)
          obtain ⟨q, hq⟩ : ∃ q, wr.heap.size = q := ⟨_, rfl⟩
          rw [hq] at HX1
          rw [hq]
          clear hb1 HS ca cb hq
          generalize wr.alloc (.cells #[.int .i64 (f : Int), .int .i64 (n : Int)] 60) = w3 at HS1 HX1 ⊢
          have x0 : w3.cell? ⟨q, 0, none⟩ = some (.int .i64 (f : Int)) := (blk_cell HX1.out 0).trans rfl
          have x1 : w3.cell? ⟨q, 1, none⟩ = some (.int .i64 (n : Int)) := (blk_cell HX1.out 1).trans rfl
          go_wp2_with fail
          refine (HLF.out _).mono ?_
          rintro e w4 ⟨rfl, hd4⟩
          have HS4 := Aside0.mk (HS1.out.below hd4.below)
          have HX4 := Aside0.mk ((hd4.below.block _ (blk_lt HX1.out)).trans HX1.out)
          clear HS1 HX1 x0 x1 hd4
          have hkl1 := HLB.out.1.2
          obtain ⟨y0, y1⟩ := HS4.out.a1 (j := kl) (by omega)
          have HS5 := Aside0.mk (HS4.out.set1 kl (rd ff (kl : Int) + 1))
          have HX5 : Aside0 ((w4.setCell ⟨g1, kl, none⟩ (.int .i64 (rd ff (kl : Int) + 1))).heap[q]? = some (.cells #[.int .i64 (f : Int), .int .i64 (n : Int)] 60 (0, 0))) := ⟨(Below.heap_setCell _ _ _ _ (fun e => Kd.R_ne HS4.out.r1 HX4.out (by decide) (by rw [show q = g1 from e]; rfl))).trans HX4.out⟩
          obtain ⟨v, hv⟩ : ∃ v, rd ff (kl : Int) = v := ⟨_, rfl⟩
          rw [hv] at HRF HC2 y0 HS5 HX5
          have hv0 := HRF.out.1
          have hv1 : v ≤ 1000000000 := by have := HRF.out.2; have := HK.out; omega
          have p2 : (0 : Int) ≤ (kl : Int) := by omega
          have p3 : (kl : Int) < 286 := by omega
          clear HS4 HX4 hv
          go_upto_region 10 with (fail)
          clear y0 y1
          generalize w4.setCell ⟨g1, kl, none⟩ (.int .i64 (v + 1)) = w5 at HS5 HX5 ⊢
          have x0 : w5.cell? ⟨q, 0, none⟩ = some (.int .i64 (f : Int)) := (blk_cell HX5.out 0).trans rfl
          go_wp2_with fail
          refine (HDF.out _).mono ?_
          rintro e w6 ⟨rfl, hd6⟩
          have HS6 := Aside0.mk (HS5.out.below hd6.below)
          clear HS5 HX5 x0 hd6
          have hkd1 := HDB.out.1
          obtain ⟨z0, z1⟩ := HS6.out.a2 (j := kd) hkd1
          have HS7 := Aside0.mk (HS6.out.set2 kd (rd gg (kd : Int) + 1))
          obtain ⟨u, hu⟩ : ∃ u, rd gg (kd : Int) = u := ⟨_, rfl⟩
          rw [hu] at HRG HC2 z0 HS7
          have hu0 := HRG.out.1
          have hu1 : u ≤ 1000000000 := by have := HRG.out.2; have := HK.out; omega
          have p4 : (0 : Int) ≤ (kd : Int) := by omega
          have p5 : (kd : Int) < 30 := by omega
          clear HS6 hu
          go_wp2_with fail
          go_roundw
          case rel => exact ⟨k + 1, _, _, by go_num, HK.out, HS7, HC2⟩
          case measure => simp [intOf]; have := HK.out; omega
      · have hke : k = xs.length := by omega
        subst hke
        rw [List.take_length] at HC
        have b1 : decide ((xs.length : Int) < (xs.length : Int)) = false := by simp
        clear hlt hk
        go_wp2_with fail
        go_ret2
        exact ⟨g1, g2, ff, gg, rfl, HC.out, HS.out⟩
end Go.Proofs.Ytaghmhcccighgaa.DF
end
section
/- huff.Whole, counted, Cost: walked. -/
namespace Go.Proofs.Ytaghmhcccighgaa.HF
open Go.RowKit Go.Proofs.YtaghmhcccighgaaW.PrintWords Go.Proofs.YtaghmhcccighgaaW.PrintLast Go.Proofs.YtaghmhcccighgaaW.PrintMore Go.Proofs.Ytaghmhcccighgaa.HW Go.Proofs.Ytaghmhcccighgaa.MB Go.Proofs.Ytaghmhcccighgaa.Fn
attribute [local go_sem] max2_int min2_int max_two min_two max_three min_three max_four min_four   -- for this text's walks alone
/-- What Whole tells. -/
def WQ (lens : List Int) (W : World) (e : Ending) (w' : World) : Prop := e = .returned (.tuple #[.bool (okL lens && wholeL lens), .int .i64 (if okL lens then 0 else 30)]) ∧ Below W.heap.size W w'
set_option maxHeartbeats 2000000 in
theorem whole_any (A : Option Addr) (c : Nat) (lens : List Int) (W : World) (hr : Kd.C (Kd.int .i64) W A lens.length lens) (hc : lens.length ≤ c) : Calls Try.prog 57 #[.slice A lens.length c] W (WQ lens W) := by
  have hu := Try.underlying97
  have HC := Aside0.mk (counts_any A c lens W hr hc)
  clear hr hc
  go_enter Try.func57, Try.ntmps57
  go_wp2_with fail
  refine HC.out.mono ?_
  rintro e w1 ⟨f, rfl, hf, hb⟩
  have HF := Aside0.mk hf
  have HB := Aside0.mk hb
  clear hf hb HC
  cases hok : okL lens with
  | false =>
    have HO := Aside0.mk hok
    clear HF hok
    go_wp2_with ((with_reducible refine gate_store (t := 97) (p := 4) (v := .tmp 9) rfl ?_); go_must (refine store_all rfl rfl rfl w1.heap.size (arrV (fun _ => 0)) (arrV f) 97 (by rfl) (by rfl) (IsArr.new w1) ((arrV_size _).trans (arrV_size _).symm) (by rw [arrV_size]; kernel_rfl) (arrV_one _) ?_); intro w9 hr1 hf6; have HF6 := Aside0.mk hf6; clear hr1 hf6)
    go_ret2
    exact ⟨(by rw [HO.out]; rfl), HB.out.trans (((below_alloc (Below.refl w1.heap.size w1) _).trans (HF6.out.below (by show _ ≤ (Array.push _ _).size; rw [Array.size_push]; omega) (fun k hk => by rw [hk]; exact Nat.le_refl _))).mono HB.out.size)⟩
  | true =>
    have HO := Aside0.mk hok
    clear hok
    go_upto_region 4 with ((with_reducible refine gate_store (t := 97) (p := 4) (v := .tmp 9) rfl ?_); go_must (refine store_all rfl rfl rfl w1.heap.size (arrV (fun _ => 0)) (arrV f) 97 (by rfl) (by rfl) (IsArr.new w1) ((arrV_size _).trans (arrV_size _).symm) (by rw [arrV_size]; kernel_rfl) (arrV_one _) ?_); intro w9 hr1 hf6; have HR1 := Aside0.mk hr1; have HF6 := Aside0.mk hf6; clear hr1 hf6)
    have c0 := IsArr.cell (f := f) HR1.out 0 (by decide)
    have h0 : f 0 = rooms (fun l => cntL lens l) 15 := by rw [HF.out HO.out 0 (by decide)]; rfl
    rw [h0] at c0
    obtain ⟨r, hr⟩ : ∃ r, rooms (fun l => cntL lens l) 15 = r := ⟨_, rfl⟩
    rw [hr] at c0
    have HW := Aside0.mk (show wholeL lens = (r == 0) from by unfold wholeL; rw [hr]; by_cases h : r = 0 <;> simp [h])
    clear h0 hr
    go_wp2_with fail
    go_ret2
    exact ⟨(by rw [HO.out, HW.out]; rfl), HB.out.trans (((below_alloc (Below.refl w1.heap.size w1) _).trans (HF6.out.below (by show _ ≤ (Array.push _ _).size; rw [Array.size_push]; omega) (fun k hk => by rw [hk]; exact Nat.le_refl _))).mono HB.out.size)⟩
def freqOk (f : Int) : Bool := decide (0 ≤ f ∧ f ≤ 1099511627776)
def countedL (fs : List Int) : Bool := fs.all freqOk
set_option maxHeartbeats 1000000 in
theorem fclos_ok (x : Int) (W : World) : Calls Try.prog 69 #[.int .i64 x] W fun e w' => e = .returned (.bool (!freqOk x)) ∧ W = w' := by
  by_cases h1 : x < 0
  · have hb : decide (x < 0) = true := by simpa using h1
    have HF := Aside0.mk (show freqOk x = false from by unfold freqOk; exact decide_eq_false (by omega))
    clear h1
    go_enter Try.func69, Try.ntmps69
    go_wp2_with fail
    go_ret
    exact ⟨by rw [HF.out]; rfl, rfl⟩
  · have hb : decide (x < 0) = false := by simpa using h1
    by_cases h2 : 1099511627776 < x
    · have hb2 : decide (1099511627776 < x) = true := by simpa using h2
      have HF := Aside0.mk (show freqOk x = false from by unfold freqOk; exact decide_eq_false (by omega))
      clear h1 h2
      go_enter Try.func69, Try.ntmps69
      go_wp2_with fail
      go_ret
      exact ⟨by rw [HF.out]; rfl, rfl⟩
    · have hb2 : decide (1099511627776 < x) = false := by simpa using h2
      have HF := Aside0.mk (show freqOk x = true from by unfold freqOk; exact decide_eq_true (by omega))
      clear h1 h2
      go_enter Try.func69, Try.ntmps69
      go_wp2_with fail
      go_ret
      exact ⟨by rw [HF.out]; rfl, rfl⟩
/-- Where the first bad one stands. -/
def findex : List Int → Nat → Int
  | [], _ => -1
  | x :: t, i => if freqOk x = true then findex t (i + 1) else i
theorem findex_pos : ∀ (l : List Int) (i : Nat), decide (0 ≤ findex l i) = !countedL l
  | [], i => by simp [findex, countedL]
  | x :: t, i => by
    have ih := findex_pos t (i + 1)
    unfold findex
    by_cases h : freqOk x = true
    · rw [if_pos h, ih]; simp [countedL, h]
    · rw [if_neg h]; simp [countedL, h]
set_option maxHeartbeats 2000000 in
theorem findex_ok (A : Option Addr) (c : Nat) (l : List Int) (W : World) (hr : Kd.C (Kd.int .i64) W A l.length l) (hn : l.length ≤ 9223372036854775807) :
    Calls Try.prog 74 #[.slice A l.length c, .func (.func 69) #[] #[]] W fun e w' => e = .returned (.int .i64 (findex l 0)) ∧ W = w' := by
  have HL := Aside0.mk hr
  have HN := Aside0.mk hn
  clear hr hn
  go_enter Try.func74, Try.ntmps74
  go_wp2_with fail
  go_loopw [8] (fun v8 wr => ∃ i : Nat, v8 = .int .i64 i ∧ i ≤ l.length ∧ Aside0 (W = wr) ∧ Aside0 (findex l 0 = findex (l.drop i) i)) (fun v8 _ => l.length - (intOf v8).toNat)
  case atStart => exact ⟨0, rfl, Nat.zero_le _, ⟨rfl⟩, ⟨rfl⟩⟩
  case round =>
    obtain ⟨i, rfl, hi, HWE, HJ⟩ := hrel
    have hwe := HWE.out
    subst hwe
    by_cases hlt : i < l.length
    · have hb1 : decide ((i : Int) < (l.length : Int)) = true := by simp; omega
      obtain ⟨ad, hA, h0⟩ := Kd.at_int HL.out (i : Int) (by omega) (by omega)
      subst hA
      simp only [Int.toNat_natCast] at h0
      have q1 : (0 : Int) ≤ (i : Int) := by omega
      have q2 : (i : Int) < (l.length : Int) := by omega
      have q3 : (l.length : Int) ≤ 9223372036854775807 := by have := HN.out; omega
      have hd : findex (l.drop i) i = if freqOk (rd l i) = true then findex (l.drop (i + 1)) (i + 1) else (i : Int) := by
        rw [List.drop_eq_getElem_cons hlt, findex, rd_get l i hlt]
      obtain ⟨x, hx⟩ : ∃ z, rd l (i : Int) = z := ⟨_, rfl⟩
      rw [hx] at h0 hd
      have HD := Aside0.mk hd
      have HI := Aside0.mk hlt
      clear hd hx
      go_wp2_with fail
      refine (fclos_ok x W).mono ?_
      rintro e w2 ⟨rfl, rfl⟩
      have hd2 := HD.out
      by_cases hs : freqOk x = true
      · rw [hs] at hd2 ⊢
        rw [if_pos rfl] at hd2
        have HJ2 := Aside0.mk (HJ.out.trans hd2)
        clear hs hd2
        go_wp2_with fail
        go_roundw
        case rel => exact ⟨i + 1, by simp, HI.out, ⟨by first | rfl | trivial⟩, HJ2⟩
        case measure => simp [intOf]; have := HI.out; omega
      · have hs2 := Bool.eq_false_iff.2 hs
        rw [hs2] at hd2 ⊢
        rw [if_neg (by decide)] at hd2
        clear hs hs2
        have HD2 := Aside0.mk hd2
        clear hd2
        go_wp2_with fail
        go_ret
        exact ⟨by rw [HJ.out, HD2.out]; rfl, rfl⟩
    · have hie : i = l.length := by omega
      subst hie
      have hb1 : decide ((l.length : Int) < (l.length : Int)) = false := by simp
      clear hlt
      go_wp2_with fail
      go_ret
      have := HJ.out
      rw [List.drop_length] at this
      exact ⟨by rw [this]; rfl, rfl⟩
set_option maxHeartbeats 1000000 in
theorem fcont_ok (A : Option Addr) (c : Nat) (l : List Int) (W : World) (hr : Kd.C (Kd.int .i64) W A l.length l) (hn : l.length ≤ 9223372036854775807) :
    Calls Try.prog 68 #[.slice A l.length c, .func (.func 69) #[] #[]] W fun e w' => e = .returned (.bool (!countedL l)) ∧ W = w' := by
  have h0 := findex_ok A c l W hr hn
  have he : decide (0 ≤ findex l 0) = !countedL l := findex_pos l 0
  obtain ⟨r, hr⟩ : ∃ r, findex l 0 = r := ⟨_, rfl⟩
  obtain ⟨d, hd⟩ : ∃ d, (!countedL l) = d := ⟨_, rfl⟩
  rw [hr] at h0 he
  rw [hd] at he
  rw [hd]
  have H := Aside0.mk h0
  clear h0 hr hd
  go_enter Try.func68, Try.ntmps68
  go_wp2_with fail
  refine H.out.mono ?_
  rintro e w2 ⟨rfl, rfl⟩
  cases d with
  | true =>
    go_wp2_with fail
    go_ret
    exact ⟨rfl, rfl⟩
  | false =>
    go_wp2_with fail
    go_ret
    exact ⟨rfl, rfl⟩
set_option maxHeartbeats 1000000 in
theorem counted_ok (A : Option Addr) (c : Nat) (l : List Int) (W : World) (hr : Kd.C (Kd.int .i64) W A l.length l) (hn : l.length ≤ 9223372036854775807) :
    Calls Try.prog 62 #[.slice A l.length c] W fun e w' => e = .returned (.bool (countedL l)) ∧ W = w' := by
  have H := Aside0.mk (fcont_ok A c l W hr hn)
  clear hr hn
  go_enter Try.func62, Try.ntmps62
  go_wp2_with fail
  refine H.out.mono ?_
  rintro e w2 ⟨rfl, rfl⟩
  go_wp2_with fail
  go_ret
  exact ⟨by simp, rfl⟩
end Go.Proofs.Ytaghmhcccighgaa.HF
end
section
/- What symbols cost: plain. -/
namespace Go.Proofs.Ytaghmhcccighgaa.HF
open Go.RowKit Go.Proofs.YtaghmhcccighgaaW.PrintWords Go.Proofs.YtaghmhcccighgaaW.PrintLast Go.Proofs.YtaghmhcccighgaaW.PrintMore Go.Proofs.Ytaghmhcccighgaa.HW Go.Proofs.Ytaghmhcccighgaa.MB Go.Proofs.Ytaghmhcccighgaa.Fn
attribute [local go_sem] max2_int min2_int max_two min_two max_three min_three max_four min_four   -- for this text's walks alone
def costG : List Int → List Int → Int → Int × Int
  | f :: fs, l :: ls, s => if 0 < f ∧ l = 0 then (0, 30) else costG fs ls (s + f * l)
  | _, _, s => (s, 0)
end Go.Proofs.Ytaghmhcccighgaa.HF
end
section
-- machine text of this session's own
namespace Go.Proofs.Ytaghmhcccighgaa.Fn
open Go.RowKit Go.Proofs.YtaghmhcccighgaaW.PrintWords Go.Proofs.YtaghmhcccighgaaW.PrintLast Go.Proofs.YtaghmhcccighgaaW.PrintMore
attribute [local go_sem] max2_int min2_int max_two min_two max_three min_three max_four min_four   -- for this text's walks alone
set_option linter.unusedVariables false
set_option linter.unusedSimpArgs false
/-! ### cmp_isNaN_int: function 70 -/
def cmp_isNaN_int.f (a0 : Int) : Option (Bool) := some (a0 != a0)
set_option maxHeartbeats 8000000 in
set_option maxRecDepth 100000 in
theorem cmp_isNaN_int.calls (a0 : Int) (r : Bool) (w : World) (h : cmp_isNaN_int.f a0 = some r) :
    Calls Try.prog 70 #[.int .i64 a0] w fun e w' => e = .returned (.bool r) ∧ Drawn0 w w' := by
  have H : (some (a0 != a0)) = some r := h
  clear h
  obtain rfl := Option.some.inj H
  go_enter Try.func70, Try.ntmps70
  go_wp2
  go_ret
  exact ⟨by first | rfl | (simp; done) | (simp [*]; done), by repeat (first | exact Drawn0.refl _ | apply Drawn0.step)⟩
/-! ### cmp_Compare_int: function 64 -/
def cmp_Compare_int.f (a0 : Int) (a1 : Int) : Option (Int) := (cmp_isNaN_int.f a0).bind fun t101 => ((cmp_isNaN_int.f a1).bind fun t102 => (if t101 = true then (if t102 = true then (some 0) else (some (-1))) else (if t102 = true then (some 1) else (if a0 < a1 then (some (-1)) else (if a0 > a1 then (some 1) else (some 0))))))
set_option maxHeartbeats 8000000 in
set_option maxRecDepth 100000 in
theorem cmp_Compare_int.calls (a0 : Int) (a1 : Int) (r : Int) (w : World) (h : cmp_Compare_int.f a0 a1 = some r) :
    Calls Try.prog 64 #[.int .i64 a0, .int .i64 a1] w fun e w' => e = .returned (.int .i64 r) ∧ Drawn0 w w' := by
  have H : ((cmp_isNaN_int.f a0).bind fun t101 => ((cmp_isNaN_int.f a1).bind fun t102 => (if t101 = true then (if t102 = true then (some 0) else (some (-1))) else (if t102 = true then (some 1) else (if a0 < a1 then (some (-1)) else (if a0 > a1 then (some 1) else (some 0))))))) = some r := h
  clear h
  replace H := Option.bind_eq_some_iff.mp H
  obtain ⟨t101, A30, H⟩ := H
  replace H : ((cmp_isNaN_int.f a1).bind fun t102 => (if t101 = true then (if t102 = true then (some 0) else (some (-1))) else (if t102 = true then (some 1) else (if a0 < a1 then (some (-1)) else (if a0 > a1 then (some 1) else (some 0)))))) = some r := H
  have A3 := Aside0.mk A30
  clear A30
  replace H := Option.bind_eq_some_iff.mp H
  obtain ⟨t102, A40, H⟩ := H
  replace H : (if t101 = true then (if t102 = true then (some 0) else (some (-1))) else (if t102 = true then (some 1) else (if a0 < a1 then (some (-1)) else (if a0 > a1 then (some 1) else (some 0))))) = some r := H
  have A4 := Aside0.mk A40
  clear A40
  by_cases c5 : t101 = true
  · subst c5
    have H1 : (if t102 = true then (some 0) else (some (-1))) = some r := by rw [if_pos rfl] at H; exact H
    clear H
    have H := H1
    clear H1
    by_cases c6 : t102 = true
    · subst c6
      have H1 : (some 0) = some r := by rw [if_pos rfl] at H; exact H
      clear H
      have H := H1
      clear H1
      obtain rfl := Option.some.inj H
      go_enter Try.func64, Try.ntmps64
      go_wp2_with (first | ((with_reducible refine gate_callee (f := 70) rfl ?_); refine goesL_ (some 8) rfl rfl Try.func70 (by kernel_rfl) rfl #[.int .i64 a0] rfl (by (try simp only [List.map_toArray, List.map_cons, List.map_nil]); first | done | rfl | (simp only [List.length_drop, List.length_take]; rfl)) ?_; (with_reducible refine (cmp_isNaN_int.calls a0 true _ A3.out).mono ?_); rintro e w' ⟨rfl, ⟨nd, rfl⟩⟩; refine ⟨_, rfl, ?_⟩) | ((with_reducible refine gate_callee (f := 70) rfl ?_); refine goesL_ (some 10) rfl rfl Try.func70 (by kernel_rfl) rfl #[.int .i64 a1] rfl (by (try simp only [List.map_toArray, List.map_cons, List.map_nil]); first | done | rfl | (simp only [List.length_drop, List.length_take]; rfl)) ?_; (with_reducible refine (cmp_isNaN_int.calls a1 true _ A4.out).mono ?_); rintro e w' ⟨rfl, ⟨nd, rfl⟩⟩; refine ⟨_, rfl, ?_⟩))
      go_ret
      exact ⟨by first | rfl | (simp; done) | (simp [*]; done), by repeat (first | exact Drawn0.refl _ | apply Drawn0.step)⟩
    · replace c6 := Bool.eq_false_iff.mpr c6
      subst c6
      have H1 : (some (-1)) = some r := by rw [if_neg (show ¬ (false = true) by decide)] at H; exact H
      clear H
      have H := H1
      clear H1
      obtain rfl := Option.some.inj H
      go_enter Try.func64, Try.ntmps64
      go_wp2_with (first | ((with_reducible refine gate_callee (f := 70) rfl ?_); refine goesL_ (some 8) rfl rfl Try.func70 (by kernel_rfl) rfl #[.int .i64 a0] rfl (by (try simp only [List.map_toArray, List.map_cons, List.map_nil]); first | done | rfl | (simp only [List.length_drop, List.length_take]; rfl)) ?_; (with_reducible refine (cmp_isNaN_int.calls a0 true _ A3.out).mono ?_); rintro e w' ⟨rfl, ⟨nd, rfl⟩⟩; refine ⟨_, rfl, ?_⟩) | ((with_reducible refine gate_callee (f := 70) rfl ?_); refine goesL_ (some 10) rfl rfl Try.func70 (by kernel_rfl) rfl #[.int .i64 a1] rfl (by (try simp only [List.map_toArray, List.map_cons, List.map_nil]); first | done | rfl | (simp only [List.length_drop, List.length_take]; rfl)) ?_; (with_reducible refine (cmp_isNaN_int.calls a1 false _ A4.out).mono ?_); rintro e w' ⟨rfl, ⟨nd, rfl⟩⟩; refine ⟨_, rfl, ?_⟩))
      go_ret
      exact ⟨by first | rfl | (simp; done) | (simp [*]; done), by repeat (first | exact Drawn0.refl _ | apply Drawn0.step)⟩
  · replace c5 := Bool.eq_false_iff.mpr c5
    subst c5
    have H1 : (if t102 = true then (some 1) else (if a0 < a1 then (some (-1)) else (if a0 > a1 then (some 1) else (some 0)))) = some r := by rw [if_neg (show ¬ (false = true) by decide)] at H; exact H
    clear H
    have H := H1
    clear H1
    by_cases c7 : t102 = true
    · subst c7
      have H1 : (some 1) = some r := by rw [if_pos rfl] at H; exact H
      clear H
      have H := H1
      clear H1
      obtain rfl := Option.some.inj H
      go_enter Try.func64, Try.ntmps64
      go_wp2_with (first | ((with_reducible refine gate_callee (f := 70) rfl ?_); refine goesL_ (some 8) rfl rfl Try.func70 (by kernel_rfl) rfl #[.int .i64 a0] rfl (by (try simp only [List.map_toArray, List.map_cons, List.map_nil]); first | done | rfl | (simp only [List.length_drop, List.length_take]; rfl)) ?_; (with_reducible refine (cmp_isNaN_int.calls a0 false _ A3.out).mono ?_); rintro e w' ⟨rfl, ⟨nd, rfl⟩⟩; refine ⟨_, rfl, ?_⟩) | ((with_reducible refine gate_callee (f := 70) rfl ?_); refine goesL_ (some 10) rfl rfl Try.func70 (by kernel_rfl) rfl #[.int .i64 a1] rfl (by (try simp only [List.map_toArray, List.map_cons, List.map_nil]); first | done | rfl | (simp only [List.length_drop, List.length_take]; rfl)) ?_; (with_reducible refine (cmp_isNaN_int.calls a1 true _ A4.out).mono ?_); rintro e w' ⟨rfl, ⟨nd, rfl⟩⟩; refine ⟨_, rfl, ?_⟩))
      go_ret
      exact ⟨by first | rfl | (simp; done) | (simp [*]; done), by repeat (first | exact Drawn0.refl _ | apply Drawn0.step)⟩
    · replace c7 := Bool.eq_false_iff.mpr c7
      subst c7
      have H1 : (if a0 < a1 then (some (-1)) else (if a0 > a1 then (some 1) else (some 0))) = some r := by rw [if_neg (show ¬ (false = true) by decide)] at H; exact H
      clear H
      have H := H1
      clear H1
      by_cases c8 : a0 < a1
      · rw [if_pos c8] at H
        have c8b0 : decide (a0 < a1) = true := decide_eq_true c8
        clear c8
        obtain rfl := Option.some.inj H
        go_enter Try.func64, Try.ntmps64
        go_wp2_with (first | ((with_reducible refine gate_callee (f := 70) rfl ?_); refine goesL_ (some 8) rfl rfl Try.func70 (by kernel_rfl) rfl #[.int .i64 a0] rfl (by (try simp only [List.map_toArray, List.map_cons, List.map_nil]); first | done | rfl | (simp only [List.length_drop, List.length_take]; rfl)) ?_; (with_reducible refine (cmp_isNaN_int.calls a0 false _ A3.out).mono ?_); rintro e w' ⟨rfl, ⟨nd, rfl⟩⟩; refine ⟨_, rfl, ?_⟩) | ((with_reducible refine gate_callee (f := 70) rfl ?_); refine goesL_ (some 10) rfl rfl Try.func70 (by kernel_rfl) rfl #[.int .i64 a1] rfl (by (try simp only [List.map_toArray, List.map_cons, List.map_nil]); first | done | rfl | (simp only [List.length_drop, List.length_take]; rfl)) ?_; (with_reducible refine (cmp_isNaN_int.calls a1 false _ A4.out).mono ?_); rintro e w' ⟨rfl, ⟨nd, rfl⟩⟩; refine ⟨_, rfl, ?_⟩))
        go_ret
        exact ⟨by first | rfl | (simp; done) | (simp [*]; done), by repeat (first | exact Drawn0.refl _ | apply Drawn0.step)⟩
      · rw [if_neg c8] at H
        have c8b0 : decide (a0 < a1) = false := decide_eq_false c8
        clear c8
        by_cases c9 : a0 > a1
        · rw [if_pos c9] at H
          have c9b0 : decide (a1 < a0) = true := decide_eq_true c9
          clear c9
          obtain rfl := Option.some.inj H
          go_enter Try.func64, Try.ntmps64
          go_wp2_with (first | ((with_reducible refine gate_callee (f := 70) rfl ?_); refine goesL_ (some 8) rfl rfl Try.func70 (by kernel_rfl) rfl #[.int .i64 a0] rfl (by (try simp only [List.map_toArray, List.map_cons, List.map_nil]); first | done | rfl | (simp only [List.length_drop, List.length_take]; rfl)) ?_; (with_reducible refine (cmp_isNaN_int.calls a0 false _ A3.out).mono ?_); rintro e w' ⟨rfl, ⟨nd, rfl⟩⟩; refine ⟨_, rfl, ?_⟩) | ((with_reducible refine gate_callee (f := 70) rfl ?_); refine goesL_ (some 10) rfl rfl Try.func70 (by kernel_rfl) rfl #[.int .i64 a1] rfl (by (try simp only [List.map_toArray, List.map_cons, List.map_nil]); first | done | rfl | (simp only [List.length_drop, List.length_take]; rfl)) ?_; (with_reducible refine (cmp_isNaN_int.calls a1 false _ A4.out).mono ?_); rintro e w' ⟨rfl, ⟨nd, rfl⟩⟩; refine ⟨_, rfl, ?_⟩))
          go_ret
          exact ⟨by first | rfl | (simp; done) | (simp [*]; done), by repeat (first | exact Drawn0.refl _ | apply Drawn0.step)⟩
        · rw [if_neg c9] at H
          have c9b0 : decide (a1 < a0) = false := decide_eq_false c9
          clear c9
          obtain rfl := Option.some.inj H
          go_enter Try.func64, Try.ntmps64
          go_wp2_with (first | ((with_reducible refine gate_callee (f := 70) rfl ?_); refine goesL_ (some 8) rfl rfl Try.func70 (by kernel_rfl) rfl #[.int .i64 a0] rfl (by (try simp only [List.map_toArray, List.map_cons, List.map_nil]); first | done | rfl | (simp only [List.length_drop, List.length_take]; rfl)) ?_; (with_reducible refine (cmp_isNaN_int.calls a0 false _ A3.out).mono ?_); rintro e w' ⟨rfl, ⟨nd, rfl⟩⟩; refine ⟨_, rfl, ?_⟩) | ((with_reducible refine gate_callee (f := 70) rfl ?_); refine goesL_ (some 10) rfl rfl Try.func70 (by kernel_rfl) rfl #[.int .i64 a1] rfl (by (try simp only [List.map_toArray, List.map_cons, List.map_nil]); first | done | rfl | (simp only [List.length_drop, List.length_take]; rfl)) ?_; (with_reducible refine (cmp_isNaN_int.calls a1 false _ A4.out).mono ?_); rintro e w' ⟨rfl, ⟨nd, rfl⟩⟩; refine ⟨_, rfl, ?_⟩))
          go_ret
          exact ⟨by first | rfl | (simp; done) | (simp [*]; done), by repeat (first | exact Drawn0.refl _ | apply Drawn0.step)⟩
end Go.Proofs.Ytaghmhcccighgaa.Fn
end
section
/- A row of packs; how two are compared; how one is stored in a region that draws its order. -/
namespace Go.Proofs.Ytaghmhcccighgaa.HF
open Go.RowKit Go.Proofs.YtaghmhcccighgaaW.PrintWords Go.Proofs.YtaghmhcccighgaaW.PrintLast Go.Proofs.YtaghmhcccighgaaW.PrintMore Go.Proofs.Ytaghmhcccighgaa.HW Go.Proofs.Ytaghmhcccighgaa.MB Go.Proofs.Ytaghmhcccighgaa.Fn
attribute [local go_sem] max2_int min2_int max_two min_two max_three min_three max_four min_four   -- for this text's walks alone
/-- A pack: its weight, the slice of its symbols, which they are (that is not in its cells). -/
structure Pk where
  wt : Int
  A : Option Addr
  n : Nat
  c : Nat
  of : List Int
def zPk : Pk := ⟨0, none, 0, 0, []⟩
def Pk.val (p : Pk) : Value := .agg #[.int .i64 p.wt, .slice p.A p.n p.c]
def Pk.cells (p : Pk) : List Value := [.int .i64 p.wt, .slice p.A p.n p.c]
def kP : Kd Pk := Kd.iso (Kd.pair (Kd.int .i64) (Kd.scalar (fun s : Option Addr × Nat × Nat => Value.slice s.1 s.2.1 s.2.2) (fun _ => rfl))) (fun p : Pk => (p.wt, (p.A, p.n, p.c)))
theorem kP_open {w : World} {x : Pk} {cs : List Value} (h : kP.K w x cs) : cs = x.cells := by
  obtain ⟨_, _, rfl, rfl, rfl⟩ := h
  exact rfl
theorem kP_mkM (w : World) (base : Nat) (ok : Nat → Prop) (x : Pk) : kP.M w base ok x x.cells := ⟨[.int .i64 x.wt], [.slice x.A x.n x.c], rfl, rfl, rfl⟩
def rdP (xs : List Pk) (i : Nat) : Pk := xs.getD i zPk
theorem rdP_get (xs : List Pk) (i : Nat) (h : i < xs.length) : rdP xs i = xs[i] := by unfold rdP; rw [List.getD_eq_getElem?_getD, List.getElem?_eq_getElem h]; rfl
theorem add_zero0 (g k : Nat) : (⟨g, 0, none⟩ : Addr).add k = ⟨g, k, none⟩ := by unfold Addr.add; split <;> simp_all
/-- The cells of element i. -/
theorem atP {w : World} {base : Nat} {ok : Nat → Prop} {g n c : Nat} {xs : List Pk} (h : kP.R 108 w base ok (.slice (some ⟨g, 0, none⟩) n c) xs) (i : Nat) (hi : i < n) :
    w.cell? ⟨g, i * 2, none⟩ = some (.int .i64 (rdP xs i).wt) ∧ w.cell? ⟨g, i * 2 + 1, none⟩ = some (.slice (rdP xs i).A (rdP xs i).n (rdP xs i).c) := by
  have hn := (Kd.R_reads' h).1
  obtain ⟨ad, cs, e, _, hK, hc0⟩ := Kd.C_get (Kd.R_reads' h).2.2 zPk (i : Int) (by omega) (by omega)
  injection e with e
  subst e
  have hc : ∀ j u, cs[j]? = some u → w.cell? ((⟨g, 0, none⟩ : Addr).add ((i : Int).toNat * 2 + j)) = some u := hc0
  obtain rfl := kP_open hK
  simp only [add_zero0, Int.toNat_natCast] at hc
  exact ⟨hc 0 _ rfl, hc 1 _ rfl⟩
theorem seg_all (c seg : List Value) (n : Nat) (h1 : c.length = n) (h2 : seg.length = n) : c.take 0 ++ seg ++ c.drop (0 + seg.length) = seg := by
  rw [List.take_zero, List.nil_append, List.drop_eq_nil_of_le (by omega), List.append_nil]
section
variable {ops : Array Oper} {o : Oper} {a : Act} {Q : Exit → Act → World → Prop} {Kc : Act → World → Prop}
set_option maxRecDepth 100000 in
/-- xs[i] = p, in a region that draws its order. -/
theorem store_step {W : World} (base : Nat) (hw : Region.wanted o (yielded ops a.tmps) = true) (hN : o.dst = none) (p x : Operand) (ho : o.op = .store 108 p x) {g n c o' : Nat} (i : Nat) (xs : List Pk) (x' : Pk)
    (haddr : a.eval p = .pointer (some ⟨g, o', none⟩)) (hoff : o' = i * 2) (hx : a.eval x = x'.val) (HO : kP.R 108 W base (fun _ => True) (.slice (some ⟨g, 0, none⟩) n c) xs) (hi : i < n)
    (h : ∀ w1, kP.R 108 w1 base (fun _ => True) (.slice (some ⟨g, 0, none⟩) n c) (xs.set i x') → Fr (fun k => k = g) W w1 → Kc a w1) : if Region.wanted o (yielded ops a.tmps) = true then Oper.wp Try.prog o a W Kc Q else Kc (a.put o.dst undef) W := by
  subst hoff
  have hn := (Kd.R_reads' HO).1
  have hcc : ∀ j u, (rdP xs i).cells[j]? = some u → W.cell? ⟨g, (i : Int).toNat * kP.sz + j, none⟩ = some u := fun j u hj => by
    obtain ⟨h0, h1⟩ := atP HO i hi
    rw [Int.toNat_natCast]
    match j, hj with
    | 0, hj => cases hj; exact h0
    | 1, hj => cases hj; exact h1
    | _ + 2, hj => cases hj
  obtain ⟨hrow, hg⟩ := Kd.R_seg HO (i : Int) (by omega) (by omega) (c := (rdP xs i).cells) (seg := x'.cells) (j := 0) (x' := x') (okp := fun _ => False) rfl hcc (show 2 ≤ 2 from Nat.le_refl 2) (by rw [seg_all _ _ 2 rfl rfl]; exact kP_mkM _ _ _ _) (fun _ hk => hk.elim)
  rw [Int.toNat_natCast] at hrow
  have hrun : (Instr.storeAt 108 (.pointer (some ⟨g, i * 2, none⟩)) x'.val).run Try.prog W = .ok () (W.setCells g (i * 2) x'.cells) := by
    obtain ⟨_, inner, hown, _⟩ := HO
    rcases hown.2 with ⟨hv, _⟩ | ⟨g', cap', cur, hv, hb, hh, hnc, hcm, hcs, _⟩
    · cases hv
    injection hv with ha _ hc
    injection ha with ha
    injection ha with hg'
    subst hg'; subst hc
    refine run_store_run 108 x'.val x'.cells hh rfl (by kernel_rfl) ?_ (fun q hq => by
      rcases List.mem_cons.1 hq with rfl | hq
      · rfl
      · rw [List.mem_singleton.1 hq]; rfl)
    have hcs2 : cur.size = c * 2 := hcs
    show i * 2 + 2 ≤ cur.size
    omega
  rw [if_pos hw]
  unfold Oper.wp execOp
  simp only [ho, haddr, hx, Sem.run_bind, Sem.run_pure, Result.andThen_ok, hrun]
  show Kc (a.put o.dst undef) _
  rw [hN]
  have e1 : W.setCells g (i * kP.sz + 0) x'.cells = W.setCells g (i * 2) x'.cells := rfl
  rw [e1] at hrow
  exact h _ hrow (setCells_fr _ _ _)
end
def cmp3 (a b : Int) : Int := if a < b then -1 else if b < a then 1 else 0
theorem cmp3_lt (a b : Int) : decide (cmp3 a b < 0) = decide (a < b) := by
  unfold cmp3
  by_cases h : a < b
  · rw [if_pos h]; simp [h]
  · rw [if_neg h]; split <;> simp [h]
theorem compare_f (a b : Int) : cmp_Compare_int.f a b = some (cmp3 a b) := by
  unfold cmp_Compare_int.f cmp_isNaN_int.f cmp3
  simp
  split
  · rfl
  · split <;> rfl
set_option maxHeartbeats 1000000 in
theorem pcmp_ok (x y : Pk) (W : World) : Calls Try.prog 63 #[x.val, y.val] W fun e w' => e = .returned (.int .i64 (cmp3 x.wt y.wt)) ∧ Below W.heap.size W w' := by
  have hu := Try.underlying108
  obtain ⟨x0, x1, x2, x3, x4⟩ := x
  obtain ⟨y0, y1, y2, y3, y4⟩ := y
  unfold Pk.val
  simp only
  have HC := Aside0.mk (fun w => cmp_Compare_int.calls x0 y0 _ w (compare_f x0 y0))
  go_enter Try.func63, Try.ntmps63
  go_wp2_with fail
  refine (HC.out _).mono ?_
  rintro e w2 ⟨rfl, hd⟩
  have HB := Aside0.mk ((below_alloc (below_alloc (Below.refl W.heap.size W) (.cells #[.int .i64 x0, .slice x1 x2 x3] 108)) (.cells #[.int .i64 y0, .slice y1 y2 y3] 108)))
  have HD := Aside0.mk hd
  clear hd
  go_wp2_with fail
  go_ret
  exact ⟨rfl, HB.out.trans (HD.out.below.mono HB.out.size)⟩
theorem pcmp_val (x0 : Int) (x1 : Option Addr) (x2 x3 : Nat) (y0 : Int) (y1 : Option Addr) (y2 y3 : Nat) (W : World) : Calls Try.prog 63 #[.agg #[.int .i64 x0, .slice x1 x2 x3], .agg #[.int .i64 y0, .slice y1 y2 y3]] W fun e w' => e = .returned (.int .i64 (cmp3 x0 y0)) ∧ Below W.heap.size W w' := pcmp_ok ⟨x0, x1, x2, x3, []⟩ ⟨y0, y1, y2, y3, []⟩ W
end Go.Proofs.Ytaghmhcccighgaa.HF
end
section
/- Sorting packs, plain: swaps, what a part of a row keeps, order. -/
namespace Go.Proofs.Ytaghmhcccighgaa.HF
def wtP (xs : List Pk) (i : Nat) : Int := (rdP xs i).wt
def swp (xs : List Pk) (i j : Nat) : List Pk := (xs.set i (rdP xs j)).set j (rdP xs i)
theorem swp_len (xs : List Pk) (i j : Nat) : (swp xs i j).length = xs.length := by unfold swp; rw [List.length_set, List.length_set]
theorem rdP_set (xs : List Pk) (i k : Nat) (x : Pk) (h : i < xs.length) : rdP (xs.set i x) k = if k = i then x else rdP xs k := by
  unfold rdP
  rw [List.getD_eq_getElem?_getD, List.getElem?_set]
  by_cases hk : i = k
  · subst hk; rw [if_pos rfl, if_pos h, if_pos rfl]; rfl
  · rw [if_neg hk, if_neg (fun e => hk e.symm), List.getD_eq_getElem?_getD]
theorem rdP_swp (xs : List Pk) (i j k : Nat) (hi : i < xs.length) (hj : j < xs.length) : rdP (swp xs i j) k = if k = j then rdP xs i else if k = i then rdP xs j else rdP xs k := by
  unfold swp
  rw [rdP_set _ _ _ _ (by rw [List.length_set]; exact hj), rdP_set _ _ _ _ hi]
theorem swp_perm (xs : List Pk) (i j : Nat) (hi : i < xs.length) (hj : j < xs.length) : (swp xs i j).Perm xs := by
  have h := Array.swap_perm (xs := xs.toArray) (i := i) (j := j) (by simpa using hi) (by simpa using hj)
  have h2 := h.toList
  rw [List.toList_toArray] at h2
  have h3 : (xs.toArray.swap i j (by simpa using hi) (by simpa using hj)).toList = swp xs i j := by
    refine List.ext_getElem? fun k => ?_
    unfold swp
    rw [rdP_get xs i hi, rdP_get xs j hj]
    simp [Array.swap]
  rw [h3] at h2
  exact h2
/-- From xs to ys only the part from a to b was put in another order. -/
structure PermIn (a b : Nat) (xs ys : List Pk) : Prop where
  len : ys.length = xs.length
  pm : ys.Perm xs
  out : ∀ k, k < a ∨ b ≤ k → rdP ys k = rdP xs k
  inn : ∀ k, a ≤ k → k < b → ∃ k', a ≤ k' ∧ k' < b ∧ rdP ys k = rdP xs k'
theorem PermIn.refl (a b : Nat) (xs : List Pk) : PermIn a b xs xs := ⟨rfl, .refl _, fun _ _ => rfl, fun k h1 h2 => ⟨k, h1, h2, rfl⟩⟩
theorem PermIn.trans {a b : Nat} {xs ys zs : List Pk} (h : PermIn a b xs ys) (k : PermIn a b ys zs) : PermIn a b xs zs :=
  ⟨k.len.trans h.len, k.pm.trans h.pm, fun i hi => (k.out i hi).trans (h.out i hi), fun i h1 h2 => by
    obtain ⟨i', a1, a2, a3⟩ := k.inn i h1 h2
    obtain ⟨i2, b1, b2, b3⟩ := h.inn i' a1 a2
    exact ⟨i2, b1, b2, a3.trans b3⟩⟩
theorem PermIn.mono {a b a' b' : Nat} {xs ys : List Pk} (h : PermIn a b xs ys) (ha : a' ≤ a) (hb : b ≤ b') : PermIn a' b' xs ys :=
  ⟨h.len, h.pm, fun i hi => h.out i (by omega), fun i h1 h2 => by
    by_cases hi : a ≤ i ∧ i < b
    · obtain ⟨i', a1, a2, a3⟩ := h.inn i hi.1 hi.2
      exact ⟨i', by omega, by omega, a3⟩
    · exact ⟨i, h1, h2, h.out i (by omega)⟩⟩
theorem PermIn.swp {a b : Nat} (xs : List Pk) (i j : Nat) (hi : a ≤ i ∧ i < b) (hj : a ≤ j ∧ j < b) (hb : b ≤ xs.length) : PermIn a b xs (swp xs i j) := by
  have h1 : i < xs.length := by omega
  have h2 : j < xs.length := by omega
  refine ⟨swp_len _ _ _, swp_perm _ _ _ h1 h2, fun k hk => ?_, fun k hk1 hk2 => ?_⟩
  · rw [rdP_swp _ _ _ _ h1 h2, if_neg (by omega), if_neg (by omega)]
  · rw [rdP_swp _ _ _ _ h1 h2]
    by_cases e1 : k = j
    · rw [if_pos e1]; exact ⟨i, hi.1, hi.2, rfl⟩
    · rw [if_neg e1]
      by_cases e2 : k = i
      · rw [if_pos e2]; exact ⟨j, hj.1, hj.2, rfl⟩
      · rw [if_neg e2]; exact ⟨k, hk1, hk2, rfl⟩
/-- Weights do not fall from a to b. -/
def Sorted (a b : Nat) (xs : List Pk) : Prop := ∀ p q, a ≤ p → p < q → q < b → wtP xs p ≤ wtP xs q
theorem Sorted.le {a b : Nat} {xs : List Pk} (h : Sorted a b xs) {p q : Nat} (h1 : a ≤ p) (h2 : p ≤ q) (h3 : q < b) : wtP xs p ≤ wtP xs q := by
  by_cases e : p = q
  · subst e; exact Int.le_refl _
  · exact h p q h1 (by omega) h3
theorem Sorted.congr {a b : Nat} {xs ys : List Pk} (h : Sorted a b xs) (e : ∀ k, a ≤ k → k < b → rdP ys k = rdP xs k) : Sorted a b ys := fun p q h1 h2 h3 => by
  unfold wtP
  rw [e p h1 (by omega), e q (by omega) h3]
  exact h p q h1 h2 h3
def rotI (a m b k : Nat) : Nat := if a ≤ k ∧ k < a + (b - m) then k + (m - a) else if a + (b - m) ≤ k ∧ k < b then k - (b - m) else k
theorem rotI_cases (a m b k : Nat) : (a ≤ k ∧ k < a + (b - m) ∧ rotI a m b k = k + (m - a)) ∨ (a + (b - m) ≤ k ∧ k < b ∧ rotI a m b k = k - (b - m)) ∨ (¬ (a ≤ k ∧ k < a + (b - m)) ∧ ¬ (a + (b - m) ≤ k ∧ k < b) ∧ rotI a m b k = k) := by
  unfold rotI
  split
  · left; omega
  · split
    · right; left; omega
    · right; right; omega
/-- Packs of one weight stand in the same order. -/
def FilEq (xs ys : List Pk) : Prop := ∀ w : Int, ys.filter (fun p => p.wt == w) = xs.filter (fun p => p.wt == w)
theorem FilEq.refl (xs : List Pk) : FilEq xs xs := fun _ => rfl
theorem FilEq.trans {xs ys zs : List Pk} (h : FilEq xs ys) (k : FilEq ys zs) : FilEq xs zs := fun w => (k w).trans (h w)
theorem cut_four (xs : List Pk) {s m e : Nat} (h1 : s ≤ m) (h2 : m ≤ e) : xs = xs.take s ++ ((xs.drop s).take (m - s) ++ ((xs.drop m).take (e - m) ++ xs.drop e)) := by
  have a1 : xs.drop m = (xs.drop m).take (e - m) ++ xs.drop e := by
    have := (List.take_append_drop (e - m) (xs.drop m)).symm
    rw [List.drop_drop, show m + (e - m) = e by omega] at this
    exact this
  have a2 : xs.drop s = (xs.drop s).take (m - s) ++ xs.drop m := by
    have := (List.take_append_drop (m - s) (xs.drop s)).symm
    rw [List.drop_drop, show s + (m - s) = m by omega] at this
    exact this
  rw [← a1, ← a2, List.take_append_drop]
theorem fil_rot {xs ys : List Pk} {s m e : Nat} (hl : ys.length = xs.length) (h1 : s ≤ m) (h2 : m ≤ e) (h3 : e ≤ xs.length) (hy : ∀ k, rdP ys k = rdP xs (rotI s m e k))
    (hne : ∀ p q, s ≤ p → p < m → m ≤ q → q < e → wtP xs p ≠ wtP xs q) : FilEq xs ys := by
  have e1 : ys = xs.take s ++ ((xs.drop m).take (e - m) ++ ((xs.drop s).take (m - s) ++ xs.drop e)) := by
    refine List.ext_getElem (by simp; omega) fun k k1 k2 => ?_
    have hk : k < xs.length := by omega
    have hh := hy k
    have c := rotI_cases s m e k
    have hlt : rotI s m e k < xs.length := by omega
    rw [rdP_get ys k k1, rdP_get xs _ hlt] at hh
    rw [hh]
    by_cases g1 : k < s
    · rw [List.getElem_append_left (by simp; omega), List.getElem_take]
      congr 1; omega
    · rw [List.getElem_append_right (by simp; omega)]
      by_cases g2 : k < s + (e - m)
      · rw [List.getElem_append_left (by simp; omega), List.getElem_take, List.getElem_drop]
        congr 1; simp; omega
      · rw [List.getElem_append_right (by simp; omega)]
        by_cases g3 : k < e
        · rw [List.getElem_append_left (by simp; omega), List.getElem_take, List.getElem_drop]
          congr 1; simp; omega
        · rw [List.getElem_append_right (by simp; omega), List.getElem_drop]
          congr 1; simp; omega
  intro w
  rw [e1]
  conv => rhs; rw [cut_four xs h1 h2]
  simp only [List.filter_append]
  have k1 : ∀ p ∈ (xs.drop s).take (m - s), ∃ i, s ≤ i ∧ i < m ∧ p.wt = wtP xs i := fun p hp => by
    obtain ⟨i, hi, rfl⟩ := List.mem_iff_getElem.1 hp
    simp at hi
    refine ⟨s + i, by omega, by omega, ?_⟩
    rw [List.getElem_take, List.getElem_drop]
    unfold wtP
    rw [rdP_get _ _ (by omega)]
  have k2 : ∀ p ∈ (xs.drop m).take (e - m), ∃ i, m ≤ i ∧ i < e ∧ p.wt = wtP xs i := fun p hp => by
    obtain ⟨i, hi, rfl⟩ := List.mem_iff_getElem.1 hp
    simp at hi
    refine ⟨m + i, by omega, by omega, ?_⟩
    rw [List.getElem_take, List.getElem_drop]
    unfold wtP
    rw [rdP_get _ _ (by omega)]
  by_cases hz : ∃ p ∈ (xs.drop s).take (m - s), p.wt = w
  · obtain ⟨p, hp, rfl⟩ := hz
    obtain ⟨i, i1, i2, i3⟩ := k1 p hp
    have z : List.filter (fun q => q.wt == p.wt) ((xs.drop m).take (e - m)) = [] := by
      rw [List.filter_eq_nil_iff]
      intro q hq
      obtain ⟨j, j1, j2, j3⟩ := k2 q hq
      simp only [beq_iff_eq]
      intro hh
      exact hne i j i1 i2 j1 j2 (by rw [← i3, ← j3, hh])
    rw [z, List.nil_append, List.nil_append]
  · have z : List.filter (fun q => q.wt == w) ((xs.drop s).take (m - s)) = [] := by
      rw [List.filter_eq_nil_iff]
      intro q hq
      simp only [beq_iff_eq]
      exact fun hh => hz ⟨q, hq, hh⟩
    rw [z, List.nil_append, List.nil_append]
theorem FilEq.adj {ys : List Pk} {j : Nat} (hj : 0 < j) (hb : j < ys.length) (hlt : wtP ys j < wtP ys (j - 1)) : FilEq ys (swp ys j (j - 1)) := by
  refine fil_rot (s := j - 1) (m := j) (e := j + 1) (swp_len _ _ _) (by omega) (by omega) (by omega) (fun k => ?_) (fun p q h1 h2 h3 h4 => ?_)
  · rw [rdP_swp _ _ _ _ hb (by omega)]
    have c := rotI_cases (j - 1) j (j + 1) k
    split
    · rw [show rotI (j - 1) j (j + 1) k = j by omega]
    · split
      · rw [show rotI (j - 1) j (j + 1) k = j - 1 by omega]
      · rw [show rotI (j - 1) j (j + 1) k = k by omega]
  · rw [show p = j - 1 by omega, show q = j by omega]
    omega
/-- From xs to ys only the part from a to b was put in another order, packs of one weight stay in theirs. -/
structure PermS (a b : Nat) (xs ys : List Pk) : Prop extends PermIn a b xs ys where
  fil : FilEq xs ys
theorem PermS.refl (a b : Nat) (xs : List Pk) : PermS a b xs xs := ⟨PermIn.refl a b xs, FilEq.refl xs⟩
theorem PermS.trans {a b : Nat} {xs ys zs : List Pk} (h : PermS a b xs ys) (k : PermS a b ys zs) : PermS a b xs zs := ⟨h.toPermIn.trans k.toPermIn, h.fil.trans k.fil⟩
theorem PermS.mono {a b a' b' : Nat} {xs ys : List Pk} (h : PermS a b xs ys) (ha : a' ≤ a) (hb : b ≤ b') : PermS a' b' xs ys := ⟨h.toPermIn.mono ha hb, h.fil⟩
/-- The inner loop of the insertion sort: element j is still on its way down. -/
structure InsI (a b i j : Nat) (xs ys : List Pk) : Prop where
  pm : PermS a b xs ys
  rg : a ≤ j ∧ j ≤ i ∧ i < b
  so : ∀ p q, a ≤ p → p < q → q ≤ i → p ≠ j → q ≠ j → wtP ys p ≤ wtP ys q
  up : ∀ q, j < q → q ≤ i → wtP ys j ≤ wtP ys q
theorem InsI.start {a b i : Nat} {xs ys : List Pk} (hp : PermS a b xs ys) (hs : Sorted a i ys) (hi : a ≤ i ∧ i < b) : InsI a b i i xs ys :=
  ⟨hp, ⟨hi.1, Nat.le_refl _, hi.2⟩, fun p q h1 h2 h3 h4 h5 => hs p q h1 h2 (by omega), fun q h1 h2 => by omega⟩
theorem InsI.step {a b i j : Nat} {xs ys : List Pk} (h : InsI a b i j xs ys) (hj : a < j) (hb : b ≤ ys.length) (hlt : wtP ys j < wtP ys (j - 1)) : InsI a b i (j - 1) xs (swp ys j (j - 1)) := by
  have hj2 := h.rg
  have h1 : j < ys.length := by omega
  have h2 : j - 1 < ys.length := by omega
  have hw : ∀ k, wtP (swp ys j (j - 1)) k = if k = j - 1 then wtP ys j else if k = j then wtP ys (j - 1) else wtP ys k := fun k => by
    unfold wtP
    rw [rdP_swp _ _ _ _ h1 h2]
    split
    · rfl
    · split <;> rfl
  refine ⟨h.pm.trans ⟨PermIn.swp ys j (j - 1) (by omega) (by omega) hb, FilEq.adj (by omega) h1 hlt⟩, by omega, fun p q p1 p2 p3 p4 p5 => ?_, fun q q1 q2 => ?_⟩
  · rw [hw, hw, if_neg p4, if_neg p5]
    by_cases e1 : p = j
    · subst e1
      rw [if_pos rfl, if_neg (by omega)]
      exact h.so (p - 1) q (by omega) (by omega) p3 (by omega) (by omega)
    · rw [if_neg e1]
      by_cases e2 : q = j
      · subst e2
        rw [if_pos rfl]
        exact h.so p (q - 1) p1 (by omega) (by omega) e1 (by omega)
      · rw [if_neg e2]
        exact h.so p q p1 p2 p3 e1 e2
  · rw [hw, hw, if_pos rfl, if_neg (by omega)]
    by_cases e2 : q = j
    · rw [if_pos e2]; omega
    · rw [if_neg e2]; exact h.up q (by omega) q2
theorem InsI.done {a b i j : Nat} {xs ys : List Pk} (h : InsI a b i j xs ys) (hd : j = a ∨ wtP ys (j - 1) ≤ wtP ys j) : Sorted a (i + 1) ys := fun p q h1 h2 h3 => by
  have hj := h.rg
  by_cases e1 : p = j
  · subst e1; exact h.up q h2 (by omega)
  · by_cases e2 : q = j
    · subst e2
      rcases hd with hd | hd
      · omega
      · by_cases e3 : p = q - 1
        · subst e3; exact hd
        · exact Int.le_trans (h.so p (q - 1) h1 (by omega) (by omega) e1 (by omega)) hd
    · exact h.so p q h1 h2 (by omega) e1 e2
end Go.Proofs.Ytaghmhcccighgaa.HF
end
section
/- Sorting packs, plain: parts are exchanged, turned, merged. -/
namespace Go.Proofs.Ytaghmhcccighgaa.HF
/-- Where the element at i stood, ahead of the exchange of k elements from a and from b. -/
def swI (a b k i : Nat) : Nat := if a ≤ i ∧ i < a + k then i - a + b else if b ≤ i ∧ i < b + k then i - b + a else i
theorem swI_cases (a b k i : Nat) : (a ≤ i ∧ i < a + k ∧ swI a b k i = i - a + b) ∨ (¬ (a ≤ i ∧ i < a + k) ∧ b ≤ i ∧ i < b + k ∧ swI a b k i = i - b + a) ∨ (¬ (a ≤ i ∧ i < a + k) ∧ ¬ (b ≤ i ∧ i < b + k) ∧ swI a b k i = i) := by
  unfold swI
  split
  · left; omega
  · split
    · right; left; omega
    · right; right; omega
/-- So far k elements from a and from b were exchanged. -/
structure SwR (lo hi a b k : Nat) (xs ys : List Pk) : Prop where
  pm : PermIn lo hi xs ys
  rd : ∀ i, rdP ys i = rdP xs (swI a b k i)
theorem SwR.start (lo hi a b : Nat) (xs : List Pk) : SwR lo hi a b 0 xs xs := ⟨PermIn.refl _ _ _, fun i => by
  have := swI_cases a b 0 i
  rw [show swI a b 0 i = i by omega]⟩
theorem SwR.step {lo hi a b k : Nat} {xs ys : List Pk} (h : SwR lo hi a b k xs ys) (ha : lo ≤ a) (hab : a + k < b) (hb : b + k < hi) (hh : hi ≤ ys.length) : SwR lo hi a b (k + 1) xs (swp ys (a + k) (b + k)) := by
  refine ⟨h.pm.trans (PermIn.swp ys (a + k) (b + k) (by omega) (by omega) hh), fun i => ?_⟩
  rw [rdP_swp _ _ _ _ (by omega) (by omega), h.rd, h.rd, h.rd]
  have c1 := swI_cases a b k (a + k)
  have c2 := swI_cases a b k (b + k)
  have c3 := swI_cases a b k i
  have c4 := swI_cases a b (k + 1) i
  split
  · congr 1; omega
  · split
    · congr 1; omega
    · congr 1; omega
theorem rot_gt {m i j : Nat} (hi_ : i ≤ m) (hj : j < i) (hj0 : 0 < j) (k : Nat) : rotI (m - i) m (m + j) k = swI (m - i) m j (rotI (m - (i - j)) m (m + j) k) := by
  have c1 := rotI_cases (m - i) m (m + j) k
  have c2 := rotI_cases (m - (i - j)) m (m + j) k
  generalize rotI (m - (i - j)) m (m + j) k = r at c2 ⊢
  have c3 := swI_cases (m - i) m j r
  omega
theorem rot_lt {m i j : Nat} (hi_ : i ≤ m) (hj : i < j) (hi0 : 0 < i) (k : Nat) : rotI (m - i) m (m + j) k = swI (m - i) (m + j - i) i (rotI (m - i) m (m + (j - i)) k) := by
  have c1 := rotI_cases (m - i) m (m + j) k
  have c2 := rotI_cases (m - i) m (m + (j - i)) k
  generalize rotI (m - i) m (m + (j - i)) k = r at c2 ⊢
  have c3 := swI_cases (m - i) (m + j - i) i r
  omega
theorem rot_eq {m i : Nat} (hi_ : i ≤ m) (k : Nat) : rotI (m - i) m (m + i) k = swI (m - i) m i k := by
  have c1 := rotI_cases (m - i) m (m + i) k
  have c3 := swI_cases (m - i) m i k
  omega
end Go.Proofs.Ytaghmhcccighgaa.HF
end
