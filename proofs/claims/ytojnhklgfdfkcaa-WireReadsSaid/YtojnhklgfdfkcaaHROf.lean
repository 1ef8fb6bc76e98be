/- postroadref14.Of, walked. -/
import Derived.Test.YtojnhklgfdfkcaaGD
import Derived.Test.YtojnhklgfdfkcaaGE
import Derived.Test.YtojnhklgfdfkcaaPRec6
import Derived.Deep.RegionLaw
import Derived.Deep.RegionHeld3
import Derived.IntWalk
namespace Go.Proofs.Ytojnhklgfdfkcaa.WK
open Go.RowKit Go.Proofs.YtojnhklgfdfkcaaW.PrintWords Go.Proofs.YtojnhklgfdfkcaaW.PrintLast Go.Proofs.YtojnhklgfdfkcaaW.PrintMore Go.Proofs.Ytojnhklgfdfkcaa.MB Go.Proofs.Ytojnhklgfdfkcaa.HW Go.Proofs.Ytojnhklgfdfkcaa.Fn Go.Proofs.Ytojnhklgfdfkcaa.PV Go.Proofs.Ytojnhklgfdfkcaa.RB Go.Proofs.Ytojnhklgfdfkcaa.RO
attribute [local go_sem] max2_int min2_int max_two min_two max_three min_three max_four min_four   -- for this text's walks alone
/-- The first numbers of bytes, and where they end. -/
def rv (S : ByteArray) : Nat → Option (List Int × Nat)
  | 0 => some ([], 0)
  | i + 1 => match rv S i with
    | none => none
    | some (l, p) => if (var_ (S.extract p S.size)).2.2 = 0 then some (l ++ [(var_ (S.extract p S.size)).1], p + (var_ (S.extract p S.size)).2.1.toNat) else none
/-- So many texts from a place on, and where they end. -/
def rl (S : ByteArray) : Nat → Nat → List ByteArray → Option (List ByteArray × Nat)
  | 0, p, acc => some (acc, p)
  | m + 1, p, acc => if (var_ (S.extract p S.size)).2.2 = 0 ∧ (var_ (S.extract p S.size)).1 ≤ (S.size : Int) - p - (var_ (S.extract p S.size)).2.1 then
      rl S m (p + (var_ (S.extract p S.size)).2.1.toNat + (var_ (S.extract p S.size)).1.toNat) (acc ++ [S.extract (p + (var_ (S.extract p S.size)).2.1.toNat) (p + (var_ (S.extract p S.size)).2.1.toNat + (var_ (S.extract p S.size)).1.toNat)])
    else none
abbrev MsgR := List Int × List ByteArray × List S63 × Int
def badR : MsgR := (List.replicate 11 0, [], [], 140)
def refEnd (S : ByteArray) (l : List Int) (log : List ByteArray) (p : Nat) : MsgR :=
  if (var_ (S.extract p S.size)).2.2 ≠ 0 ∨ 256 < (var_ (S.extract p S.size)).1 then badR else
  match recOf (S.extract (p + (var_ (S.extract p S.size)).2.1.toNat) S.size) 0 (var_ (S.extract p S.size)).1 with
  | none => badR
  | some (body, f) => if f = 0 ∧ okMsg (l.take 11) log body = true then (l.take 11, log, body, 0) else badR
/-- The document's message of bytes. -/
def refOf (S : ByteArray) : MsgR :=
  if 1048576 < S.size then (List.replicate 11 0, [], [], 4) else
  match rv S 12 with
  | none => badR
  | some (l, p) => if 999 < l.getD 7 0 ∨ 4096 < l.getD 11 0 then badR else
    match rl S (l.getD 11 0).toNat p [] with
    | none => badR
    | some (log, p2) => refEnd S l log p2
theorem rv_none (S : ByteArray) : ∀ d i, rv S i = none → rv S (i + d) = none
  | 0, _, h => h
  | d + 1, i, h => by
    have := rv_none S d i h
    rw [← Nat.add_assoc, rv, this]
theorem rv_bd (S : ByteArray) : ∀ i l p, rv S i = some (l, p) → l.length = i ∧ p ≤ S.size ∧ ∀ x ∈ l, 0 ≤ x
  | 0, l, p, h => by
    rw [rv] at h
    simp only [Option.some.injEq, Prod.mk.injEq] at h
    obtain ⟨rfl, rfl⟩ := h
    exact ⟨rfl, Nat.zero_le _, fun x hx => by simp at hx⟩
  | i + 1, l, p, h => by
    rw [rv] at h
    cases hr : rv S i with
    | none => rw [hr] at h; simp at h
    | some v =>
      obtain ⟨l0, p0⟩ := v
      obtain ⟨h1, h2, h3⟩ := rv_bd S i l0 p0 hr
      rw [hr] at h
      simp only at h
      by_cases he : (var_ (S.extract p0 S.size)).2.2 = 0
      · rw [if_pos he] at h
        simp only [Option.some.injEq, Prod.mk.injEq] at h
        obtain ⟨rfl, rfl⟩ := h
        obtain ⟨q1, q2, q3⟩ := var_ok (S.extract p0 S.size) he
        rw [extract_size _ _ _ (Nat.le_refl _)] at q3
        exact ⟨by simp [h1], by omega, fun x hx => by
          rcases List.mem_append.1 hx with hx | hx
          · exact h3 x hx
          · rw [List.mem_singleton.1 hx]; exact q1⟩
      · rw [if_neg he] at h; simp at h
theorem refOf_bad1 {S : ByteArray} (hs : S.size ≤ 1048576) {i : Nat} (hi : i ≤ 12) (h : rv S i = none) : refOf S = badR := by
  have h2 := rv_none S (12 - i) i h
  rw [show i + (12 - i) = 12 from by omega] at h2
  unfold refOf
  rw [if_neg (by omega), h2]
theorem refOf_12 {S : ByteArray} (hs : S.size ≤ 1048576) {l : List Int} {p : Nat} (h : rv S 12 = some (l, p)) : refOf S = if 999 < l.getD 7 0 ∨ 4096 < l.getD 11 0 then badR else
    match rl S (l.getD 11 0).toNat p [] with
    | none => badR
    | some (log, p2) => refEnd S l log p2 := by
  unfold refOf
  rw [if_neg (by omega), h]
/-- The result's block, the bytes' bound. -/
structure RS0 (w W : World) (g : Nat) : Prop where
  r0 : W.heap[g]? = some (.cells zcells 28 (0, 0))
  be : Below g w W
theorem RS0.below {w W W' : World} {g : Nat} (h : RS0 w W g) (hb : Below W.heap.size W W') : RS0 w W' g := ⟨(hb.block _ (blk_lt h.r0)).trans h.r0, h.be.trans (hb.mono (Nat.le_of_lt (blk_lt h.r0)))⟩
theorem RS0.grown {w W W' : World} {g : Nat} (h : RS0 w W g) {row : Option Nat} (hg : W.grownBy W' row) (hn : some g ≠ row) (hb : Below g w W') : RS0 w W' g := ⟨blk_grown h.r0 hg hn, hb⟩
/-- Besides the message, the numbers' row. -/
structure RS1 (w W : World) (g q q0 : Nat) (mc cl : Array Value) : Prop where
  r0 : W.heap[g]? = some (.cells zcells 28 (0, 0))
  mq : W.heap[q]? = some (.cells mc 28 (0, 0))
  hl : W.heap[q0]? = some (.cells cl 3 (0, 0))
  be : Below g w W
  gq : g < q
  q0q : q0 < q
theorem RS1.below {w W W' : World} {g q q0 : Nat} {mc cl : Array Value} (h : RS1 w W g q q0 mc cl) (hb : Below W.heap.size W W') : RS1 w W' g q q0 mc cl :=
  ⟨(hb.block _ (blk_lt h.r0)).trans h.r0, (hb.block _ (blk_lt h.mq)).trans h.mq, (hb.block _ (blk_lt h.hl)).trans h.hl, h.be.trans (hb.mono (Nat.le_of_lt (blk_lt h.r0))), h.gq, h.q0q⟩
theorem RS1.grown {w W W' : World} {g q q0 : Nat} {mc cl : Array Value} (h : RS1 w W g q q0 mc cl) {row : Option Nat} (hg : W.grownBy W' row) (hn : ∀ k, k ≤ q → some k ≠ row) (hb : Below g w W') : RS1 w W' g q q0 mc cl :=
  ⟨blk_grown h.r0 hg (hn _ (Nat.le_of_lt h.gq)), blk_grown h.mq hg (hn _ (Nat.le_refl _)), blk_grown h.hl hg (hn _ (Nat.le_of_lt h.q0q)), hb, h.gq, h.q0q⟩
theorem RS1.setm {w W : World} {g q q0 : Nat} {mc cl : Array Value} (h : RS1 w W g q q0 mc cl) (j : Nat) (u : Value) : RS1 w (W.setCell ⟨q, j, none⟩ u) g q q0 (mc.setIfInBounds j u) cl :=
  ⟨blk_far h.r0 (p := ⟨q, j, none⟩) (by have := h.gq; show g ≠ q; omega) _, blk_set h.mq j u, blk_far h.hl (p := ⟨q, j, none⟩) (by have := h.q0q; show q0 ≠ q; omega) _, h.be.setCell (p := ⟨q, j, none⟩) (by have := h.gq; show g ≤ q; omega) _, h.gq, h.q0q⟩
theorem RS1.log {w W : World} {g q q0 : Nat} {cl : Array Value} {xs : List Int} {v11 v12 : Value} (h : RS1 w W g q q0 (mf xs v11 v12) cl) (u : Value) : RS1 w (W.setCell ⟨q, 11, none⟩ u) g q q0 (mf xs u v12) cl := h.setm 11 u
theorem RS1.body {w W : World} {g q q0 : Nat} {cl : Array Value} {xs : List Int} {v11 v12 : Value} (h : RS1 w W g q q0 (mf xs v11 v12) cl) (u : Value) : RS1 w (W.setCell ⟨q, 12, none⟩ u) g q q0 (mf xs v11 u) cl := h.setm 12 u
theorem list12 : ∀ l : List Int, l.length = 12 → ∃ x0 x1 x2 x3 x4 x5 x6 x7 x8 x9 x10 x11, l = [x0, x1, x2, x3, x4, x5, x6, x7, x8, x9, x10, x11]
  | [_, _, _, _, _, _, _, _, _, _, _, _], _ => ⟨_, _, _, _, _, _, _, _, _, _, _, _, rfl⟩
set_option maxHeartbeats 16000000 in
set_option maxRecDepth 100000 in
theorem rof_good (S : ByteArray) (w : World) (hs : S.size ≤ 1048576) (ns : List Int) (log : List ByteArray) (body : List S63) (er : Int) (hw : refOf S = (ns, log, body, er)) :
    Calls Try.prog 15 #[.string S] w fun x w' => ∃ v11 v12 : Value, x = .returned (.tuple #[.agg #[.int .i64 (ns.getD 0 0), .int .i64 (ns.getD 1 0), .int .i64 (ns.getD 2 0), .int .i64 (ns.getD 3 0), .int .i64 (ns.getD 4 0), .int .i64 (ns.getD 5 0), .int .i64 (ns.getD 6 0), .int .i64 (ns.getD 7 0), .int .i64 (ns.getD 8 0), .int .i64 (ns.getD 9 0), .int .i64 (ns.getD 10 0), v11, v12], .int .i64 er]) ∧ Kd.R Kd.string 9 w' w.heap.size (fun _ => True) v11 log ∧ Kd.R k63 63 w' w.heap.size (fun _ => True) v12 body ∧ Below w.heap.size w w' := by
  have hu := Try.underlying28
  have hu3 := Try.underlying24
  have b1 : decide (1048576 < (S.size : Int)) = false := by simp; omega
  have HWR := Aside0.mk hw
  have HSZ := Aside0.mk hs
  have hs64 : (S.size : Int) ≤ 1048576 := by omega
  clear hw hs
  go_enter Try.func15, Try.ntmps15
  go_upto_region 3 with (fail)
  obtain ⟨g, hg⟩ : ∃ g, w.heap.size = g := ⟨_, rfl⟩
  have HG0 := Aside0.mk hg
  have H0 := Aside0.mk (show RS0 w (w.alloc (.cells zcells 28)) g from ⟨by rw [← hg]; exact heap_alloc_new w _, by rw [← hg]; exact below_alloc (Below.refl _ _) _⟩)
  rw [hg]
  clear hg
  unfold zcells mcells at H0
  generalize w.alloc (.cells _ 28) = w1 at H0 ⊢
  have H0 : Aside0 (RS0 w w1 g) := ⟨⟨H0.out.r0, H0.out.be⟩⟩
  go_wp2_with fail
  go_loopw [4, 5, 6] (fun v4 v5 v6 wr => ∃ (i : Nat) (l : List Int) (p : Nat), v5 = .int .i64 p ∧ v6 = .int .i64 i ∧ i ≤ 12 ∧ p ≤ S.size ∧ Aside0 (rv S i = some (l, p)) ∧ Aside0 (RS0 w wr g) ∧ Aside0 (Kd.R (Kd.int .i64) 3 wr g (fun k => g < k) v4 l)) (fun _ _ v6 _ => 12 - (intOf v6).toNat)
  case atStart => exact ⟨0, [], 0, rfl, rfl, by decide, Nat.zero_le _, ⟨rfl⟩, H0, ⟨Kd.R_nil _ _ _ _ _⟩⟩
  case round =>
    clear H0
    obtain ⟨i, l, p, rfl, rfl, hi, hp, HV, HC, HR⟩ := hrel
    have HLEN := Aside0.mk (rv_bd S i l p HV.out).1
    obtain ⟨A1, c1, hv4⟩ := Kd.R_slice HR.out
    subst hv4
    by_cases hlt : i < 12
    · have hb1 : decide ((i : Int) < 12) = true := by simp; omega
      have q1 : (0 : Int) ≤ (p : Int) := by omega
      have q2 : (p : Int) ≤ (S.size : Int) := by omega
      have q1b := decide_eq_true q1
      have q2b := decide_eq_true q2
      obtain ⟨⟨x, kk, e⟩, hv⟩ : ∃ v, var_ (S.extract p S.size) = v := ⟨_, rfl⟩
      have hvf := rvar_f (S.extract p S.size) (by rw [extract_size _ _ _ (Nat.le_refl _)]; have := HSZ.out; omega)
      have hok := var_ok (S.extract p S.size)
      rw [hv] at hvf hok
      rw [extract_size _ _ _ (Nat.le_refl _)] at hok
      have HVF := Aside0.mk hvf
      have HOK := Aside0.mk hok
      have HVR := Aside0.mk hv
      clear hvf hok hv
      go_wp2_with fail
      refine (postroadref01_Var.calls 10 _ x kk e _ HVF.out).mono ?_
      rintro y w2 ⟨rfl, ⟨nd, rfl⟩⟩
      have HC2 := Aside0.mk (HC.out.below (pw_below_drewN (Below.refl _ _) nd))
      have HR2 := Aside0.mk (Kd.R_below HR.out (pw_below_drewN (Below.refl _ _) nd))
      generalize wr.drewN nd = w2 at HC2 HR2 ⊢
      clear HC HR
      by_cases he : e = 0
      · subst he
        have hq := HOK.out rfl
        obtain ⟨p1, p2, p3⟩ := hq
        obtain ⟨kn, rfl⟩ : ∃ m : Nat, kk = m := ⟨kk.toNat, by omega⟩
        have HRV := Aside0.mk (show rv S (i + 1) = some (l ++ [x], p + kn) by rw [rv, HV.out]; simp only; rw [HVR.out]; simp)
        have q3 : (p : Int) + (kn : Int) ≤ 1048576 := by omega
        have HPK := Aside0.mk (show p + kn ≤ S.size by omega)
        have HLT := Aside0.mk (show g < w2.heap.size from blk_lt HC2.out.r0)
        have HI := Aside0.mk hlt
        clear p1 p2 p3 q1 q2 q1b q2b HVF HOK HVR
        go_wp2_with ((with_reducible refine gate_builtin (b := .append) (xs := #[.tmp 39, .tmp 41]) rfl ?_); at_builtin; refine Kd.R_append (Kd.int .i64) (w0 := w) g rfl (.tmp 39) (.tmp 41) 59 3 (.int .i64 0) 8 rfl Try.underlying59 info3 rfl (by decide) (by omega) (.slice A1 l.length c1) l x [.int .i64 x] (fun k_ => g < k_) (fun _ => False) rfl (by first | (go_simp; done) | (go_simp; rfl)) ?aP (fun _ hk => hk.elim) ?aF ?aO ?aB ?aS ?aL ?_; (case aP => exact rfl); (case aB => exact HC2.out.be); (case aF => exact (fun k_ hk => Nat.lt_of_lt_of_le HLT.out hk)); (case aO => exact HR2.out); (case aS => exact Nat.le_of_lt HLT.out); (case aL => have := HLEN.out; have := HI.out; omega); intro v9 w9 ho hb hg hat; have HC9 := Aside0.mk (HC2.out.grown hg (Kd.R_away HR2.out (fun _ hk => by omega)) hb); have HR9 := Aside0.mk ho; clear ho hb hg hat)
        go_roundw
        case rel => exact ⟨i + 1, l ++ [x], p + kn, by simp, by simp, hlt, HPK.out, HRV, HC9, HR9⟩
        case measure => simp [intOf]; omega
      · have b2 : (e != 0) = true := by simpa using he
        have hw := HWR.out
        rw [refOf_bad1 HSZ.out (i := i + 1) (by omega) (by rw [rv, HV.out]; simp only; rw [HVR.out]; exact if_neg he)] at hw
        unfold badR at hw
        simp only [Prod.mk.injEq] at hw
        obtain ⟨rfl, rfl, rfl, rfl⟩ := hw
        clear he HOK HVF HVR
        go_wp2_with ((with_reducible refine gate_store (t := 28) (p := 2) (v := .tmp 38) rfl ?_); refine store_all rfl rfl rfl g zcells zcells 28 (by rfl) (by rfl) HC2.out.r0 rfl (by kernel_rfl) zcells_one ?_; intro w9 hr1 hf6; have HR1 := Aside0.mk hr1; have HF6 := Aside0.mk hf6; clear hr1 hf6)
        refine bodyPost_ret (results_ct rfl _ _ g 28 zcells (0, 0) _ rfl HR1.out Try.underlying28 rfl (by kernel_rfl)) rfl ?_
        exact ⟨.slice none 0 0, .slice none 0 0, rfl, Kd.R_nil _ _ _ _ _, Kd.R_nil _ _ _ _ _, by rw [HG0.out]; exact HC2.out.be.trans (HF6.out.below (by have := blk_lt HC2.out.r0; omega) (fun k hk => by omega))⟩
    · have hie : i = 12 := by omega
      subst hie
      have hb1 : decide ((12 : Int) < 12) = false := by decide
      have hpos : 0 < l.length := by rw [HLEN.out]; decide
      obtain ⟨q0, cap, hva, hq0g, hq0l, cells, hcells⟩ := Kd.R_form HR.out hpos
      injection hva with hA hn hc
      clear hn
      subst hA
      subst hc
      obtain ⟨x0, x1, x2, x3, x4, x5, x6, x7, x8, x9, x10, x11, hl⟩ := list12 l HLEN.out
      have HL := Aside0.mk hl
      have HLN := Aside0.mk (rv_bd S 12 l p HV.out).2.2
      have HCL := Aside0.mk hcells
      have hq0 : q0 ≠ g := fun e => by have := (HR.out).1 q0 (by simp [Value.ownBlock]); omega
      have HQ0 := Aside0.mk (And.intro hq0 hq0l)
      have HJ := Aside0.mk (fun (j : Nat) (hj : j < 12) => show cells[j]? = some (.int .i64 ([x0, x1, x2, x3, x4, x5, x6, x7, x8, x9, x10, x11].getD j 0)) from by
        have h1 := (Kd.R_cell (0 : Int) HR.out (j : Int) (by omega) (by rw [HLEN.out]; omega)).1
        rw [Int.toNat_natCast, blk_cell hcells j] at h1
        rw [h1, ← hl]
        simp [rdOf])
      rw [HLEN.out]
      have d0 : wr.cell? ⟨q0, 0, none⟩ = some (.int .i64 x0) := (blk_cell HCL.out 0).trans (HJ.out 0 (by decide))
      have d1 : wr.cell? ⟨q0, 1, none⟩ = some (.int .i64 x1) := (blk_cell HCL.out 1).trans (HJ.out 1 (by decide))
      have d2 : wr.cell? ⟨q0, 2, none⟩ = some (.int .i64 x2) := (blk_cell HCL.out 2).trans (HJ.out 2 (by decide))
      have d3 : wr.cell? ⟨q0, 3, none⟩ = some (.int .i64 x3) := (blk_cell HCL.out 3).trans (HJ.out 3 (by decide))
      have d4 : wr.cell? ⟨q0, 4, none⟩ = some (.int .i64 x4) := (blk_cell HCL.out 4).trans (HJ.out 4 (by decide))
      have d5 : wr.cell? ⟨q0, 5, none⟩ = some (.int .i64 x5) := (blk_cell HCL.out 5).trans (HJ.out 5 (by decide))
      have d6 : wr.cell? ⟨q0, 6, none⟩ = some (.int .i64 x6) := (blk_cell HCL.out 6).trans (HJ.out 6 (by decide))
      have d7 : wr.cell? ⟨q0, 7, none⟩ = some (.int .i64 x7) := (blk_cell HCL.out 7).trans (HJ.out 7 (by decide))
      have d8 : wr.cell? ⟨q0, 8, none⟩ = some (.int .i64 x8) := (blk_cell HCL.out 8).trans (HJ.out 8 (by decide))
      have d9 : wr.cell? ⟨q0, 9, none⟩ = some (.int .i64 x9) := (blk_cell HCL.out 9).trans (HJ.out 9 (by decide))
      have d10 : wr.cell? ⟨q0, 10, none⟩ = some (.int .i64 x10) := (blk_cell HCL.out 10).trans (HJ.out 10 (by decide))
      have d11 : wr.cell? ⟨q0, 11, none⟩ = some (.int .i64 x11) := (blk_cell HCL.out 11).trans (HJ.out 11 (by decide))
      clear hl hcells hq0 hq0l hq0g hpos
      have HX := Aside0.mk (show refOf S = if 999 < x7 ∨ 4096 < x11 then badR else match rl S x11.toNat p [] with | none => badR | some (log, p2) => refEnd S [x0, x1, x2, x3, x4, x5, x6, x7, x8, x9, x10, x11] log p2 from by rw [refOf_12 HSZ.out HV.out, HL.out]; rfl)
      by_cases c7 : 999 < x7
      · have b7 : decide (999 < x7) = true := by simpa using c7
        have hw := HWR.out
        rw [HX.out, if_pos (Or.inl c7)] at hw
        unfold badR at hw
        simp only [Prod.mk.injEq] at hw
        obtain ⟨rfl, rfl, rfl, rfl⟩ := hw
        clear c7
        go_wp2_with ((with_reducible refine gate_store (t := 28) (p := 2) (v := .tmp 56) rfl ?_); refine store_all rfl rfl rfl g zcells zcells 28 (by rfl) (by rfl) HC.out.r0 rfl (by kernel_rfl) zcells_one ?_; intro w9 hr1 hf6; have HR1 := Aside0.mk hr1; have HF6 := Aside0.mk hf6; clear hr1 hf6)
        refine bodyPost_ret (results_ct rfl _ _ g 28 zcells (0, 0) _ rfl HR1.out Try.underlying28 rfl (by kernel_rfl)) rfl ?_
        exact ⟨.slice none 0 0, .slice none 0 0, rfl, Kd.R_nil _ _ _ _ _, Kd.R_nil _ _ _ _ _, by rw [HG0.out]; exact HC.out.be.trans (HF6.out.below (by have := blk_lt HC.out.r0; omega) (fun k hk => by omega))⟩
      · have b7 : decide (999 < x7) = false := by simp; omega
        by_cases c11 : 4096 < x11
        · have b11 : decide (4096 < x11) = true := by simpa using c11
          have hw := HWR.out
          rw [HX.out, if_pos (Or.inr c11)] at hw
          unfold badR at hw
          simp only [Prod.mk.injEq] at hw
          obtain ⟨rfl, rfl, rfl, rfl⟩ := hw
          clear c7 c11
          go_wp2_with ((with_reducible refine gate_store (t := 28) (p := 2) (v := .tmp 56) rfl ?_); refine store_all rfl rfl rfl g zcells zcells 28 (by rfl) (by rfl) HC.out.r0 rfl (by kernel_rfl) zcells_one ?_; intro w9 hr1 hf6; have HR1 := Aside0.mk hr1; have HF6 := Aside0.mk hf6; clear hr1 hf6)
          refine bodyPost_ret (results_ct rfl _ _ g 28 zcells (0, 0) _ rfl HR1.out Try.underlying28 rfl (by kernel_rfl)) rfl ?_
          exact ⟨.slice none 0 0, .slice none 0 0, rfl, Kd.R_nil _ _ _ _ _, Kd.R_nil _ _ _ _ _, by rw [HG0.out]; exact HC.out.be.trans (HF6.out.below (by have := blk_lt HC.out.r0; omega) (fun k hk => by omega))⟩
        · have b11 : decide (4096 < x11) = false := by simp; omega
          have hx := HX.out
          rw [if_neg (show ¬ (999 < x7 ∨ 4096 < x11) by omega)] at hx
          have h11 : 0 ≤ x11 := HLN.out x11 (by rw [HL.out]; simp)
          obtain ⟨m, rfl⟩ : ∃ m : Nat, x11 = m := ⟨x11.toNat, by omega⟩
          have HX2 := Aside0.mk hx
          have HM := Aside0.mk (show m ≤ 4096 by omega)
          have hm4 : m ≤ 4096 := HM.out
          clear c7 c11 hx h11 HX
          go_upto_region 15 with (fail)
          go_region_held3 (fun w' => w'.cell? ⟨q0, 0, none⟩ = some (.int .i64 x0) ∧ w'.cell? ⟨q0, 1, none⟩ = some (.int .i64 x1) ∧ w'.cell? ⟨q0, 2, none⟩ = some (.int .i64 x2) ∧ w'.cell? ⟨q0, 3, none⟩ = some (.int .i64 x3) ∧ w'.cell? ⟨q0, 4, none⟩ = some (.int .i64 x4) ∧ w'.cell? ⟨q0, 5, none⟩ = some (.int .i64 x5) ∧ w'.cell? ⟨q0, 6, none⟩ = some (.int .i64 x6) ∧ w'.cell? ⟨q0, 7, none⟩ = some (.int .i64 x7) ∧ w'.cell? ⟨q0, 8, none⟩ = some (.int .i64 x8) ∧ w'.cell? ⟨q0, 9, none⟩ = some (.int .i64 x9) ∧ w'.cell? ⟨q0, 10, none⟩ = some (.int .i64 x10)) (go_keep) (fail)
          rename_i hHeld
          clear hHeld
          have HC5 := Aside0.mk (show RS1 w ((wr.alloc (.cells (mcells x0 x1 x2 x3 x4 x5 x6 x7 x8 x9 x10 (.slice none 0 0) (.slice none 0 0)) 28)).drew) g wr.heap.size q0 (mcells x0 x1 x2 x3 x4 x5 x6 x7 x8 x9 x10 (.slice none 0 0) (.slice none 0 0)) cells from ⟨alloc_old _ _ _ _ HC.out.r0, heap_alloc_new wr _, alloc_old _ _ _ _ HCL.out, below_drew (HC.out.be.trans ((below_alloc (Below.refl _ _) _).mono (Nat.le_of_lt (blk_lt HC.out.r0)))), blk_lt HC.out.r0, HQ0.out.2⟩)
          obtain ⟨q, hq⟩ : ∃ q, wr.heap.size = q := ⟨_, rfl⟩
          rw [hq] at HC5
          rw [hq]
          obtain ⟨mc, hmc⟩ : ∃ mc : Array Value, mc = mcells x0 x1 x2 x3 x4 x5 x6 x7 x8 x9 x10 (.slice none 0 0) (.slice none 0 0) := ⟨_, rfl⟩
          rw [← hmc] at HC5
          unfold mcells at hmc
          rw [← hmc]
          generalize (wr.alloc (.cells mc 28)).drew = w5 at HC5 ⊢
          subst hmc
          have HC5 : Aside0 (RS1 w w5 g q q0 (mcells x0 x1 x2 x3 x4 x5 x6 x7 x8 x9 x10 (.slice none 0 0) (.slice none 0 0)) cells) := ⟨HC5.out⟩
          clear hq d0 d1 d2 d3 d4 d5 d6 d7 d8 d9 d10 d11 HC HCL HQ0 HR b7 b11
          have HX3 := Aside0.mk (show refOf S = match rl S m p [] with | none => badR | some (log, p2) => refEnd S [x0, x1, x2, x3, x4, x5, x6, x7, x8, x9, x10, (m : Int)] log p2 from HX2.out)
          clear HX2
          go_wp2_with fail
          go_loopw [5, 11] (fun v5 v11 wr => ∃ (i : Nat) (acc : List ByteArray) (p2 : Nat) (A : Option Addr) (cp : Nat), v5 = .int .i64 p2 ∧ v11 = .int .i64 i ∧ i ≤ m ∧ p2 ≤ S.size ∧ acc.length = i ∧ Aside0 (RS1 w wr g q q0 (mcells x0 x1 x2 x3 x4 x5 x6 x7 x8 x9 x10 (.slice A acc.length cp) (.slice none 0 0)) cells) ∧ Aside0 (Kd.R Kd.string 9 wr g (fun k => q < k) (.slice A acc.length cp) acc) ∧ Aside0 (rl S (m - i) p2 acc = rl S m p [])) (fun _ v11 _ => m - (intOf v11).toNat)
          case atStart => exact ⟨0, [], p, none, 0, rfl, rfl, Nat.zero_le _, hp, rfl, HC5, ⟨Kd.R_nil _ _ _ _ _⟩, ⟨rfl⟩⟩
          case round =>
            clear HC5 hp hi hlt hb1
            obtain ⟨i, acc, p2, A, cp, rfl, rfl, hi, hp, hlen, HC, HR, HG⟩ := hrel
            have HLA := Aside0.mk hlen
            clear hlen
            have d11 : wr.cell? ⟨q0, 11, none⟩ = some (.int .i64 m) := (blk_cell HC.out.hl 11).trans (HJ.out 11 (by decide))
            have q1 : (0 : Int) ≤ (p2 : Int) := by omega
            have q2 : (p2 : Int) ≤ (S.size : Int) := by omega
            have q1b := decide_eq_true q1
            have q2b := decide_eq_true q2
            obtain ⟨⟨x, kk, e⟩, hv⟩ : ∃ v, var_ (S.extract p2 S.size) = v := ⟨_, rfl⟩
            have hvf := rvar_f (S.extract p2 S.size) (by rw [extract_size _ _ _ (Nat.le_refl _)]; have := HSZ.out; omega)
            have hok := var_ok (S.extract p2 S.size)
            rw [hv] at hvf hok
            rw [extract_size _ _ _ (Nat.le_refl _)] at hok
            have HVF := Aside0.mk hvf
            have HOK := Aside0.mk hok
            have HVR := Aside0.mk hv
            clear hvf hok hv
            by_cases hlt : i < m
            · have hb1 : decide ((i : Int) < (m : Int)) = true := by simp; omega
              have hg := HG.out
              obtain ⟨j, hj⟩ : ∃ j, m - i = j + 1 := ⟨m - i - 1, by omega⟩
              rw [hj, rl, HVR.out] at hg
              simp only at hg
              have HG2 := Aside0.mk hg
              have HJJ := Aside0.mk hj
              clear hg hj HG
              go_wp2_with fail
              refine (postroadref01_Var.calls 10 _ x kk e _ HVF.out).mono ?_
              rintro y w2 ⟨rfl, ⟨nd, rfl⟩⟩
              have HC2 := Aside0.mk (HC.out.below (pw_below_drewN (Below.refl _ _) nd))
              have HR2 := Aside0.mk (Kd.R_below HR.out (pw_below_drewN (Below.refl _ _) nd))
              generalize wr.drewN nd = w2 at HC2 HR2 ⊢
              clear HC HR d11
              by_cases he : e = 0
              · subst he
                have hq := HOK.out rfl
                obtain ⟨p1, p22, p3⟩ := hq
                obtain ⟨kn, rfl⟩ : ∃ m : Nat, kk = m := ⟨kk.toNat, by omega⟩
                obtain ⟨xn, rfl⟩ : ∃ m : Nat, x = m := ⟨x.toNat, by omega⟩
                have q3 : (p2 : Int) + (kn : Int) ≤ (S.size : Int) := by omega
                clear p1 p22 p3 HOK HVF
                by_cases hc : (xn : Int) ≤ (S.size : Int) - p2 - kn
                · have b3 : decide ((S.size : Int) - p2 - kn < (xn : Int)) = false := by simp; omega
                  have hg := HG2.out
                  rw [if_pos ⟨by first | rfl | trivial, hc⟩, Int.toNat_natCast, Int.toNat_natCast] at hg
                  obtain ⟨t, ht⟩ : ∃ t, S.extract (p2 + kn) (p2 + kn + xn) = t := ⟨_, rfl⟩
                  rw [ht] at hg
                  have HG3 := Aside0.mk hg
                  have HT := Aside0.mk ht
                  have q4 : (p2 : Int) + kn + xn ≤ (S.size : Int) := by omega
                  have q5 : (0 : Int) ≤ (p2 : Int) + kn := by omega
                  have q6 : (p2 : Int) + kn ≤ (p2 : Int) + kn + xn := by omega
                  clear hc hg HG2
                  have HS4 := Aside0.mk q4
                  have w1' : IntKind.i64.wrap ((p2 : Int) + (kn : Int)) = (p2 : Int) + (kn : Int) := IntWalk.i64_in _ ⟨by omega, by omega⟩
                  have w2' : IntKind.i64.wrap ((p2 : Int) + (kn : Int) + (xn : Int)) = (p2 : Int) + (kn : Int) + (xn : Int) := IntWalk.i64_in _ ⟨by omega, by omega⟩
                  have HW1 := Aside0.mk w1'
                  have HW2 := Aside0.mk w2'
                  clear w1' w2'
                  have n1 : ((p2 : Int) + (kn : Int)).toNat = p2 + kn := by omega
                  have n2 : ((p2 : Int) + (kn : Int) + (xn : Int)).toNat = p2 + kn + xn := by omega
                  have q4b := decide_eq_true q4
                  have q5b := decide_eq_true q5
                  have q6b := decide_eq_true q6
                  have e11 : w2.cell? ⟨q, 11, none⟩ = some (.slice A acc.length cp) := (blk_cell HC2.out.mq 11).trans rfl
                  have z11 := blk_frozen HC2.out.mq 11
                  go_upto_region 22 with (fail)
                  have HLT := Aside0.mk (show q < w2.heap.size from blk_lt HC2.out.mq)
                  have HC8 := Aside0.mk (HC2.out.below (below_drew (Below.refl _ _)))
                  have HR8 := Aside0.mk (Kd.R_below HR2.out (below_drew (Below.refl _ _)))
                  have HFN := Aside0.mk (fun (k : Nat) (hk : k ≤ q) => Kd.R_away HR8.out (g := k) (fun _ h => by omega))
                  have e11a : (w2.alloc (Obj.cells #[Value.string t] 9)).cell? ⟨q, 11, none⟩ = some (.slice A acc.length cp) := (blk_cell ((below_alloc (Below.refl _ _) _ |>.block _ (blk_lt HC2.out.mq)).trans HC2.out.mq) 11).trans rfl
                  have HI := Aside0.mk hlt
                  have w1' := HW1.out
                  have w2' := HW2.out
                  go_region_law (((rw [show (w2.alloc (Obj.cells #[Value.string t] 9)).drew = w2.drew.alloc (.cells #[.string t] 9) from rfl]); (refine Kd.R_append_step Kd.string (w0 := w) (W := w2.drew) g (by rfl) (.tmp 121) (.tmp 132) 25 9 (.string ⟨#[]⟩) 16 (by rfl) Try.underlying25 info9 rfl (by decide) (by decide) (.slice A acc.length cp) acc t [.string t] (fun k => q < k) (fun _ => False) (by rfl) (by rfl) rfl (fun _ hk => hk.elim) (fun k hk => Nat.lt_of_lt_of_le HLT.out hk) HR8.out HC8.out.be (Nat.le_of_lt (blk_lt HC8.out.r0)) (by clear w1' w2'; have := HLA.out; have := HI.out; have := HM.out; omega) ?_); intro v9 w9 ho hb hg hat; have HC9 := Aside0.mk (HC8.out.grown hg HFN.out hb); have HR9 := Aside0.mk ho; have e9 := (blk_cell HC9.out.mq 11).trans (rfl : _ = some (Value.slice A acc.length cp)); have z9 := blk_frozen HC9.out.mq 11; clear ho hb hg hat; obtain ⟨ys, hys⟩ : ∃ y, acc ++ [t] = y := ⟨_, rfl⟩; rw [hys] at HR9; have HYS := Aside0.mk hys; clear hys; obtain ⟨Ao, co, eo⟩ := Kd.R_slice HR9.out; subst eo))
                  all_goals
                    clear w1' w2' n1 n2 ht
                    have HC10 := Aside0.mk (show RS1 w (w9.setCell ⟨q, 11, none⟩ (.slice Ao ys.length co)) g q q0 (mcells x0 x1 x2 x3 x4 x5 x6 x7 x8 x9 x10 (.slice Ao ys.length co) (.slice none 0 0)) cells from HC9.out.setm 11 (.slice Ao ys.length co))
                    have HR10 := Aside0.mk (Kd.R_far HR9.out (p := ⟨q, 11, none⟩) (fun k hk => by show k ≠ q; omega) (.slice Ao ys.length co))
                    generalize w9.setCell ⟨q, 11, none⟩ (.slice Ao ys.length co) = w10 at HC10 HR10 ⊢
                    clear HC9 HR9 e9 z9 HC8 HR8 HFN e11 e11a z11 HC2 HR2
                    have HG11 := Aside0.mk (show rl S (m - (i + 1)) (p2 + kn + xn) ys = rl S m p [] by rw [show m - (i + 1) = j from by have := HJJ.out; omega, ← HYS.out]; exact HG3.out)
                    have HL11 := Aside0.mk (show ys.length = i + 1 by rw [← HYS.out]; simp [HLA.out])
                    have HP11 := Aside0.mk (show p2 + kn + xn ≤ S.size by have := HS4.out; omega)
                    go_wp2_with fail
                    go_roundw
                    case rel => exact ⟨i + 1, ys, p2 + kn + xn, Ao, co, by simp, by simp, hlt, HP11.out, HL11.out, HC10, HR10, HG11⟩
                    case measure => simp [intOf]; omega
                · have b3 : decide ((S.size : Int) - p2 - kn < (xn : Int)) = true := by simp; omega
                  have hg := HG2.out
                  rw [if_neg (fun h => hc h.2)] at hg
                  have hw := HWR.out
                  rw [HX3.out, ← hg] at hw
                  unfold badR at hw
                  simp only [Prod.mk.injEq] at hw
                  obtain ⟨rfl, rfl, rfl, rfl⟩ := hw
                  clear hc hg HG2
                  go_wp2_with ((with_reducible refine gate_store (t := 28) (p := 2) (v := .tmp 119) rfl ?_); refine store_all rfl rfl rfl g zcells zcells 28 (by rfl) (by rfl) HC2.out.r0 rfl (by kernel_rfl) zcells_one ?_; intro w9 hr1 hf6; have HR1 := Aside0.mk hr1; have HF6 := Aside0.mk hf6; clear hr1 hf6)
                  refine bodyPost_ret (results_ct rfl _ _ g 28 zcells (0, 0) _ rfl HR1.out Try.underlying28 rfl (by kernel_rfl)) rfl ?_
                  exact ⟨.slice none 0 0, .slice none 0 0, rfl, Kd.R_nil _ _ _ _ _, Kd.R_nil _ _ _ _ _, by rw [HG0.out]; exact HC2.out.be.trans (HF6.out.below (by have := blk_lt HC2.out.r0; omega) (fun k hk => by omega))⟩
              · have b2 : (e != 0) = true := by simpa using he
                have hg := HG2.out
                rw [if_neg (fun h => he h.1)] at hg
                have hw := HWR.out
                rw [HX3.out, ← hg] at hw
                unfold badR at hw
                simp only [Prod.mk.injEq] at hw
                obtain ⟨rfl, rfl, rfl, rfl⟩ := hw
                clear he hg HG2 HOK HVF
                go_wp2_with ((with_reducible refine gate_store (t := 28) (p := 2) (v := .tmp 119) rfl ?_); refine store_all rfl rfl rfl g zcells zcells 28 (by rfl) (by rfl) HC2.out.r0 rfl (by kernel_rfl) zcells_one ?_; intro w9 hr1 hf6; have HR1 := Aside0.mk hr1; have HF6 := Aside0.mk hf6; clear hr1 hf6)
                refine bodyPost_ret (results_ct rfl _ _ g 28 zcells (0, 0) _ rfl HR1.out Try.underlying28 rfl (by kernel_rfl)) rfl ?_
                exact ⟨.slice none 0 0, .slice none 0 0, rfl, Kd.R_nil _ _ _ _ _, Kd.R_nil _ _ _ _ _, by rw [HG0.out]; exact HC2.out.be.trans (HF6.out.below (by have := blk_lt HC2.out.r0; omega) (fun k hk => by omega))⟩
            · have hie : i = m := by omega
              subst hie
              have hb1 : decide ((i : Int) < (i : Int)) = false := by simp
              have hg := HG.out
              rw [Nat.sub_self, rl] at hg
              have HRE := Aside0.mk (show refOf S = refEnd S [x0, x1, x2, x3, x4, x5, x6, x7, x8, x9, x10, (i : Int)] acc p2 by rw [HX3.out, ← hg])
              clear hg HG HX3
              go_wp2_with fail
              refine (postroadref01_Var.calls 10 _ x kk e _ HVF.out).mono ?_
              rintro y w2 ⟨rfl, ⟨nd, rfl⟩⟩
              have HC2 := Aside0.mk (HC.out.below (pw_below_drewN (Below.refl _ _) nd))
              have HR2 := Aside0.mk (Kd.R_below HR.out (pw_below_drewN (Below.refl _ _) nd))
              generalize wr.drewN nd = w2 at HC2 HR2 ⊢
              clear HC HR d11
              have hre := HRE.out
              unfold refEnd at hre
              rw [HVR.out] at hre
              simp only at hre
              by_cases hbad : e ≠ 0 ∨ 256 < x
              · rw [if_pos hbad] at hre
                have hw := HWR.out
                rw [hre] at hw
                unfold badR at hw
                simp only [Prod.mk.injEq] at hw
                obtain ⟨rfl, rfl, rfl, rfl⟩ := hw
                clear hre HOK HVF
                by_cases he : e = 0
                · subst he
                  have b2 : decide (256 < x) = true := by simpa using hbad
                  clear hbad
                  go_wp2_with ((with_reducible refine gate_store (t := 28) (p := 2) (v := .tmp 154) rfl ?_); refine store_all rfl rfl rfl g zcells zcells 28 (by rfl) (by rfl) HC2.out.r0 rfl (by kernel_rfl) zcells_one ?_; intro w9 hr1 hf6; have HR1 := Aside0.mk hr1; have HF6 := Aside0.mk hf6; clear hr1 hf6)
                  refine bodyPost_ret (results_ct rfl _ _ g 28 zcells (0, 0) _ rfl HR1.out Try.underlying28 rfl (by kernel_rfl)) rfl ?_
                  exact ⟨.slice none 0 0, .slice none 0 0, rfl, Kd.R_nil _ _ _ _ _, Kd.R_nil _ _ _ _ _, by rw [HG0.out]; exact HC2.out.be.trans (HF6.out.below (by have := blk_lt HC2.out.r0; omega) (fun k hk => by omega))⟩
                · have b2 : (e != 0) = true := by simpa using he
                  clear hbad he
                  go_wp2_with ((with_reducible refine gate_store (t := 28) (p := 2) (v := .tmp 154) rfl ?_); refine store_all rfl rfl rfl g zcells zcells 28 (by rfl) (by rfl) HC2.out.r0 rfl (by kernel_rfl) zcells_one ?_; intro w9 hr1 hf6; have HR1 := Aside0.mk hr1; have HF6 := Aside0.mk hf6; clear hr1 hf6)
                  refine bodyPost_ret (results_ct rfl _ _ g 28 zcells (0, 0) _ rfl HR1.out Try.underlying28 rfl (by kernel_rfl)) rfl ?_
                  exact ⟨.slice none 0 0, .slice none 0 0, rfl, Kd.R_nil _ _ _ _ _, Kd.R_nil _ _ _ _ _, by rw [HG0.out]; exact HC2.out.be.trans (HF6.out.below (by have := blk_lt HC2.out.r0; omega) (fun k hk => by omega))⟩
              · rw [if_neg hbad] at hre
                have he : e = 0 := Classical.not_not.1 (fun h => hbad (Or.inl h))
                subst he
                have hx256 : ¬ 256 < x := fun h => hbad (Or.inr h)
                have b2 : decide (256 < x) = false := by simpa using hx256
                obtain ⟨p1, p22, p3⟩ := HOK.out rfl
                obtain ⟨kn, rfl⟩ : ∃ m : Nat, kk = m := ⟨kk.toNat, by omega⟩
                rw [Int.toNat_natCast] at hre
                have q3 : (p2 : Int) + (kn : Int) ≤ (S.size : Int) := by omega
                have q5 : (0 : Int) ≤ (p2 : Int) + kn := by omega
                have q3b := decide_eq_true q3
                have q5b := decide_eq_true q5
                have HX256 := Aside0.mk (show 0 ≤ x ∧ x ≤ 256 by omega)
                have HSS := Aside0.mk (show (S.extract (p2 + kn) S.size).size ≤ 1048576 by rw [extract_size _ _ _ (Nat.le_refl _)]; have := HSZ.out; omega)
                obtain ⟨t, ht⟩ : ∃ t, S.extract (p2 + kn) S.size = t := ⟨_, rfl⟩
                rw [ht] at hre HSS
                obtain ⟨⟨bd, f⟩, hrc⟩ : ∃ v, recOf t 0 x = some v := by
                  unfold recOf
                  rw [if_neg (by have := HX256.out; omega), if_pos (by have := HSS.out; omega)]
                  exact ⟨_, rfl⟩
                have HRO := Aside0.mk (PZ.rof_f t (by have := HSS.out; omega) 0 x)
                rw [hrc] at hre HRO
                simp only at hre
                have HRC := Aside0.mk hrc
                have HRE2 := Aside0.mk hre
                have n1 : ((p2 : Int) + (kn : Int)).toNat = p2 + kn := by omega
                clear hre hbad hx256 p1 p22 p3 HOK HVF hrc HVR HRE
                go_wp2_with fail
                refine (postroadref09_Of.calls _ t 0 x bd f _ HRO.out).mono ?_
                rintro y w6 ⟨vb, rfl, hrb, hb⟩
                have HC6 := Aside0.mk (HC2.out.below hb)
                have HR6 := Aside0.mk (Kd.R_below HR2.out hb)
                have HB6 := Aside0.mk (Kd.R_mono (ok' := fun k => q < k) (Kd.R_lower (Kd.R_bound hrb) (base' := g) (Nat.le_of_lt (blk_lt HC2.out.r0))) (fun k hk => by have := blk_lt HC2.out.mq; have := hk.2.1; omega))
                obtain ⟨A2, c2, hvb⟩ := Kd.R_slice HB6.out
                subst hvb
                clear hb hrb HC2 HR2 n1 ht
                have e12 : w6.cell? ⟨q, 12, none⟩ = some (.slice none 0 0) := (blk_cell HC6.out.mq 12).trans rfl
                have z12 := blk_frozen HC6.out.mq 12
                go_upto_region 29 with (fail)
                have HC7 := Aside0.mk (show RS1 w (w6.setCell ⟨q, 12, none⟩ (.slice A2 bd.length c2)) g q q0 (mcells x0 x1 x2 x3 x4 x5 x6 x7 x8 x9 x10 (.slice A acc.length cp) (.slice A2 bd.length c2)) cells from HC6.out.setm 12 (.slice A2 bd.length c2))
                have HR7 := Aside0.mk (Kd.R_far HR6.out (p := ⟨q, 12, none⟩) (fun k hk => by show k ≠ q; omega) (.slice A2 bd.length c2))
                have HB7 := Aside0.mk (Kd.R_far HB6.out (p := ⟨q, 12, none⟩) (fun k hk => by show k ≠ q; omega) (.slice A2 bd.length c2))
                generalize w6.setCell ⟨q, 12, none⟩ (.slice A2 bd.length c2) = w7 at HC7 HR7 HB7 ⊢
                clear HC6 HR6 HB6 e12 z12
                by_cases hf : f = 0
                · subst hf
                  have e0 : w7.cell? ⟨q, 0, none⟩ = some (.int .i64 x0) := (blk_cell HC7.out.mq 0).trans rfl
                  have e1 : w7.cell? ⟨q, 1, none⟩ = some (.int .i64 x1) := (blk_cell HC7.out.mq 1).trans rfl
                  have e2 : w7.cell? ⟨q, 2, none⟩ = some (.int .i64 x2) := (blk_cell HC7.out.mq 2).trans rfl
                  have e3 : w7.cell? ⟨q, 3, none⟩ = some (.int .i64 x3) := (blk_cell HC7.out.mq 3).trans rfl
                  have e4 : w7.cell? ⟨q, 4, none⟩ = some (.int .i64 x4) := (blk_cell HC7.out.mq 4).trans rfl
                  have e5 : w7.cell? ⟨q, 5, none⟩ = some (.int .i64 x5) := (blk_cell HC7.out.mq 5).trans rfl
                  have e6 : w7.cell? ⟨q, 6, none⟩ = some (.int .i64 x6) := (blk_cell HC7.out.mq 6).trans rfl
                  have e7 : w7.cell? ⟨q, 7, none⟩ = some (.int .i64 x7) := (blk_cell HC7.out.mq 7).trans rfl
                  have e8 : w7.cell? ⟨q, 8, none⟩ = some (.int .i64 x8) := (blk_cell HC7.out.mq 8).trans rfl
                  have e9 : w7.cell? ⟨q, 9, none⟩ = some (.int .i64 x9) := (blk_cell HC7.out.mq 9).trans rfl
                  have e10 : w7.cell? ⟨q, 10, none⟩ = some (.int .i64 x10) := (blk_cell HC7.out.mq 10).trans rfl
                  have e11 : w7.cell? ⟨q, 11, none⟩ = some (.slice A acc.length cp) := (blk_cell HC7.out.mq 11).trans rfl
                  have e12 : w7.cell? ⟨q, 12, none⟩ = some (.slice A2 bd.length c2) := (blk_cell HC7.out.mq 12).trans rfl
                  go_wp2_with fail
                  refine (may_any x0 x1 x2 x3 x4 x5 x6 x7 x8 x9 x10 A cp acc A2 c2 bd _ (RC HR7.out).1 (RC HB7.out).1 (by have := HLA.out; have := HM.out; omega) (by have := recOf_len HRC.out; have := HX256.out; omega)).mono ?_
                  rintro y w8 ⟨rfl, hb⟩
                  have HC8 := Aside0.mk (HC7.out.below hb)
                  have HR8 := Aside0.mk (Kd.R_below HR7.out hb)
                  have HB8 := Aside0.mk (Kd.R_below HB7.out hb)
                  clear hb HC7 HR7 HB7 e0 e1 e2 e3 e4 e5 e6 e7 e8 e9 e10 e11 e12
                  obtain ⟨okm, hok⟩ : ∃ y, okMsg [x0, x1, x2, x3, x4, x5, x6, x7, x8, x9, x10] acc bd = y := ⟨_, rfl⟩
                  rw [hok]
                  have hre := HRE2.out
                  rw [show List.take 11 [x0, x1, x2, x3, x4, x5, x6, x7, x8, x9, x10, (i : Int)] = [x0, x1, x2, x3, x4, x5, x6, x7, x8, x9, x10] from rfl, hok] at hre
                  clear hok
                  cases okm with
                  | true =>
                    rw [if_pos ⟨by first | rfl | trivial, by first | rfl | trivial⟩] at hre
                    have hw := HWR.out
                    rw [hre] at hw
                    simp only [Prod.mk.injEq] at hw
                    obtain ⟨rfl, rfl, rfl, rfl⟩ := hw
                    clear hre
                    have e0 : w8.cell? ⟨q, 0, none⟩ = some (.int .i64 x0) := (blk_cell HC8.out.mq 0).trans rfl
                    have e1 : w8.cell? ⟨q, 1, none⟩ = some (.int .i64 x1) := (blk_cell HC8.out.mq 1).trans rfl
                    have e2 : w8.cell? ⟨q, 2, none⟩ = some (.int .i64 x2) := (blk_cell HC8.out.mq 2).trans rfl
                    have e3 : w8.cell? ⟨q, 3, none⟩ = some (.int .i64 x3) := (blk_cell HC8.out.mq 3).trans rfl
                    have e4 : w8.cell? ⟨q, 4, none⟩ = some (.int .i64 x4) := (blk_cell HC8.out.mq 4).trans rfl
                    have e5 : w8.cell? ⟨q, 5, none⟩ = some (.int .i64 x5) := (blk_cell HC8.out.mq 5).trans rfl
                    have e6 : w8.cell? ⟨q, 6, none⟩ = some (.int .i64 x6) := (blk_cell HC8.out.mq 6).trans rfl
                    have e7 : w8.cell? ⟨q, 7, none⟩ = some (.int .i64 x7) := (blk_cell HC8.out.mq 7).trans rfl
                    have e8 : w8.cell? ⟨q, 8, none⟩ = some (.int .i64 x8) := (blk_cell HC8.out.mq 8).trans rfl
                    have e9 : w8.cell? ⟨q, 9, none⟩ = some (.int .i64 x9) := (blk_cell HC8.out.mq 9).trans rfl
                    have e10 : w8.cell? ⟨q, 10, none⟩ = some (.int .i64 x10) := (blk_cell HC8.out.mq 10).trans rfl
                    have e11 : w8.cell? ⟨q, 11, none⟩ = some (.slice A acc.length cp) := (blk_cell HC8.out.mq 11).trans rfl
                    have e12 : w8.cell? ⟨q, 12, none⟩ = some (.slice A2 bd.length c2) := (blk_cell HC8.out.mq 12).trans rfl
                    go_wp2_with ((with_reducible refine gate_store (t := 28) (p := 2) (v := .tmp 175) rfl ?_); refine store_all rfl rfl rfl g zcells (mf [x0, x1, x2, x3, x4, x5, x6, x7, x8, x9, x10] (.slice A acc.length cp) (.slice A2 bd.length c2)) 28 (by rfl) (by rfl) HC8.out.r0 rfl (by kernel_rfl) (mf_one _ _ _ _ _ _ _) ?_; intro w9 hr1 hf6; have HR1 := Aside0.mk hr1; have HF6 := Aside0.mk hf6; clear hr1 hf6)
                    refine bodyPost_ret (results_ct rfl _ _ g 28 (mf [x0, x1, x2, x3, x4, x5, x6, x7, x8, x9, x10] (.slice A acc.length cp) (.slice A2 bd.length c2)) (0, 0) _ rfl HR1.out Try.underlying28 rfl (by kernel_rfl)) rfl ?_
                    exact ⟨.slice A acc.length cp, .slice A2 bd.length c2, rfl, by rw [HG0.out]; exact Kd.R_mono (Kd.R_step HR8.out (fun k hk hlt => HF6.out.block k hlt (fun e => by have := HC8.out.gq; omega))) (fun _ _ => trivial), by rw [HG0.out]; exact Kd.R_mono (Kd.R_step HB8.out (fun k hk hlt => HF6.out.block k hlt (fun e => by have := HC8.out.gq; omega))) (fun _ _ => trivial), by rw [HG0.out]; exact HC8.out.be.trans (HF6.out.below (by have := blk_lt HC8.out.r0; omega) (fun k hk => by omega))⟩
                  | false =>
                    rw [if_neg (fun h => absurd h.2 (by decide))] at hre
                    have hw := HWR.out
                    rw [hre] at hw
                    unfold badR at hw
                    simp only [Prod.mk.injEq] at hw
                    obtain ⟨rfl, rfl, rfl, rfl⟩ := hw
                    clear hre
                    go_wp2_with ((with_reducible refine gate_store (t := 28) (p := 2) (v := .tmp 174) rfl ?_); refine store_all rfl rfl rfl g zcells zcells 28 (by rfl) (by rfl) HC8.out.r0 rfl (by kernel_rfl) zcells_one ?_; intro w9 hr1 hf6; have HR1 := Aside0.mk hr1; have HF6 := Aside0.mk hf6; clear hr1 hf6)
                    refine bodyPost_ret (results_ct rfl _ _ g 28 zcells (0, 0) _ rfl HR1.out Try.underlying28 rfl (by kernel_rfl)) rfl ?_
                    exact ⟨.slice none 0 0, .slice none 0 0, rfl, Kd.R_nil _ _ _ _ _, Kd.R_nil _ _ _ _ _, by rw [HG0.out]; exact HC8.out.be.trans (HF6.out.below (by have := blk_lt HC8.out.r0; omega) (fun k hk => by omega))⟩
                · have b3 : (f != 0) = true := by simpa using hf
                  have hre := HRE2.out
                  rw [if_neg (fun h => hf h.1)] at hre
                  have hw := HWR.out
                  rw [hre] at hw
                  unfold badR at hw
                  simp only [Prod.mk.injEq] at hw
                  obtain ⟨rfl, rfl, rfl, rfl⟩ := hw
                  clear hre hf
                  go_wp2_with ((with_reducible refine gate_store (t := 28) (p := 2) (v := .tmp 174) rfl ?_); refine store_all rfl rfl rfl g zcells zcells 28 (by rfl) (by rfl) HC7.out.r0 rfl (by kernel_rfl) zcells_one ?_; intro w9 hr1 hf6; have HR1 := Aside0.mk hr1; have HF6 := Aside0.mk hf6; clear hr1 hf6)
                  refine bodyPost_ret (results_ct rfl _ _ g 28 zcells (0, 0) _ rfl HR1.out Try.underlying28 rfl (by kernel_rfl)) rfl ?_
                  exact ⟨.slice none 0 0, .slice none 0 0, rfl, Kd.R_nil _ _ _ _ _, Kd.R_nil _ _ _ _ _, by rw [HG0.out]; exact HC7.out.be.trans (HF6.out.below (by have := blk_lt HC7.out.r0; omega) (fun k hk => by omega))⟩
end Go.Proofs.Ytojnhklgfdfkcaa.WK

