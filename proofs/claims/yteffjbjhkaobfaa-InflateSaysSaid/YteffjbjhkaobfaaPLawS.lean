/- awake, and what the laws ask of readings, without the document's reader (printed from HAwkI, HRq10, PLawI). -/
import Derived.Test.YteffjbjhkaobfaaGH
import Derived.Test.YteffjbjhkaobfaaHRow
namespace Go.Proofs.Yteffjbjhkaobfaa.HI
open Go.RowKit Go.Proofs.YteffjbjhkaobfaaW.PrintWords Go.Proofs.Yteffjbjhkaobfaa.MB Go.Proofs.Yteffjbjhkaobfaa.Fn Go.Proofs.Yteffjbjhkaobfaa.HF Go.Proofs.Yteffjbjhkaobfaa.RT Go.Proofs.Yteffjbjhkaobfaa.RT.Rd
/-- A block behind its head. -/
def kindT (most F : Nat) (out : List Int) (kind : Nat) : Rd (List Int) :=
  if kind = 0 then storedT most out else if kind = 1 then packedT most fixL (some fixD) F out else if kind = 2 then dynamicT.bind (fun z => packedT most z.1 (tableO z.2) F out) else err 40
end Go.Proofs.Yteffjbjhkaobfaa.HI
namespace Go.Proofs.Yteffjbjhkaobfaa.HI
open Go.RowKit Go.Proofs.YteffjbjhkaobfaaW.PrintWords Go.Proofs.YteffjbjhkaobfaaW.PrintLast Go.Proofs.YteffjbjhkaobfaaW.PrintMore Go.Proofs.Yteffjbjhkaobfaa.HW Go.Proofs.Yteffjbjhkaobfaa.MB Go.Proofs.Yteffjbjhkaobfaa.Fn Go.Proofs.Yteffjbjhkaobfaa.HF Go.Proofs.Yteffjbjhkaobfaa.RT Go.Proofs.Yteffjbjhkaobfaa.RT.Rd Go.Proofs.Yteffjbjhkaobfaa.HP
theorem aw1 : inflR ⟨#[1, 2, 0, 253, 255, 104, 105, 33]⟩ 9 = (⟨#[104, 105]⟩, 7, 0) := by kernel_rfl
theorem aw3 : inflR ⟨#[7]⟩ 9 = (⟨#[]⟩, 0, 40) := by kernel_rfl
theorem aw2 : inflR ⟨#[75, 4, 0]⟩ 9 = (⟨#[97]⟩, 3, 0) := by kernel_rfl
attribute [local go_sem] max2_int min2_int max_two min_two max_three min_three max_four min_four   -- for this text's walks alone
set_option maxRecDepth 100000 in
set_option maxHeartbeats 4000000 in
theorem awake_ok (W : World) : Calls Try.prog 9 #[] W fun e w' => e = .returned (.bool true) ∧ Below W.heap.size W w' := by
  have H1 := Aside0.mk (fun W : World => inflateX ⟨#[1, 2, 0, 253, 255, 104, 105, 33]⟩ (by decide) 9 W)
  have H2 := Aside0.mk (fun W : World => inflateX ⟨#[75, 4, 0]⟩ (by decide) 9 W)
  have H3 := Aside0.mk (fun W : World => inflateX ⟨#[7]⟩ (by decide) 9 W)
  rw [aw1] at H1
  rw [aw2] at H2
  rw [aw3] at H3
  go_enter Try.func9, Try.ntmps9
  go_wp2_with fail
  refine (H1.out _).mono ?_
  rintro e w1 ⟨rfl, hb1⟩
  have HB1 := Aside0.mk hb1
  clear hb1
  go_wp2_with fail
  refine (H2.out _).mono ?_
  rintro e w2 ⟨rfl, hb2⟩
  have HB2 := Aside0.mk (HB1.out.trans (hb2.mono HB1.out.size))
  clear hb2
  go_wp2_with fail
  refine (H3.out _).mono ?_
  rintro e w3 ⟨rfl, hb3⟩
  have HB3 := Aside0.mk (HB2.out.trans (hb3.mono HB2.out.size))
  clear hb3
  go_wp2_with fail
  go_ret
  exact ⟨rfl, HB3.out⟩
end Go.Proofs.Yteffjbjhkaobfaa.HI
namespace Go.Proofs.Yteffjbjhkaobfaa.IW
open Go.RowKit Go.Proofs.YteffjbjhkaobfaaW.PrintWords Go.Proofs.Yteffjbjhkaobfaa.MB Go.Proofs.Yteffjbjhkaobfaa.Fn Go.Proofs.Yteffjbjhkaobfaa.HF Go.Proofs.Yteffjbjhkaobfaa.RT Go.Proofs.Yteffjbjhkaobfaa.RT.Rd Go.Proofs.Yteffjbjhkaobfaa.HP Go.Proofs.Yteffjbjhkaobfaa.HI
theorem bind_ok {α β : Type} {t : Rd α} {f : α → Rd β} {s : ByteArray} {a a' : Nat} {v : β} (h : (t.bind f).run s a = .ok v a') : ∃ x a1, t.run s a = .ok x a1 ∧ (f x).run s a1 = .ok v a' := by
  rw [run_bind] at h
  cases ht : t.run s a with
  | no e => rw [ht] at h; cases h
  | ok x a1 => rw [ht] at h; exact ⟨x, a1, rfl, h⟩
theorem bind_run {α β : Type} {t : Rd α} (f : α → Rd β) {s : ByteArray} {a a1 : Nat} {x : α} (h : t.run s a = .ok x a1) : (t.bind f).run s a = (f x).run s a1 := by
  rw [run_bind, h]
theorem bytesN_len {s : ByteArray} : ∀ (n : Nat) {a a' : Nat} {l : List Int}, (bytesN n).run s a = .ok l a' → l.length = n
  | 0, a, a', l, h => by
    injection h with h _
    rw [← h]
    rfl
  | n + 1, a, a', l, h => by
    obtain ⟨b, a1, h1, h2⟩ := bind_ok h
    obtain ⟨r, a2, h3, h4⟩ := bind_ok h2
    injection h4 with h4 _
    rw [← h4, List.length_cons, bytesN_len n h3]
/-- What room does to what is told. -/
def Mo (most' : Nat) (o' : List Int) (a' : Nat) : Res (List Int) := if o'.length ≤ most' then .ok o' a' else .no 4
theorem stored_most {s : ByteArray} {most most' : Nat} {out o' : List Int} {a a' : Nat} (h : (storedT most out).run s a = .ok o' a') : out.length ≤ o'.length ∧ (out.length ≤ most' → (storedT most' out).run s a = Mo most' o' a') := by
  unfold storedT at h ⊢
  change ((bitsN 16).bind _).run s ((a + 7) / 8 * 8) = _ at h
  obtain ⟨n, a1, h1, h2⟩ := bind_ok h
  obtain ⟨m, a2, h3, h4⟩ := bind_ok h2
  by_cases hm : m + n = 65535
  · rw [if_pos hm] at h4
    by_cases hr : most < out.length + n
    · rw [if_pos hr] at h4; cases h4
    · rw [if_neg hr] at h4
      obtain ⟨bs, a3, h5, h6⟩ := bind_ok h4
      injection h6 with h6 h7
      have hl := bytesN_len n h5
      subst h6
      subst h7
      refine ⟨by rw [List.length_append]; omega, fun _ => ?_⟩
      show ((bitsN 16).bind _).run s ((a + 7) / 8 * 8) = _
      rw [bind_run _ h1, bind_run _ h3, if_pos hm]
      unfold Mo
      rw [List.length_append, hl]
      by_cases hr2 : most' < out.length + n
      · rw [if_pos hr2, if_neg (by omega)]
        rfl
      · rw [if_neg hr2, if_pos (by omega), bind_run _ h5]
        rfl
  · rw [if_neg hm] at h4; cases h4
theorem copies_most {s : ByteArray} {most most' : Nat} {out o' : List Int} {k : Nat} {d : Option (List Int)} {a a' : Nat} (h : (copiesT most out k d).run s a = .ok o' a') : out.length ≤ o'.length ∧ (out.length ≤ most' → (copiesT most' out k d).run s a = Mo most' o' a') := by
  unfold copiesT at h ⊢
  by_cases hk : 285 < k
  · rw [if_pos hk] at h; cases h
  · rw [if_neg hk] at h ⊢
    obtain ⟨x, a1, h1, h2⟩ := bind_ok h
    rw [bind_run _ h1]
    cases d with
    | none => cases h2
    | some dl =>
      simp only at h2 ⊢
      obtain ⟨j, a2, h3, h4⟩ := bind_ok h2
      rw [bind_run _ h3]
      by_cases hj : 30 ≤ j
      · rw [if_pos hj] at h4; cases h4
      · rw [if_neg hj] at h4 ⊢
        obtain ⟨y, a3, h5, h6⟩ := bind_ok h4
        rw [bind_run _ h5]
        by_cases hf : out.length < (distB j.toNat).1 + y
        · rw [if_pos hf] at h6; cases h6
        · rw [if_neg hf] at h6 ⊢
          by_cases hr : most < out.length + ((lenB k).1 + x)
          · rw [if_pos hr] at h6; cases h6
          · rw [if_neg hr] at h6
            injection h6 with h6 h7
            subst h6
            subst h7
            have hl := copyN_len ((distB j.toNat).1 + y) ((lenB k).1 + x) out
            refine ⟨by omega, fun _ => ?_⟩
            unfold Mo
            rw [hl]
            by_cases hr2 : most' < out.length + ((lenB k).1 + x)
            · rw [if_pos hr2, if_neg (by omega)]
              rfl
            · rw [if_neg hr2, if_pos (by omega)]
              rfl
theorem packed_most {s : ByteArray} {most most' : Nat} {lens : List Int} {d : Option (List Int)} : ∀ (f : Nat) {out o' : List Int} {a a' : Nat}, (packedT most lens d f out).run s a = .ok o' a' → out.length ≤ o'.length ∧ (out.length ≤ most' → (packedT most' lens d f out).run s a = Mo most' o' a')
  | 0, _, _, _, _, h => by cases h
  | f + 1, out, o', a, a', h => by
    obtain ⟨k, a1, h1, h2⟩ := bind_ok (show ((symT lens).bind _).run s a = _ from h)
    have hgo : (packedT most' lens d (f + 1) out).run s a = (if k = 256 then ret out else if 256 < k then (copiesT most' out k.toNat d).bind fun o => packedT most' lens d f o else if most' < out.length + 1 then err 4 else packedT most' lens d f (out ++ [k])).run s a1 := bind_run _ h1
    rw [hgo]
    by_cases hk : k = 256
    · rw [if_pos hk] at h2 ⊢
      injection h2 with h2 h3
      subst h2
      subst h3
      refine ⟨Nat.le_refl _, fun h => ?_⟩
      unfold Mo
      rw [if_pos h]
      rfl
    · rw [if_neg hk] at h2 ⊢
      by_cases hk2 : 256 < k
      · rw [if_pos hk2] at h2 ⊢
        obtain ⟨o1, a2, h3, h4⟩ := bind_ok h2
        obtain ⟨c1, c2⟩ := copies_most (most' := most') h3
        obtain ⟨p1, p2⟩ := packed_most f h4
        refine ⟨Nat.le_trans c1 p1, fun h => ?_⟩
        rw [run_bind, c2 h]
        unfold Mo
        by_cases ho : o1.length ≤ most'
        · rw [if_pos ho]
          exact p2 ho
        · rw [if_neg ho, if_neg (by omega)]
      · rw [if_neg hk2] at h2 ⊢
        by_cases hr : most < out.length + 1
        · rw [if_pos hr] at h2; cases h2
        · rw [if_neg hr] at h2
          obtain ⟨p1, p2⟩ := packed_most f h2
          rw [List.length_append, List.length_singleton] at p1 p2
          refine ⟨by omega, fun h => ?_⟩
          by_cases hr2 : most' < out.length + 1
          · rw [if_pos hr2]
            unfold Mo
            rw [if_neg (by omega)]
            rfl
          · rw [if_neg hr2]
            exact p2 (by omega)
theorem kind_most {s : ByteArray} {most most' F : Nat} {out o' : List Int} {kd : Nat} {a a' : Nat} (h : (kindT most F out kd).run s a = .ok o' a') : out.length ≤ o'.length ∧ (out.length ≤ most' → (kindT most' F out kd).run s a = Mo most' o' a') := by
  unfold kindT at h ⊢
  by_cases h0 : kd = 0
  · rw [if_pos h0] at h ⊢
    exact stored_most h
  · rw [if_neg h0] at h ⊢
    by_cases h1 : kd = 1
    · rw [if_pos h1] at h ⊢
      exact packed_most F h
    · rw [if_neg h1] at h ⊢
      by_cases h2 : kd = 2
      · rw [if_pos h2] at h ⊢
        obtain ⟨z, a1, h3, h4⟩ := bind_ok h
        rw [bind_run _ h3]
        exact packed_most F h4
      · rw [if_neg h2] at h
        cases h
theorem inflT_kind (most F f : Nat) (out : List Int) : inflT most F (f + 1) out = (bitsN 1).bind fun last => (bitsN 2).bind fun kind => (kindT most F out kind).bind fun o => if last = 1 then ret o else inflT most F f o := by
  show (blockT most F out).bind _ = _
  unfold blockT
  rw [bind_assoc]
  congr 1
  funext last
  rw [bind_assoc]
  congr 1
  funext kind
  rw [bind_assoc]
  show (kindT most F out kind).bind _ = _
  congr 1
  funext o
  show (if decide (last = 1) = true then ret o else inflT most F f o) = _
  by_cases h : last = 1
  · rw [if_pos h, if_pos (decide_eq_true h)]
  · rw [if_neg h, if_neg (by rw [decide_eq_false h]; exact Bool.false_ne_true)]
theorem infl_most {s : ByteArray} {most most' F : Nat} : ∀ (f : Nat) {out o' : List Int} {a a' : Nat}, (inflT most F f out).run s a = .ok o' a' → out.length ≤ o'.length ∧ (out.length ≤ most' → (inflT most' F f out).run s a = Mo most' o' a')
  | 0, _, _, _, _, h => by cases h
  | f + 1, out, o', a, a', h => by
    rw [inflT_kind] at h ⊢
    obtain ⟨lv, a1, h1, h2⟩ := bind_ok h
    obtain ⟨kd, a2, h3, h4⟩ := bind_ok h2
    obtain ⟨o1, a3, h5, h6⟩ := bind_ok h4
    obtain ⟨k1, k2⟩ := kind_most (most' := most') h5
    rw [bind_run _ h1, bind_run _ h3]
    by_cases hl : lv = 1
    · rw [if_pos hl] at h6
      injection h6 with h6 h7
      subst h6
      subst h7
      refine ⟨k1, fun h => ?_⟩
      rw [run_bind, k2 h]
      unfold Mo
      by_cases ho : o1.length ≤ most'
      · rw [if_pos ho]
        simp only
        rw [if_pos hl]
        rfl
      · rw [if_neg ho]
    · rw [if_neg hl] at h6
      obtain ⟨p1, p2⟩ := infl_most f h6
      refine ⟨Nat.le_trans k1 p1, fun h => ?_⟩
      rw [run_bind, k2 h]
      unfold Mo
      by_cases ho : o1.length ≤ most'
      · rw [if_pos ho]
        simp only
        rw [if_neg hl]
        exact p2 ho
      · rw [if_neg ho, if_neg (by omega)]
/-- No reading ends for no reason. -/
def NZ {α : Type} (t : Rd α) : Prop := ∀ s a, t.run s a ≠ .no 0
theorem NZ_ret {α : Type} (v : α) : NZ (ret v) := fun _ _ h => by cases h
theorem NZ_err {α : Type} {e : Int} (h : e ≠ 0) : NZ (err e : Rd α) := fun _ _ h2 => by
  injection h2 with h2
  exact h h2
theorem NZ_bind {α β : Type} {t : Rd α} {f : α → Rd β} (h : NZ t) (hf : ∀ v, NZ (f v)) : NZ (t.bind f) := fun s a h2 => by
  rw [run_bind] at h2
  cases ht : t.run s a with
  | no e =>
    rw [ht] at h2
    injection h2 with h2
    subst h2
    exact h s a ht
  | ok x a1 => rw [ht] at h2; exact hf x s a1 h2
theorem NZ_if {α : Type} {c : Prop} [Decidable c] {t u : Rd α} (ht : NZ t) (hu : NZ u) : NZ (if c then t else u) := by
  split
  · exact ht
  · exact hu
theorem NZ_bits : ∀ n, NZ (bitsN n)
  | 0 => NZ_ret 0
  | n + 1 => fun s a h => by
    unfold bitsN run at h
    split at h
    · exact NZ_bind (NZ_bits n) (fun x => NZ_ret _) s (a + 1) h
    · cases h
theorem NZ_align {α : Type} {t : Rd α} (h : NZ t) : NZ (align t) := fun s a h2 => h s ((a + 7) / 8 * 8) h2
theorem symG_nz (lens : List Int) : ∀ d l w, NZ (symG lens d l w)
  | 0, _, _ => NZ_err (by decide)
  | d + 1, l, w => fun s a h => by
    unfold symG run at h
    split at h
    · revert h
      exact NZ_if (NZ_ret _) (NZ_if (symG_nz lens d _ _) (NZ_err (by decide))) s (a + 1)
    · cases h
theorem NZ_sym (lens : List Int) : NZ (symT lens) := symG_nz lens 15 1 0
theorem NZ_bytes : ∀ n, NZ (bytesN n)
  | 0 => NZ_ret _
  | n + 1 => NZ_bind (NZ_bits 8) (fun _ => NZ_bind (NZ_bytes n) (fun _ => NZ_ret _))
theorem NZ_stored (most : Nat) (out : List Int) : NZ (storedT most out) :=
  NZ_align (NZ_bind (NZ_bits 16) (fun _ => NZ_bind (NZ_bits 16) (fun _ => NZ_if (NZ_if (NZ_err (by decide)) (NZ_bind (NZ_bytes _) (fun _ => NZ_ret _))) (NZ_err (by decide)))))
theorem NZ_copies (most : Nat) (out : List Int) (k : Nat) (d : Option (List Int)) : NZ (copiesT most out k d) := by
  unfold copiesT
  refine NZ_if (NZ_err (by decide)) (NZ_bind (NZ_bits _) (fun x => ?_))
  cases d with
  | none => exact NZ_err (by decide)
  | some dl => exact NZ_bind (NZ_sym dl) (fun j => NZ_if (NZ_err (by decide)) (NZ_bind (NZ_bits _) (fun y => NZ_if (NZ_err (by decide)) (NZ_if (NZ_err (by decide)) (NZ_ret _)))))
theorem NZ_packed (most : Nat) (lens : List Int) (d : Option (List Int)) : ∀ f out, NZ (packedT most lens d f out)
  | 0, _ => NZ_err (by decide)
  | f + 1, out => NZ_bind (NZ_sym lens) (fun k => NZ_if (NZ_ret _) (NZ_if (NZ_bind (NZ_copies _ _ _ _) (fun o => NZ_packed most lens d f o)) (NZ_if (NZ_err (by decide)) (NZ_packed most lens d f _))))
theorem NZ_first : ∀ (r : List Nat) (l : List Int), NZ (firstT r l)
  | [], l => NZ_ret l
  | _ :: r, _ => NZ_bind (NZ_bits 3) (fun _ => NZ_first r _)
theorem NZ_lengths (first : List Int) (n : Nat) : ∀ f l, NZ (lengthsT first n f l)
  | 0, l => NZ_if (NZ_err (by decide)) (NZ_ret _)
  | f + 1, l => by
    by_cases h : l.length < n
    · rw [lengthsT_step first n f l h]
      unfold manyT
      exact NZ_bind (NZ_bind (NZ_sym first) (fun k => NZ_if (NZ_if (NZ_err (by decide)) (NZ_bind (NZ_bits 2) (fun _ => NZ_ret _))) (NZ_if (NZ_bind (NZ_bits 3) (fun _ => NZ_ret _)) (NZ_if (NZ_bind (NZ_bits 7) (fun _ => NZ_ret _)) (NZ_ret _))))) (fun v => NZ_if (NZ_lengths first n f _) (NZ_err (by decide)))
    · rw [lengthsT_end first n (f + 1) l h]
      exact NZ_ret l
theorem NZ_dynamic : NZ dynamicT :=
  NZ_bind (NZ_bits 5) (fun _ => NZ_bind (NZ_bits 5) (fun _ => NZ_bind (NZ_bits 4) (fun _ => NZ_if (NZ_bind (NZ_first _ _) (fun _ => NZ_if (NZ_bind (NZ_lengths _ _ _ _) (fun _ => NZ_if (NZ_ret _) (NZ_err (by decide)))) (NZ_err (by decide)))) (NZ_err (by decide)))))
theorem NZ_kind (most F : Nat) (out : List Int) (kd : Nat) : NZ (kindT most F out kd) :=
  NZ_if (NZ_stored most out) (NZ_if (NZ_packed most _ _ F out) (NZ_if (NZ_bind NZ_dynamic (fun z => NZ_packed most z.1 _ F out)) (NZ_err (by decide))))
theorem NZ_infl (most F : Nat) : ∀ f out, NZ (inflT most F f out)
  | 0, _ => NZ_err (by decide)
  | f + 1, out => by
    rw [inflT_kind]
    exact NZ_bind (NZ_bits 1) (fun _ => NZ_bind (NZ_bits 2) (fun _ => NZ_bind (NZ_kind most F out _) (fun o => NZ_if (NZ_ret o) (NZ_infl most F f o))))
/-- A reading that is told whole. -/
theorem infl_open {s : ByteArray} {m : Nat} {A : ByteArray} {n : Int} (hm : m ≤ 1048576) (h : inflR s (m : Int) = (A, n, 0)) : ∃ o a, (inflT m manyF manyF []).run s 0 = .ok o a ∧ A = strOfNums o ∧ n = (((a + 7) / 8 : Nat) : Int) ∧ a ≤ 8 * s.size ∧ 0 < a := by
  unfold inflR infl at h
  rw [if_neg (by omega), Int.toNat_natCast] at h
  cases hr : (inflT m manyF manyF []).run s 0 with
  | ok o a =>
    rw [hr] at h
    simp only [Prod.mk.injEq] at h
    refine ⟨o, a, rfl, h.1.symm, h.2.1.symm, (run_place s _ 0 o a (Nat.zero_le _) hr).2, ?_⟩
    rw [show inflT m manyF manyF [] = inflT m manyF (9999999999999999 + 1) [] from rfl, inflT_kind] at hr
    obtain ⟨lv, a1, h1, h2⟩ := bind_ok hr
    have h3 := h1
    rw [run_bitsN s 1 0 (Nat.zero_le _)] at h3
    split at h3
    · rename_i h8
      injection h3 with _ h3
      have := (run_place s _ a1 o a (by omega) h2).1
      omega
    · cases h3
  | no e =>
    rw [hr] at h
    simp only [Prod.mk.injEq] at h
    obtain ⟨_, h2, h3⟩ := h
    subst h3
    exact absurd hr (NZ_infl m manyF manyF [] s 0)
theorem infl_shut {s : ByteArray} {m : Nat} {o : List Int} {a : Nat} (hm : m ≤ 1048576) (h : (inflT m manyF manyF []).run s 0 = .ok o a) : inflR s (m : Int) = (strOfNums o, (((a + 7) / 8 : Nat) : Int), 0) := by
  unfold inflR infl
  rw [if_neg (by omega), Int.toNat_natCast, h]
theorem infl_shut_no {s : ByteArray} {m : Nat} {e : Int} (hm : m ≤ 1048576) (h : (inflT m manyF manyF []).run s 0 = .no e) : inflR s (m : Int) = (⟨#[]⟩, 0, e) := by
  unfold inflR infl
  rw [if_neg (by omega), Int.toNat_natCast, h]
theorem btI_append (s t : ByteArray) (i : Nat) (h : i < s.size) : bt (s ++ t) (i : Int) = bt s (i : Int) := by
  unfold bt
  rw [Int.toNat_natCast, dif_pos (by rw [ByteArray.size_append]; omega), dif_pos h]
  rw [ByteArray.getElem_append_left h]
theorem btI_extract (s : ByteArray) (e i : Nat) (he : e ≤ s.size) (hi : i < e) : bt (s.extract 0 e) (i : Int) = bt s (i : Int) := by
  unfold bt
  rw [Int.toNat_natCast, dif_pos (by rw [ByteArray.size_extract]; omega), dif_pos (by omega)]
  rw [ByteArray.getElem_extract]
  simp
theorem sbit_cut (s : ByteArray) (e i : Nat) (he : e ≤ s.size) (hi : i < 8 * e) : sbit (s.extract 0 e) i = sbit s i := by
  unfold sbit
  rw [btI_extract s e (i / 8) he (by omega)]
theorem sbit_tail (s t : ByteArray) (i : Nat) (hi : i < 8 * s.size) : sbit (s ++ t) i = sbit s i := by
  unfold sbit
  rw [btI_append s t (i / 8) (by omega)]
theorem tail_law {s : ByteArray} {A : ByteArray} {n : Int} (h : inflR s 1048576 = (A, n, 0)) : ∃ N : Nat, n = (N : Int) ∧ N ≤ s.size ∧ ∀ t, inflR (s.extract 0 N ++ t) 1048576 = (A, n, 0) := by
  obtain ⟨o, a, hr, rfl, rfl, ha, _⟩ := infl_open (m := 1048576) (Nat.le_refl _) h
  refine ⟨(a + 7) / 8, rfl, by omega, fun t => ?_⟩
  have hN : (a + 7) / 8 ≤ s.size := by omega
  have hsz : (s.extract 0 ((a + 7) / 8)).size = (a + 7) / 8 := by rw [ByteArray.size_extract]; omega
  refine infl_shut (m := 1048576) (Nat.le_refl _) (run_same s _ _ 0 o a (Nat.zero_le _) hr (fun i hi => ?_) (by rw [ByteArray.size_append, hsz]; omega))
  rw [sbit_tail _ _ _ (by rw [hsz]; omega), sbit_cut s _ i hN (by omega)]
theorem cut_law {s : ByteArray} {A : ByteArray} {n : Int} (h : inflR s 1048576 = (A, n, 0)) : ∃ N : Nat, n = (N : Int) ∧ 1 ≤ N ∧ N ≤ s.size ∧ ∀ k, k < N → inflR (s.extract 0 k) 1048576 = (⟨#[]⟩, 0, 5) := by
  obtain ⟨o, a, hr, rfl, rfl, ha, h0⟩ := infl_open (m := 1048576) (Nat.le_refl _) h
  refine ⟨(a + 7) / 8, rfl, by omega, by omega, fun k hk => ?_⟩
  have hsz : (s.extract 0 k).size = k := by rw [ByteArray.size_extract]; omega
  refine infl_shut_no (m := 1048576) (Nat.le_refl _) (run_cut s _ (fun i hi => ?_) _ 0 o a (Nat.zero_le _) hr (by rw [hsz]; omega))
  rw [hsz] at hi
  exact sbit_cut s k i (by omega) hi
theorem most_law {s : ByteArray} {A : ByteArray} {n : Int} (h : inflR s 1048576 = (A, n, 0)) : (A.size ≤ 1048576 ∧ inflR s (A.size : Int) = (A, n, 0)) ∧ ∀ k : Nat, k < A.size → inflR s (k : Int) = (⟨#[]⟩, 0, 4) := by
  obtain ⟨o, a, hr, rfl, rfl, ha, _⟩ := infl_open (m := 1048576) (Nat.le_refl _) h
  rw [strOfNums_size]
  have hmo : o.length ≤ 1048576 := by
    by_cases hm : o.length ≤ 1048576
    · exact hm
    · have h2 := (infl_most (most' := 1048576) manyF hr).2 (Nat.zero_le _)
      unfold Mo at h2
      rw [hr, if_neg hm] at h2
      cases h2
  refine ⟨⟨hmo, ?_⟩, fun k hk => ?_⟩
  · refine infl_shut hmo ?_
    rw [(infl_most manyF hr).2 (Nat.zero_le _)]
    exact if_pos (Nat.le_refl _)
  · refine infl_shut_no (by omega) ?_
    rw [(infl_most manyF hr).2 (Nat.zero_le _)]
    exact if_neg (by omega)
/-- Why there are none. -/
theorem infl_e (s : ByteArray) : (inflR s 1048576).2.2 = 0 ∨ (inflR s 1048576).2.2 ≠ 0 := by
  by_cases h : (inflR s 1048576).2.2 = 0
  · exact Or.inl h
  · exact Or.inr h
end Go.Proofs.Yteffjbjhkaobfaa.IW
