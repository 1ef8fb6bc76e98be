/- SessionOnce in plain Lean: what holds from round to round. -/
import Derived.Test.YtllgaikgpfionaaHDone
import Derived.Test.YtllgaikgpfionaaHPut
namespace Go.Proofs.Ytllgaikgpfionaa.SM
open Go.RowKit
/-- What was told of a batch is what stands. -/
def told1 (T : Tb) (a : Ack) : Prop := ∃ b, look T.l (a.prod, a.seq) = some b ∧ a.base = b.base ∧ a.count = b.count ∧ a.err = 0
structure OI (T : Tb) (at_ : Int) (told : List Ack) (i : Nat) : Prop where
  q : T.q = 64
  e : T.e = at_
  lo : 0 ≤ at_
  hi : at_ ≤ 8 * (i : Int)
  ok : ∀ p ∈ T.l, headOk p.2
  le : ∀ p ∈ T.l, p.2.base + p.2.count ≤ at_
  wt : ∀ x ∈ T.ws, (look T.l (x.prod, x.seq)).isSome = true
  td : ∀ a ∈ told, told1 T a
  ln : told.length + T.ws.length ≤ i
theorem OI.start : OI ⟨64, [], 0, []⟩ 0 [] 0 := ⟨rfl, rfl, by decide, by decide, by simp, by simp, by simp, by simp, by simp⟩
theorem look_grow {l : List ((Int × Int) × Bat)} {k j : Int × Int} {b c : Bat} (h : look l j = some c) : look (l ++ [(k, b)]) j = some c := by rw [look_app, h]; rfl
/-- A new batch is put. -/
theorem OI.put {T : Tb} {at_ : Int} {told : List Ack} {i : Nat} (h : OI T at_ told i) (hi : i < 100) {n p s : Int} (hn : 1 ≤ n ∧ n ≤ 8) (hp : 0 ≤ p ∧ p ≤ 3) (hs : 0 ≤ s ∧ s ≤ 7) :
    headOk ⟨at_, n, 0, p, s⟩ ∧ OI { T with l := T.l ++ [((p, s), ⟨at_, n, 0, p, s⟩)], e := at_ + n } (at_ + n) told (i + 1) ∧ (look (T.l ++ [((p, s), (⟨at_, n, 0, p, s⟩ : Bat))]) (p, s)).isSome = true := by
  have h1 := h.lo
  have h2 := h.hi
  have hk : headOk ⟨at_, n, 0, p, s⟩ := by unfold headOk; simp only; omega
  refine ⟨hk, ⟨h.q, rfl, by omega, by omega, ?_, ?_, ?_, ?_, by have := h.ln; show told.length + T.ws.length ≤ _; omega⟩, ?_⟩
  · intro x hx
    rcases List.mem_append.1 hx with hx | hx
    · exact h.ok x hx
    · rw [List.mem_singleton.1 hx]; exact hk
  · intro x hx
    rcases List.mem_append.1 hx with hx | hx
    · have := h.le x hx; omega
    · rw [List.mem_singleton.1 hx]; exact Int.le_refl _
  · intro x hx
    obtain ⟨c, hc⟩ := Option.isSome_iff_exists.1 (h.wt x hx)
    show (look (T.l ++ _) _).isSome = true
    rw [look_grow hc]; rfl
  · intro a ha
    obtain ⟨c, hc, r⟩ := h.td a ha
    exact ⟨c, look_grow hc, r⟩
  · rw [look_app]
    cases look T.l (p, s) with
    | some x => rfl
    | none => simp
theorem OI.up {T : Tb} {at_ : Int} {told : List Ack} {i j : Nat} (h : OI T at_ told i) (hij : i ≤ j) : OI T at_ told j :=
  ⟨h.q, h.e, h.lo, by have := h.hi; omega, h.ok, h.le, h.wt, h.td, by have := h.ln; omega⟩
/-- Somebody waits. -/
theorem OI.wait {T T' : Tb} {at_ : Int} {told : List Ack} {i : Nat} (h : OI T at_ told (i + 1)) (hl : told.length + T.ws.length ≤ i) {k : Int × Int} {who r : Int} (hr : waitR T k who = (T', r)) : OI T' at_ told (i + 1) ∧ T'.l = T.l := by
  unfold waitR at hr
  cases hk : look T.l k with
  | none =>
    rw [hk] at hr
    obtain ⟨rfl, rfl⟩ := Prod.mk.inj hr
    exact ⟨h, rfl⟩
  | some b =>
    rw [hk] at hr
    simp only at hr
    split at hr
    · obtain ⟨rfl, rfl⟩ := Prod.mk.inj hr
      exact ⟨h, rfl⟩
    · split at hr
      · obtain ⟨rfl, rfl⟩ := Prod.mk.inj hr
        exact ⟨h, rfl⟩
      · obtain ⟨rfl, rfl⟩ := Prod.mk.inj hr
        refine ⟨⟨h.q, h.e, h.lo, h.hi, h.ok, h.le, ?_, h.td, by show told.length + (T.ws ++ _).length ≤ _; rw [List.length_append, List.length_singleton]; omega⟩, rfl⟩
        intro x hx
        rcases List.mem_append.1 hx with hx | hx
        · exact h.wt x hx
        · rw [List.mem_singleton.1 hx]
          show (look T.l k).isSome = true
          rw [hk]; rfl
/-- Some are told. -/
theorem OI.done {T : Tb} {at_ : Int} {told : List Ack} {i : Nat} (h : OI T at_ told i) (cm : Int) : OI { T with ws := T.ws.filter (fun x => !dn T cm x) } at_ (told ++ (T.ws.filter (dn T cm)).map (ackOf T)) i := by
  refine ⟨h.q, h.e, h.lo, h.hi, h.ok, h.le, fun x hx => h.wt x (List.mem_filter.1 hx).1, ?_, ?_⟩
  · intro a ha
    rcases List.mem_append.1 ha with ha | ha
    · exact h.td a ha
    · obtain ⟨x, hx, rfl⟩ := List.mem_map.1 ha
      obtain ⟨b, hb⟩ := Option.isSome_iff_exists.1 (h.wt x (List.mem_filter.1 hx).1)
      refine ⟨b, hb, ?_⟩
      show (bat T x).base = b.base ∧ (bat T x).count = b.count ∧ (0 : Int) = 0
      unfold bat
      rw [hb]
      exact ⟨rfl, rfl, rfl⟩
  · have h1 : ∀ l : List Wt, (l.filter (dn T cm)).length + (l.filter (fun x => !dn T cm x)).length = l.length := by
      intro l
      induction l with
      | nil => rfl
      | cons x t ih =>
        by_cases hx : dn T cm x = true
        · rw [List.filter_cons_of_pos hx, List.filter_cons_of_neg (by simp [hx])]; simp only [List.length_cons]; omega
        · rw [List.filter_cons_of_neg hx, List.filter_cons_of_pos (by simp [hx])]; simp only [List.length_cons]; omega
    have h2 := h1 T.ws
    have h3 := h.ln
    rw [List.length_append, List.length_map]
    show told.length + (T.ws.filter (dn T cm)).length + (T.ws.filter (fun x => !dn T cm x)).length ≤ i
    omega
/-- In the end all are told. -/
theorem OI.all {T : Tb} {at_ : Int} {told : List Ack} {i : Nat} (h : OI T at_ told i) : T.ws.filter (fun x => !dn T at_ x) = [] := by
  refine List.filter_eq_nil_iff.2 (fun x hx => ?_)
  obtain ⟨b, hb⟩ := Option.isSome_iff_exists.1 (h.wt x hx)
  have h1 := h.le _ (look_mem _ _ _ hb)
  simp only at h1
  unfold dn bat
  rw [hb]
  simp [h1]
end Go.Proofs.Ytllgaikgpfionaa.SM
