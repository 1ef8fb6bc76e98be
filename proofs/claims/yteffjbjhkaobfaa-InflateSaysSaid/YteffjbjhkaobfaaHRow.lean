/- Arguments of a law, read as lists and structures: for the rows. -/
import Derived.Test.YteffjbjhkaobfaaRows
import Derived.Test.YteffjbjhkaobfaaWMore
import Derived.ProofKit
import Derived.OpenShut
import Derived.Deep.Slices
import Derived.Carry
namespace Go.Proofs.Yteffjbjhkaobfaa.HR
open Go.RowKit Go.Deep Go.Proofs.YteffjbjhkaobfaaW.PrintWords Go.Proofs.YteffjbjhkaobfaaW.PrintMore

/-- How values of a type read: d: their cells; wt: at most their bulk. -/
structure Sh (P : Program) (α : Type) where
  d : Kd α
  t : TypeId
  ok : α → Prop
  wt : α → Nat
  sz : P.cellsOf t = d.sz
  op : ∀ {H : Type} {enc : TypeId × Value → H} {w : World} {base : Nat} {spare : Nat → Bool} {held : Bool} {fuel : Nat} {cs : List Value} {x : DataW H × List MemPlace},
    DataW.trod enc P w base spare held fuel t cs = some x → ∃ a, d.K w a cs ∧ ok a ∧ wt a ≤ Rows.uptoBulk x.1
namespace Sh
variable {P : Program}
def int (k : IntKind) (t : TypeId) (h : P.underlying t = some (.int k)) (hs : P.cellsOf t = 1) : Sh P Int where
  d := Kd.int k
  t := t
  ok n := (Lit.int k n).wf = true
  wt _ := 1
  sz := hs
  op := fun hx => by
    obtain ⟨n, rfl, rfl, hw⟩ := DataW.trod_int h hx
    exact ⟨n, rfl, hw, Nat.le_refl _⟩
def bool (t : TypeId) (h : P.underlying t = some .bool) (hs : P.cellsOf t = 1) : Sh P Bool where
  d := Kd.bool
  t := t
  ok _ := True
  wt _ := 1
  sz := hs
  op := fun hx => by
    obtain ⟨n, rfl, rfl⟩ := DataW.trod_bool h hx
    exact ⟨n, rfl, trivial, Nat.le_refl _⟩
def string (t : TypeId) (h : P.underlying t = some .string) (hs : P.cellsOf t = 1) : Sh P ByteArray where
  d := Kd.string
  t := t
  ok s := s.size ≤ 9223372036854775807
  wt s := s.size + 1
  sz := hs
  op := fun hx => by
    obtain ⟨s, rfl, rfl, hs⟩ := DataW.trod_string h hx
    refine ⟨s, rfl, hs, ?_⟩
    show _ ≤ s.data.toList.length + 1
    rw [data_length]
    exact Nat.le_refl _
def wts {α : Type} (f : α → Nat) (l : List α) : Nat := (l.map f).sum
theorem wts_nil {α : Type} (f : α → Nat) : wts f [] = 0 := rfl
theorem wts_cons {α : Type} (f : α → Nat) (a : α) (l : List α) : wts f (a :: l) = f a + wts f l := by simp [wts]
theorem wts_append {α : Type} (f : α → Nat) (l m : List α) : wts f (l ++ m) = wts f l + wts f m := by simp [wts]
theorem wts_mem {α : Type} (f : α → Nat) {l : List α} {a : α} (h : a ∈ l) : f a ≤ wts f l := by
  induction l with
  | nil => cases h
  | cons b l ih =>
    rw [wts_cons]
    rcases List.mem_cons.1 h with rfl | h
    · omega
    · have := ih h; omega
theorem bulk_map {H : Type} (D : Nat → DataW H) : ∀ n, Rows.uptoBulkAll ((List.range n).map D) = wts (fun i => Rows.uptoBulk (D i)) (List.range n) := by
  have go : ∀ l : List Nat, Rows.uptoBulkAll (l.map D) = wts (fun i => Rows.uptoBulk (D i)) l := by
    intro l
    induction l with
    | nil => rfl
    | cons a l ih =>
      rw [List.map_cons, wts_cons, ← ih]
      rfl
  exact fun n => go _
theorem pick {α : Type} (R : Nat → α → Prop) : ∀ n, (∀ i, i < n → ∃ a, R i a) → ∃ l : List α, l.length = n ∧ ∀ i a, l[i]? = some a → R i a
  | 0, _ => ⟨[], rfl, fun i a h => by simp at h⟩
  | n + 1, h => by
    obtain ⟨l, hl, hr⟩ := pick R n (fun i hi => h i (by omega))
    obtain ⟨a, ha⟩ := h n (by omega)
    refine ⟨l ++ [a], by simp [hl], fun i b hb => ?_⟩
    rw [List.getElem?_append] at hb
    split at hb
    · exact hr i b hb
    · have hi : i - l.length = 0 := by
        rcases Nat.eq_zero_or_pos (i - l.length) with h0 | h0
        · exact h0
        · rw [List.getElem?_eq_none (by simp; omega)] at hb; cases hb
      rw [hi] at hb
      simp at hb
      subst hb
      rw [show i = n from by omega]
      exact ha
theorem wts_le {α : Type} (f : α → Nat) (g : Nat → Nat) : ∀ (l : List α), (∀ i a, l[i]? = some a → f a ≤ g i) → wts f l ≤ wts g (List.range l.length) := by
  intro l
  have go : ∀ (l : List α) (m : Nat), (∀ i a, l[i]? = some a → f a ≤ g (m + i)) → wts f l ≤ wts g (List.range' m l.length) := by
    intro l
    induction l with
    | nil => intro m _; exact Nat.le_refl _
    | cons a l ih =>
      intro m h
      rw [wts_cons, List.length_cons, List.range'_succ, wts_cons]
      have h0 := h 0 a rfl
      have h1 := ih (m + 1) (fun i b hb => by rw [show m + 1 + i = m + (i + 1) from by omega]; exact h (i + 1) b (by simpa using hb))
      rw [Nat.add_zero] at h0
      omega
  intro h
  rw [List.range_eq_range']
  exact go l 0 (fun i a ha => by rw [Nat.zero_add]; exact h i a ha)
/-- A slice. -/
def slice {α : Type} (s : Sh P α) (t : TypeId) (h : P.underlying t = some (.slice s.t)) (hs : P.cellsOf t = 1) : Sh P (List α) where
  d := Kd.slice s.t s.d
  t := t
  ok l := (∀ a ∈ l, s.ok a) ∧ l.length ≤ 9223372036854775807
  wt l := wts s.wt l + 1
  sz := hs
  op := fun {H enc w base spare held fuel cs x} hx => by
    rcases open_slice h hx with ⟨rfl, rfl⟩ | ⟨a, len, cap, m, n, D, Pl, rfl, hb, hl, hm, hmm, rfl, hi⟩
    · exact ⟨[], ⟨none, 0, rfl, Nat.le_refl _, Kd.C_nil s.d w⟩, ⟨(fun a h => nomatch h), (by simp)⟩, Nat.le_refl _⟩
    · have hlm : len ≤ m := by rw [hmm]; split <;> omega
      have hm' : cap ≤ 9223372036854775807 := hm
      obtain ⟨l, hll, hr⟩ := pick (fun i y => ∃ cs', w.cells? base (a.add (i * P.cellsOf s.t)) (P.cellsOf s.t) = some cs' ∧ s.d.K w y cs' ∧ s.ok y ∧ s.wt y ≤ Rows.uptoBulk (D i)) len (fun i hlt => by
        obtain ⟨cs', h1, h2⟩ := hi i (by omega)
        obtain ⟨y, h3, h4, h5⟩ := s.op h2
        exact ⟨y, cs', h1, h3, h4, h5⟩)
      subst hll
      refine ⟨l, ⟨some a, cap, rfl, hl, rfl, by omega, fun _ => ⟨a, rfl, fun j p hj => ?_⟩⟩, ⟨fun y hy => ?_, by omega⟩, ?_⟩
      · obtain ⟨cs', h1, h2, _, _⟩ := hr j p hj
        obtain ⟨_, hcl, hcell⟩ := World.cells?_some h1
        rw [s.sz] at hcl hcell
        refine ⟨cs', hcl, h2, fun i u hu => ?_⟩
        have hil : i < cs'.length := (List.getElem?_eq_some_iff.1 hu).1
        rw [← Go.Deep.add_add, ← s.sz] at *
        rw [hcell i (by omega)]
        exact hu
      · obtain ⟨i, hil⟩ := List.mem_iff_getElem?.1 hy
        obtain ⟨_, _, _, h3, _⟩ := hr i y hil
        exact h3
      · show _ ≤ Rows.uptoBulkAll _ + Rows.uptoBulkAll _ + 1
        rw [bulk_map D l.length]
        have := wts_le s.wt (fun i => Rows.uptoBulk (D i)) l (fun i y hy => by
          obtain ⟨_, _, _, _, h4⟩ := hr i y hy
          exact h4)
        omega
end Sh
/-- Fields in line, from a place on. -/
structure Fl (P : Program) (β : Type) where
  fs : List Field
  off : Nat
  d : Kd β
  ok : β → Prop
  wt : β → Nat
  op : ∀ {H : Type} {enc : TypeId × Value → H} {w : World} {base : Nat} {spare : Nat → Bool} {held : Bool} {n : Nat} (cs : List Value) (ys : List (DataW H × List MemPlace)),
    ys.length = fs.length → (∀ (j : Nat) (f : Field), fs[j]? = some f → DataW.trod enc P w base spare held n f.type ((cs.drop (f.offset - off)).take (P.cellsOf f.type)) = ys[j]?) → cs.length = d.sz →
    ∃ b, d.K w b cs ∧ ok b ∧ wt b ≤ Rows.uptoBulkAll (ys.map (·.1))
def Fl.one {P : Program} {α : Type} (s : Sh P α) (f : Field) (h : f.type = s.t) : Fl P α where
  fs := [f]
  off := f.offset
  d := s.d
  ok := s.ok
  wt := s.wt
  op := fun cs ys hl hr hc => by
    match ys, hl with
    | [y], _ =>
      have h0 := hr 0 f rfl
      rw [Nat.sub_self, List.drop_zero, h, s.sz, ← hc, List.take_length] at h0
      obtain ⟨a, h1, h2, h3⟩ := s.op h0
      exact ⟨a, h1, h2, h3⟩
def Fl.cons {P : Program} {α β : Type} (s : Sh P α) (f : Field) (h : f.type = s.t) (r : Fl P β) (ho : r.off = f.offset + s.d.sz) (hg : r.fs.all (fun (g : Field) => decide (r.off ≤ g.offset)) = true) : Fl P (α × β) where
  fs := f :: r.fs
  off := f.offset
  d := Kd.pair s.d r.d
  ok x := s.ok x.1 ∧ r.ok x.2
  wt x := s.wt x.1 + r.wt x.2
  op := fun cs ys hl hr hc => by
    match ys, hl with
    | y :: ys, hl =>
      have h0 := hr 0 f rfl
      rw [Nat.sub_self, List.drop_zero, h, s.sz] at h0
      obtain ⟨a, h1, h2, h3⟩ := s.op h0
      have hc' : cs.length = s.d.sz + r.d.sz := hc
      obtain ⟨b, k1, k2, k3⟩ := r.op (cs.drop s.d.sz) ys (by simpa using hl) (fun j g hj => by
        have h4 := hr (j + 1) g (by simpa using hj)
        have h5 : r.off ≤ g.offset := of_decide_eq_true (List.all_eq_true.1 hg g (List.mem_of_getElem? hj))
        rw [List.drop_drop, show s.d.sz + (g.offset - r.off) = g.offset - f.offset from by omega]
        simpa using h4) (by rw [List.length_drop]; omega)
      refine ⟨(a, b), ⟨cs.take s.d.sz, cs.drop s.d.sz, (List.take_append_drop _ _).symm, h1, k1⟩, ⟨h2, k2⟩, ?_⟩
      show s.wt a + r.wt b ≤ Rows.uptoBulk y.1 + Rows.uptoBulkAll (ys.map (·.1))
      exact Nat.add_le_add h3 k3
/-- A structure. -/
def Sh.struct {P : Program} {α β : Type} (r : Fl P β) (to_ : α → β) (of_ : β → α) (hto : ∀ b, to_ (of_ b) = b) (t : TypeId) (hs : P.underlying t = some (.struct r.fs.toArray)) (h0 : r.off = 0) (hsz : P.cellsOf t = r.d.sz) : Sh P α where
  d := Kd.iso r.d to_
  t := t
  ok a := r.ok (to_ a)
  wt a := r.wt (to_ a) + 1
  sz := hsz
  op := fun hx => by
    obtain ⟨ys, n, rfl, rfl, hlen, hyl, hf⟩ := DataW.trod_struct hs hx
    obtain ⟨b, h1, h2, h3⟩ := r.op _ ys (by simpa using hyl) (fun j f hj => by
      have := hf j f (by simpa using hj)
      rwa [h0, Nat.sub_zero]) (hlen.trans hsz)
    refine ⟨of_ b, ?_, by rw [hto]; exact h2, ?_⟩
    · show r.d.K _ (to_ (of_ b)) _
      rw [hto]
      exact h1
    · show r.wt (to_ (of_ b)) + 1 ≤ Rows.uptoBulkAll _ + 1
      rw [hto]
      omega
/-- An argument, opened. -/
theorem Sh.arg {P : Program} {α : Type} (s : Sh P α) {H : Type} {enc : TypeId × Value → H} {w : World} {base : Nat} {spare : Nat → Bool} {held : Bool} {v : Value} {D : DataW H} {p : List MemPlace} (h : DataW.Trod enc P w base spare held s.t v D p) :
    ∃ a, s.d.K w a v.cells.toList ∧ s.ok a ∧ s.wt a ≤ Rows.uptoBulk D := by
  obtain ⟨fuel, hf⟩ := h
  exact s.op hf
end Go.Proofs.Yteffjbjhkaobfaa.HR
