/- Frames: what a call may have turned; a writer's block. -/
import Derived.Test.YtmmoenleldcadaaFnx0
import Derived.Test.YtmmoenleldcadaaMBits
import Derived.Lib.AppendStr
namespace Go.Proofs.Ytmmoenleldcadaa.HW
open Go.RowKit Go.Proofs.YtmmoenleldcadaaW.PrintWords Go.Proofs.YtmmoenleldcadaaW.PrintLast Go.Proofs.YtmmoenleldcadaaW.PrintMore Go.Proofs.Ytmmoenleldcadaa.MB

/-- From w to w' only blocks of S were written; more may have been made. -/
structure Fr (S : Nat → Prop) (w w' : World) : Prop where
  os : w'.os = w.os
  tape : w'.tape = w.tape
  output : w'.output = w.output
  size : w.heap.size ≤ w'.heap.size
  block : ∀ k, k < w.heap.size → ¬ S k → w'.heap[k]? = w.heap[k]?
section
variable {S S' : Nat → Prop} {w w1 w2 : World}
theorem Fr.refl (S : Nat → Prop) (w : World) : Fr S w w := ⟨rfl, rfl, rfl, Nat.le_refl _, fun _ _ _ => rfl⟩
theorem Fr.mono (h : Fr S w w1) (hs : ∀ k, k < w.heap.size → S k → S' k) : Fr S' w w1 := ⟨h.os, h.tape, h.output, h.size, fun k hk hn => h.block k hk (fun hk' => hn (hs k hk hk'))⟩
theorem Fr.then_ (h : Fr S w w1) (k : Fr S' w1 w2) (hs : ∀ k, S' k → S k ∨ w.heap.size ≤ k) : Fr S w w2 :=
  ⟨k.os.trans h.os, k.tape.trans h.tape, k.output.trans h.output, Nat.le_trans h.size k.size, fun i hi hn =>
    (k.block i (Nat.lt_of_lt_of_le hi h.size) (fun h2 => (hs i h2).elim hn (fun h3 => by omega))).trans (h.block i hi hn)⟩
theorem Fr.of_below {B : Nat} (h : Below B w w1) : Fr (fun k => B ≤ k) w w1 := ⟨h.os, h.tape, h.output, h.size, fun k hk hn => h.block k (by omega)⟩
theorem Fr.of_below_all (h : Below w.heap.size w w1) (S : Nat → Prop) : Fr S w w1 := ⟨h.os, h.tape, h.output, h.size, fun k hk _ => h.block k hk⟩
theorem Fr.below {B : Nat} (h : Fr S w w1) (hB : B ≤ w.heap.size) (hs : ∀ k, S k → B ≤ k) : Below B w w1 := ⟨h.os, h.tape, h.output, h.size, fun k hk => h.block k (by omega) (fun h2 => by have := hs k h2; omega)⟩
theorem Fr.grown {row : Option Nat} (hg : w1.grownBy w2 row) (h : Fr S w w1) (hr : ∀ k, row = some k → S k ∨ w.heap.size ≤ k) : Fr S w w2 :=
  h.then_ (S' := fun k => row = some k) ⟨hg.os, hg.tape, hg.output, hg.size, fun i hi hn => hg.block i hi (fun he => hn he.symm)⟩ hr
theorem Fr.add (h : Fr S w w1) (k : Below w1.heap.size w1 w2) : Fr S w w2 := h.then_ (Fr.of_below_all k (fun _ => False)) (fun _ hk => hk.elim)
theorem Fr.alloc (h : Fr S w w1) (o : Obj) : Fr S w (w1.alloc o) := h.add (below_alloc (Below.refl _ _) o)
theorem Fr.drew (h : Fr S w w1) : Fr S w w1.drew := ⟨h.os, h.tape, h.output, h.size, h.block⟩
theorem Fr.drewN (h : Fr S w w1) (m : Nat) : Fr S w (w1.drewN m) := ⟨h.os, h.tape, h.output, h.size, h.block⟩
theorem Fr.setCell (h : Fr S w w1) {p : Addr} (hp : S p.block ∨ w.heap.size ≤ p.block) (u : Value) : Fr S w (w1.setCell p u) :=
  h.then_ (S' := fun k => k = p.block) ⟨rfl, rfl, rfl, by simp [World.setCell], fun i _ hn => Below.heap_setCell w1 p u i hn⟩ (fun k hk => by rw [hk]; exact hp)
theorem Fr.blk {g : Nat} {o : Obj} (h : Fr S w w1) (hb : w.heap[g]? = some o) (hn : ¬ S g) : w1.heap[g]? = some o := (h.block g (blk_lt hb) hn).trans hb
theorem Fr.own {base : Nat} {e : TypeId} {size n : Nat} {v : Value} {xs : List Value} (h : Fr S w w1) (ho : w.ownsRow base e size v n xs) (hn : ∀ k, v.ownBlock = some k → ¬ S k) : w1.ownsRow base e size v n xs :=
  own_move ho (fun k hk => h.block k (own_lt ho k hk) (hn k hk))
end

/-- The value's row is the old one's, or a new one. -/
def AtB (w : World) (v v' : Value) : Prop := v'.ownBlock = v.ownBlock ∨ ∃ b, v'.ownBlock = some b ∧ w.heap.size ≤ b
theorem AtB.refl (w : World) (v : Value) : AtB w v v := .inl rfl
theorem AtB.trans {w w1 : World} {v v1 v2 : Value} (h : AtB w v v1) (h2 : AtB w1 v1 v2) (hs : w.heap.size ≤ w1.heap.size) : AtB w v v2 := by
  rcases h2 with e | ⟨b, e, hb⟩
  · rcases h with e' | ⟨b, e', hb⟩
    · exact .inl (e.trans e')
    · exact .inr ⟨b, e.trans e', hb⟩
  · exact .inr ⟨b, e, by omega⟩

/-- Block g: a writer, its row's value, how many bits. -/
def WBlk (W : World) (g : Nat) (is : Bool) (v : Value) (n : Int) : Prop := W.heap[g]? = some (.cells #[.bool is, v, .int .i64 n] 81 (0, 0))
theorem WBlk.c0 {W : World} {g : Nat} {is : Bool} {v : Value} {n : Int} (h : WBlk W g is v n) : W.cell? ⟨g, 0, none⟩ = some (.bool is) := (blk_cell h 0).trans rfl
theorem WBlk.c1 {W : World} {g : Nat} {is : Bool} {v : Value} {n : Int} (h : WBlk W g is v n) : W.cell? ⟨g, 1, none⟩ = some v := (blk_cell h 1).trans rfl
theorem WBlk.c2 {W : World} {g : Nat} {is : Bool} {v : Value} {n : Int} (h : WBlk W g is v n) : W.cell? ⟨g, 2, none⟩ = some (.int .i64 n) := (blk_cell h 2).trans rfl
theorem WBlk.fz {W : World} {g : Nat} {is : Bool} {v : Value} {n : Int} (h : WBlk W g is v n) (i : Nat) : W.frozen? ⟨g, i, none⟩ = false := blk_frozen h i
theorem WBlk.set1 {W : World} {g : Nat} {is : Bool} {v : Value} {n : Int} (h : WBlk W g is v n) (u : Value) : WBlk (W.setCell ⟨g, 1, none⟩ u) g is u n := by
  unfold WBlk at h ⊢
  simpa using blk_set h 1 u
theorem WBlk.set2 {W : World} {g : Nat} {is : Bool} {v : Value} {n : Int} (h : WBlk W g is v n) (m : Int) : WBlk (W.setCell ⟨g, 2, none⟩ (.int .i64 m)) g is v m := by
  unfold WBlk at h ⊢
  simpa using blk_set h 2 (.int .i64 m)
theorem WBlk.far {W : World} {g : Nat} {is : Bool} {v : Value} {n : Int} (h : WBlk W g is v n) {p : Addr} (hp : g ≠ p.block) (u : Value) : WBlk (W.setCell p u) g is v n := blk_far h hp u
/-- A writer that holds the bits l. -/
def IsW (W : World) (B g : Nat) (v : Value) (l : List Bool) : Prop :=
  WBlk W g true v l.length ∧ B ≤ g ∧ ∃ bs : List Int, W.ownsRow B 5 1 v bs.length (nums .u8 bs) ∧ Packs bs l
theorem IsW.lt {W : World} {B g : Nat} {v : Value} {l : List Bool} (h : IsW W B g v l) : g < W.heap.size := blk_lt h.1
theorem IsW.row_lt {W : World} {B g : Nat} {v : Value} {l : List Bool} (h : IsW W B g v l) (k : Nat) (hk : v.ownBlock = some k) : B ≤ k ∧ k < W.heap.size := by
  obtain ⟨_, _, bs, ho, _⟩ := h
  exact ⟨own_base ho k hk, own_lt ho k hk⟩
theorem IsW.row_ne {W : World} {B g : Nat} {v : Value} {l : List Bool} (h : IsW W B g v l) : v.ownBlock ≠ some g := by
  obtain ⟨hb, _, bs, ho, _⟩ := h
  exact fun he => own_ne ho hb (by decide) he.symm
theorem IsW.keep {W W1 : World} {S : Nat → Prop} {B g : Nat} {v : Value} {l : List Bool} (h : IsW W B g v l) (hf : Fr S W W1) (hg : ¬ S g) (hr : ∀ k, v.ownBlock = some k → ¬ S k) : IsW W1 B g v l := by
  obtain ⟨hb, h1, bs, ho, hp⟩ := h
  exact ⟨hf.blk hb hg, h1, bs, hf.own ho hr, hp⟩
theorem IsW.below {W W1 : World} {B g : Nat} {v : Value} {l : List Bool} (h : IsW W B g v l) (hf : Below W.heap.size W W1) : IsW W1 B g v l :=
  h.keep (Fr.of_below_all hf (fun _ => False)) (fun h => h) (fun _ _ h => h)
/-- What a writer's call may write. -/
def WS (g : Nat) (v : Value) (k : Nat) : Prop := k = g ∨ v.ownBlock = some k

section
variable {P : Program} {w : World}
/-- append(v, s...), s a string: and where the row lies then. -/
theorem run_append_string_at (base : Nat) (t u ty e : TypeId) (i : TypeInfo) (ht : P.underlying t = some (.slice e)) (hu : P.underlying u = some .string) (hi : P.info? e = some i) (hz : i.zero = some (.int .u8 0))
    (hsize : i.size = 1) (hby : i.bytes = 1) (v : Value) (n : Nat) (xs : List Value) (hown : w.ownsRow base e 1 v n xs) (s : ByteArray)
    (h63 : n + s.size ≤ maxLen) (hbytes : n + s.size ≤ 140737488355328) (hbase : base ≤ w.heap.size) :
    ∃ v' w', (Builtin.append_ #[t, u] ty #[v, .string s]).run P w = .ok v' w' ∧ w'.ownsRow base e 1 v' (n + s.size) (xs ++ Lib.strCells s) ∧ w.grownBy w' v.ownBlock ∧ AtB w v v' := by
  rcases hown.2 with ⟨rfl, rfl⟩ | ⟨g, cap, cur, rfl, hbg, hg, hnc, hcm, hcs, htake⟩
  · have hx : xs = [] := List.eq_nil_of_length_eq_zero (by simpa using hown.1)
    subst hx
    obtain ⟨v', w', hr, h2, h3, _⟩ := Lib.run_append_own_string (P := P) w w.heap.size t u ty e i ht hu hi hz hsize hby (.slice none 0 0) 0 [] (own_nil _ _ _ _) s h63 hbytes (Nat.le_refl _)
    refine ⟨v', w', hr, ?_, h3, ?_⟩
    · obtain ⟨a1, a2⟩ := h2
      refine ⟨a1, ?_⟩
      rcases a2 with a2 | ⟨g, cap, cur, e1, e2, r⟩
      · exact .inl a2
      · exact .inr ⟨g, cap, cur, e1, by omega, r⟩
    · cases hb : v'.ownBlock with
      | none => exact .inl (by rw [hb]; rfl)
      | some b => exact .inr ⟨b, hb, own_base h2 b hb⟩
  · obtain ⟨v', w', hr, h2, h3, _⟩ := Lib.run_append_own_string (P := P) w base t u ty e i ht hu hi hz hsize hby _ n xs hown s h63 hbytes hbase
    refine ⟨v', w', hr, h2, h3, ?_⟩
    have hxl : xs.length = n := by simpa using hown.1
    by_cases hroom : n + s.size ≤ cap
    · have hcs' : cur.size = cap := by simpa using hcs
      have hr2 := Lib.run_append_room_string (P := P) w t u ty e i ht hu hi hsize g n cap cur hg s hroom (by omega)
      rw [hr2] at hr
      injection hr with hv _
      exact .inl (by rw [← hv]; rfl)
    · have holds : ∀ j u, xs[j]? = some u → w.cell? ((⟨g, 0, none⟩ : Addr).add j) = some u := hown.cells (g := g) rfl
      have h63' : n + s.size ≤ 9223372036854775807 := h63
      have hr2 := Lib.run_append_grow_string (P := P) w t u ty e i (.int .u8 0) ht hu hi hz ⟨g, 0, none⟩ n cap xs (by rw [hsize]; simpa using hxl) holds s (by omega) (by omega) (by rw [hby]; exact growslice_fits (by omega) (by omega))
      rw [hr2] at hr
      injection hr with hv _
      exact .inr ⟨w.heap.size, by rw [← hv]; rfl, Nat.le_refl _⟩
theorem app_str {ops : Array Oper} {rest : List Oper} {o : Oper} {a : Act} {Q : Exit → Act → World → Prop} (base : Nat) (hgd : o.guard = none) (sl x : Operand) (t u e : TypeId)
    (ho : o.op = .call { callee := .builtin .append, args := #[sl, x], argTypes := #[t, u] })
    (ht : P.underlying t = some (.slice e)) (hu : P.underlying u = some .string) (hinfo : (P.info? e).map (fun i => (i.zero, i.size, i.bytes)) = some (some (.int .u8 0), 1, 1))
    (v : Value) (xs : List Int) (s : ByteArray) (hs : a.eval sl = v) (hx : a.eval x = .string s) (hown : w.ownsRow base e 1 v xs.length (nums .u8 xs)) (hbase : base ≤ w.heap.size) (hl : xs.length + s.size ≤ 140737488355328)
    (h : ∀ v1 w1, w1.ownsRow base e 1 v1 (xs ++ bytesOf s).length (nums .u8 (xs ++ bytesOf s)) → w.grownBy w1 v.ownBlock → AtB w v v1 → wpList P ops Q rest (a.put o.dst v1) w1) : wpList P ops Q (o :: rest) a w := by
  obtain ⟨i0, hi, hzz⟩ := Option.map_eq_some_iff.1 hinfo
  simp only [Prod.mk.injEq] at hzz
  obtain ⟨hz0, hz1, hz2⟩ := hzz
  refine wpList_plain hgd fun K hK => ?_
  obtain ⟨v', w', hr, h2, h3, h4⟩ := run_append_string_at (P := P) base t u o.type e i0 ht hu hi hz0 hz1 hz2 v xs.length (nums .u8 xs) hown s (by simp only [maxLen]; omega) hl hbase
  unfold Oper.wp execOp
  simp only [ho, resolve, invoke, builtin, Sem.run_bind, Sem.run_pure, Result.andThen_ok, List.map_toArray, List.map_cons, List.map_nil, hs, hx, hr]
  have hl2 : (xs ++ bytesOf s).length = xs.length + s.size := by rw [List.length_append, bytesOf_length]
  have hc : nums .u8 (xs ++ bytesOf s) = nums .u8 xs ++ Lib.strCells s := by
    rw [nums_append]
    congr 1
    simp [nums, bytesOf, Lib.strCells]
  exact hK _ _ (h v' w' (by rw [hl2, hc]; exact h2) h3 h4)
end
end Go.Proofs.Ytmmoenleldcadaa.HW
