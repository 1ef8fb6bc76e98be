/- Parts: HFr HMem PHuff HArr HCounts PUp PKraft PCod PTbl -/
import Derived.Test.YtaghmhcccighgaaK01
import Derived.Test.YtaghmhcccighgaaK02
import Derived.Lib.AppendStr
import Derived.Test.YtaghmhcccighgaaQW
import Derived.Deep.DeepMust
import Derived.Deep.RegionWith
set_option linter.unusedVariables false
set_option linter.unusedSimpArgs false
section
/- Frames: what a call may have turned; a writer's block. -/
namespace Go.Proofs.Ytaghmhcccighgaa.HW
open Go.RowKit Go.Proofs.YtaghmhcccighgaaW.PrintWords Go.Proofs.YtaghmhcccighgaaW.PrintLast Go.Proofs.YtaghmhcccighgaaW.PrintMore Go.Proofs.Ytaghmhcccighgaa.MB
/-- From w to w' only blocks of S were written; more may have been made. -/
structure Fr (S : Nat → Prop) (w w' : World) : Prop where
  os : w'.os = w.os
  tape : w'.tape = w.tape
  output : w'.output = w.output
  size : w.heap.size ≤ w'.heap.size
  block : ∀ k, k < w.heap.size → ¬ S k → w'.heap[k]? = w.heap[k]?
section
variable {S S' : Nat → Prop} {w w1 w2 : World}
theorem Fr.refl (S : Nat → Prop) (w : World) : Fr S w w := ⟨rfl, rfl, rfl, Nat.le_refl _, fun _ _ _ => rfl⟩
theorem Fr.mono (h : Fr S w w1) (hs : ∀ k, k < w.heap.size → S k → S' k) : Fr S' w w1 := ⟨h.os, h.tape, h.output, h.size, fun k hk hn => h.block k hk (fun hk' => hn (hs k hk hk'))⟩
theorem Fr.then_ (h : Fr S w w1) (k : Fr S' w1 w2) (hs : ∀ k, S' k → S k ∨ w.heap.size ≤ k) : Fr S w w2 :=
  ⟨k.os.trans h.os, k.tape.trans h.tape, k.output.trans h.output, Nat.le_trans h.size k.size, fun i hi hn =>
    (k.block i (Nat.lt_of_lt_of_le hi h.size) (fun h2 => (hs i h2).elim hn (fun h3 => by omega))).trans (h.block i hi hn)⟩
theorem Fr.of_below {B : Nat} (h : Below B w w1) : Fr (fun k => B ≤ k) w w1 := ⟨h.os, h.tape, h.output, h.size, fun k hk hn => h.block k (by omega)⟩
theorem Fr.of_below_all (h : Below w.heap.size w w1) (S : Nat → Prop) : Fr S w w1 := ⟨h.os, h.tape, h.output, h.size, fun k hk _ => h.block k hk⟩
theorem Fr.below {B : Nat} (h : Fr S w w1) (hB : B ≤ w.heap.size) (hs : ∀ k, S k → B ≤ k) : Below B w w1 := ⟨h.os, h.tape, h.output, h.size, fun k hk => h.block k (by omega) (fun h2 => by have := hs k h2; omega)⟩
theorem Fr.grown {row : Option Nat} (hg : w1.grownBy w2 row) (h : Fr S w w1) (hr : ∀ k, row = some k → S k ∨ w.heap.size ≤ k) : Fr S w w2 :=
  h.then_ (S' := fun k => row = some k) ⟨hg.os, hg.tape, hg.output, hg.size, fun i hi hn => hg.block i hi (fun he => hn he.symm)⟩ hr
theorem Fr.add (h : Fr S w w1) (k : Below w1.heap.size w1 w2) : Fr S w w2 := h.then_ (Fr.of_below_all k (fun _ => False)) (fun _ hk => hk.elim)
theorem Fr.alloc (h : Fr S w w1) (o : Obj) : Fr S w (w1.alloc o) := h.add (below_alloc (Below.refl _ _) o)
theorem Fr.drew (h : Fr S w w1) : Fr S w w1.drew := ⟨h.os, h.tape, h.output, h.size, h.block⟩
theorem Fr.drewN (h : Fr S w w1) (m : Nat) : Fr S w (w1.drewN m) := ⟨h.os, h.tape, h.output, h.size, h.block⟩
theorem Fr.setCell (h : Fr S w w1) {p : Addr} (hp : S p.block ∨ w.heap.size ≤ p.block) (u : Value) : Fr S w (w1.setCell p u) :=
  h.then_ (S' := fun k => k = p.block) ⟨rfl, rfl, rfl, by simp [World.setCell], fun i _ hn => Below.heap_setCell w1 p u i hn⟩ (fun k hk => by rw [hk]; exact hp)
theorem Fr.blk {g : Nat} {o : Obj} (h : Fr S w w1) (hb : w.heap[g]? = some o) (hn : ¬ S g) : w1.heap[g]? = some o := (h.block g (blk_lt hb) hn).trans hb
theorem Fr.own {base : Nat} {e : TypeId} {size n : Nat} {v : Value} {xs : List Value} (h : Fr S w w1) (ho : w.ownsRow base e size v n xs) (hn : ∀ k, v.ownBlock = some k → ¬ S k) : w1.ownsRow base e size v n xs :=
  own_move ho (fun k hk => h.block k (own_lt ho k hk) (hn k hk))
end
/-- The value's row is the old one's, or a new one. -/
def AtB (w : World) (v v' : Value) : Prop := v'.ownBlock = v.ownBlock ∨ ∃ b, v'.ownBlock = some b ∧ w.heap.size ≤ b
theorem AtB.refl (w : World) (v : Value) : AtB w v v := .inl rfl
theorem AtB.trans {w w1 : World} {v v1 v2 : Value} (h : AtB w v v1) (h2 : AtB w1 v1 v2) (hs : w.heap.size ≤ w1.heap.size) : AtB w v v2 := by
  rcases h2 with e | ⟨b, e, hb⟩
  · rcases h with e' | ⟨b, e', hb⟩
    · exact .inl (e.trans e')
    · exact .inr ⟨b, e.trans e', hb⟩
  · exact .inr ⟨b, e, by omega⟩
/-- Block g: a writer, its row's value, how many bits. -/
def WBlk (W : World) (g : Nat) (is : Bool) (v : Value) (n : Int) : Prop := W.heap[g]? = some (.cells #[.bool is, v, .int .i64 n] 69 (0, 0))
theorem WBlk.c0 {W : World} {g : Nat} {is : Bool} {v : Value} {n : Int} (h : WBlk W g is v n) : W.cell? ⟨g, 0, none⟩ = some (.bool is) := (blk_cell h 0).trans rfl
theorem WBlk.c1 {W : World} {g : Nat} {is : Bool} {v : Value} {n : Int} (h : WBlk W g is v n) : W.cell? ⟨g, 1, none⟩ = some v := (blk_cell h 1).trans rfl
theorem WBlk.c2 {W : World} {g : Nat} {is : Bool} {v : Value} {n : Int} (h : WBlk W g is v n) : W.cell? ⟨g, 2, none⟩ = some (.int .i64 n) := (blk_cell h 2).trans rfl
theorem WBlk.fz {W : World} {g : Nat} {is : Bool} {v : Value} {n : Int} (h : WBlk W g is v n) (i : Nat) : W.frozen? ⟨g, i, none⟩ = false := blk_frozen h i
theorem WBlk.set1 {W : World} {g : Nat} {is : Bool} {v : Value} {n : Int} (h : WBlk W g is v n) (u : Value) : WBlk (W.setCell ⟨g, 1, none⟩ u) g is u n := by
  unfold WBlk at h ⊢
  simpa using blk_set h 1 u
theorem WBlk.set2 {W : World} {g : Nat} {is : Bool} {v : Value} {n : Int} (h : WBlk W g is v n) (m : Int) : WBlk (W.setCell ⟨g, 2, none⟩ (.int .i64 m)) g is v m := by
  unfold WBlk at h ⊢
  simpa using blk_set h 2 (.int .i64 m)
theorem WBlk.far {W : World} {g : Nat} {is : Bool} {v : Value} {n : Int} (h : WBlk W g is v n) {p : Addr} (hp : g ≠ p.block) (u : Value) : WBlk (W.setCell p u) g is v n := blk_far h hp u
/-- A writer that holds the bits l. -/
def IsW (W : World) (B g : Nat) (v : Value) (l : List Bool) : Prop :=
  WBlk W g true v l.length ∧ B ≤ g ∧ ∃ bs : List Int, W.ownsRow B 5 1 v bs.length (nums .u8 bs) ∧ Packs bs l
theorem IsW.lt {W : World} {B g : Nat} {v : Value} {l : List Bool} (h : IsW W B g v l) : g < W.heap.size := blk_lt h.1
theorem IsW.row_lt {W : World} {B g : Nat} {v : Value} {l : List Bool} (h : IsW W B g v l) (k : Nat) (hk : v.ownBlock = some k) : B ≤ k ∧ k < W.heap.size := by
  obtain ⟨_, _, bs, ho, _⟩ := h
  exact ⟨own_base ho k hk, own_lt ho k hk⟩
theorem IsW.row_ne {W : World} {B g : Nat} {v : Value} {l : List Bool} (h : IsW W B g v l) : v.ownBlock ≠ some g := by
  obtain ⟨hb, _, bs, ho, _⟩ := h
  exact fun he => own_ne ho hb (by decide) he.symm
theorem IsW.keep {W W1 : World} {S : Nat → Prop} {B g : Nat} {v : Value} {l : List Bool} (h : IsW W B g v l) (hf : Fr S W W1) (hg : ¬ S g) (hr : ∀ k, v.ownBlock = some k → ¬ S k) : IsW W1 B g v l := by
  obtain ⟨hb, h1, bs, ho, hp⟩ := h
  exact ⟨hf.blk hb hg, h1, bs, hf.own ho hr, hp⟩
theorem IsW.below {W W1 : World} {B g : Nat} {v : Value} {l : List Bool} (h : IsW W B g v l) (hf : Below W.heap.size W W1) : IsW W1 B g v l :=
  h.keep (Fr.of_below_all hf (fun _ => False)) (fun h => h) (fun _ _ h => h)
/-- What a writer's call may write. -/
def WS (g : Nat) (v : Value) (k : Nat) : Prop := k = g ∨ v.ownBlock = some k
section
variable {P : Program} {w : World}
/-- append(v, s...), s a string: and where the row lies then. -/
theorem run_append_string_at (base : Nat) (t u ty e : TypeId) (i : TypeInfo) (ht : P.underlying t = some (.slice e)) (hu : P.underlying u = some .string) (hi : P.info? e = some i) (hz : i.zero = some (.int .u8 0))
    (hsize : i.size = 1) (hby : i.bytes = 1) (v : Value) (n : Nat) (xs : List Value) (hown : w.ownsRow base e 1 v n xs) (s : ByteArray)
    (h63 : n + s.size ≤ maxLen) (hbytes : n + s.size ≤ 140737488355328) (hbase : base ≤ w.heap.size) :
    ∃ v' w', (Builtin.append_ #[t, u] ty #[v, .string s]).run P w = .ok v' w' ∧ w'.ownsRow base e 1 v' (n + s.size) (xs ++ Lib.strCells s) ∧ w.grownBy w' v.ownBlock ∧ AtB w v v' := by
  rcases hown.2 with ⟨rfl, rfl⟩ | ⟨g, cap, cur, rfl, hbg, hg, hnc, hcm, hcs, htake⟩
  · have hx : xs = [] := List.eq_nil_of_length_eq_zero (by simpa using hown.1)
    subst hx
    obtain ⟨v', w', hr, h2, h3, _⟩ := Lib.run_append_own_string (P := P) w w.heap.size t u ty e i ht hu hi hz hsize hby (.slice none 0 0) 0 [] (own_nil _ _ _ _) s h63 hbytes (Nat.le_refl _)
    refine ⟨v', w', hr, ?_, h3, ?_⟩
    · obtain ⟨a1, a2⟩ := h2
      refine ⟨a1, ?_⟩
      rcases a2 with a2 | ⟨g, cap, cur, e1, e2, r⟩
      · exact .inl a2
      · exact .inr ⟨g, cap, cur, e1, by omega, r⟩
    · cases hb : v'.ownBlock with
      | none => exact .inl (by rw [hb]; rfl)
      | some b => exact .inr ⟨b, hb, own_base h2 b hb⟩
  · obtain ⟨v', w', hr, h2, h3, _⟩ := Lib.run_append_own_string (P := P) w base t u ty e i ht hu hi hz hsize hby _ n xs hown s h63 hbytes hbase
    refine ⟨v', w', hr, h2, h3, ?_⟩
    have hxl : xs.length = n := by simpa using hown.1
    by_cases hroom : n + s.size ≤ cap
    · have hcs' : cur.size = cap := by simpa using hcs
      have hr2 := Lib.run_append_room_string (P := P) w t u ty e i ht hu hi hsize g n cap cur hg s hroom (by omega)
      rw [hr2] at hr
      injection hr with hv _
      exact .inl (by rw [← hv]; rfl)
    · have holds : ∀ j u, xs[j]? = some u → w.cell? ((⟨g, 0, none⟩ : Addr).add j) = some u := hown.cells (g := g) rfl
      have h63' : n + s.size ≤ 9223372036854775807 := h63
      have hr2 := Lib.run_append_grow_string (P := P) w t u ty e i (.int .u8 0) ht hu hi hz ⟨g, 0, none⟩ n cap xs (by rw [hsize]; simpa using hxl) holds s (by omega) (by omega) (by rw [hby]; exact growslice_fits (by omega) (by omega))
      rw [hr2] at hr
      injection hr with hv _
      exact .inr ⟨w.heap.size, by rw [← hv]; rfl, Nat.le_refl _⟩
theorem app_str {ops : Array Oper} {rest : List Oper} {o : Oper} {a : Act} {Q : Exit → Act → World → Prop} (base : Nat) (hgd : o.guard = none) (sl x : Operand) (t u e : TypeId)
    (ho : o.op = .call { callee := .builtin .append, args := #[sl, x], argTypes := #[t, u] })
    (ht : P.underlying t = some (.slice e)) (hu : P.underlying u = some .string) (hinfo : (P.info? e).map (fun i => (i.zero, i.size, i.bytes)) = some (some (.int .u8 0), 1, 1))
    (v : Value) (xs : List Int) (s : ByteArray) (hs : a.eval sl = v) (hx : a.eval x = .string s) (hown : w.ownsRow base e 1 v xs.length (nums .u8 xs)) (hbase : base ≤ w.heap.size) (hl : xs.length + s.size ≤ 140737488355328)
    (h : ∀ v1 w1, w1.ownsRow base e 1 v1 (xs ++ bytesOf s).length (nums .u8 (xs ++ bytesOf s)) → w.grownBy w1 v.ownBlock → AtB w v v1 → wpList P ops Q rest (a.put o.dst v1) w1) : wpList P ops Q (o :: rest) a w := by
  obtain ⟨i0, hi, hzz⟩ := Option.map_eq_some_iff.1 hinfo
  simp only [Prod.mk.injEq] at hzz
  obtain ⟨hz0, hz1, hz2⟩ := hzz
  refine wpList_plain hgd fun K hK => ?_
  obtain ⟨v', w', hr, h2, h3, h4⟩ := run_append_string_at (P := P) base t u o.type e i0 ht hu hi hz0 hz1 hz2 v xs.length (nums .u8 xs) hown s (by simp only [maxLen]; omega) hl hbase
  unfold Oper.wp execOp
  simp only [ho, resolve, invoke, builtin, Sem.run_bind, Sem.run_pure, Result.andThen_ok, List.map_toArray, List.map_cons, List.map_nil, hs, hx, hr]
  have hl2 : (xs ++ bytesOf s).length = xs.length + s.size := by rw [List.length_append, bytesOf_length]
  have hc : nums .u8 (xs ++ bytesOf s) = nums .u8 xs ++ Lib.strCells s := by
    rw [nums_append]
    congr 1
    simp [nums, bytesOf, Lib.strCells]
  exact hK _ _ (h v' w' (by rw [hl2, hc]; exact h2) h3 h4)
end
end Go.Proofs.Ytaghmhcccighgaa.HW
end
section
/- A whole block is written, read. -/
namespace Go.Proofs.Ytaghmhcccighgaa.HW
open Go.RowKit Go.Proofs.YtaghmhcccighgaaW.PrintWords Go.Proofs.YtaghmhcccighgaaW.PrintLast Go.Proofs.YtaghmhcccighgaaW.PrintMore Go.Proofs.Ytaghmhcccighgaa.MB
theorem setCells_blk {e g : Nat} : ∀ (seg : List Value) (o : Nat) (w : World) (cur : Array Value), w.heap[g]? = some (.cells cur e (0, 0)) → ∃ cur' : Array Value, (w.setCells g o seg).heap[g]? = some (.cells cur' e (0, 0)) ∧ cur'.size = cur.size ∧ ∀ i, cur'[i]? = if o ≤ i ∧ i < o + seg.length ∧ i < cur.size then seg[i - o]? else cur[i]?
  | [], o, w, cur, h => ⟨cur, h, rfl, fun i => by rw [if_neg (by simp; omega)]⟩
  | v :: r, o, w, cur, h => by
    obtain ⟨c', h1, h2, h3⟩ := setCells_blk r (o + 1) (w.setCell ⟨g, o, none⟩ v) (cur.setIfInBounds o v) (blk_set h o v)
    refine ⟨c', h1, by rw [h2]; simp, fun i => ?_⟩
    rw [h3 i, Array.getElem?_setIfInBounds]
    have e0 : (cur.setIfInBounds o v).size = cur.size := by simp
    rw [e0]
    simp only [List.length_cons]
    by_cases h5 : o = i
    · subst h5
      rw [if_neg (by omega), if_pos rfl]
      by_cases h6 : o < cur.size
      · rw [if_pos h6, if_pos ⟨Nat.le_refl _, by omega, h6⟩]; simp
      · rw [if_neg h6, if_neg (by omega), Array.getElem?_eq_none (by omega)]
    · rw [if_neg h5]
      by_cases h4 : o + 1 ≤ i ∧ i < o + 1 + r.length ∧ i < cur.size
      · rw [if_pos h4, if_pos (by omega), show i - o = (i - (o + 1)) + 1 from by omega, List.getElem?_cons_succ]
      · rw [if_neg h4, if_neg (by omega)]
theorem setCells_all {e g : Nat} {w : World} {cur cs : Array Value} (h : w.heap[g]? = some (.cells cur e (0, 0))) (hs : cur.size = cs.size) : (w.setCells g 0 cs.toList).heap[g]? = some (.cells cs e (0, 0)) := by
  obtain ⟨c', h1, h2, h3⟩ := setCells_blk cs.toList 0 w cur h
  rw [h1]
  congr 2
  refine Array.ext_getElem? fun i => ?_
  rw [h3 i]
  by_cases hi : i < cur.size
  · rw [if_pos ⟨Nat.zero_le _, by simp; omega, hi⟩]; simp
  · rw [if_neg (by omega), Array.getElem?_eq_none (by omega), Array.getElem?_eq_none (by omega)]
theorem setCells_fr {g : Nat} (seg : List Value) (o : Nat) (w : World) : Fr (fun k => k = g) w (w.setCells g o seg) := by
  induction seg generalizing o w with
  | nil => exact Fr.refl _ _
  | cons v r ih => exact (((Fr.refl (fun k => k = g) w).setCell (p := ⟨g, o, none⟩) (Or.inl rfl) v).then_ (ih (o + 1) _) (fun k hk => Or.inl hk))
section
variable {P : Program} {ops : Array Oper} {rest : List Oper} {o : Oper} {a : Act} {Q : Exit → Act → World → Prop}
theorem store_all {W : World} (hgd : o.guard = none) {t : TypeId} {p : Tmp} {v : Operand} (ho : o.op = .store t (.tmp p) v) (hN : o.dst = none) (g : Nat) (cs cs' : Array Value) (ty : TypeId)
    (hx : a.eval (.tmp p) = .pointer (some ⟨g, 0, none⟩)) (hv : a.eval v = .agg cs') (hg : W.heap[g]? = some (.cells cs ty (0, 0))) (hs : cs.size = cs'.size) (hi : (P.info? t).map (·.size) = some cs'.size) (h1 : ∀ q ∈ cs'.toList, q.oneCell' = true)
    (h : ∀ w1, w1.heap[g]? = some (.cells cs' ty (0, 0)) → Fr (fun k => k = g) W w1 → wpList P ops Q rest a w1) : wpList P ops Q (o :: rest) a W := by
  refine store_event hgd ho hN (w1 := W.setCells g 0 cs'.toList) ?_ (fun w' hw' => by subst hw'; exact h _ (setCells_all hg hs) (setCells_fr _ _ _))
  have hr := run_store_run (P := P) (w := W) t (.agg cs') cs'.toList hg (o := 0) (by rfl) (by rw [hi]; simp) (by simp; omega) h1
  simp only [execOp, ho, hx, hv, Sem.run_bind, hr, Result.andThen_ok, Sem.run_pure]
theorem load_all {W : World} (hgd : o.guard = none) {t : TypeId} {x : Operand} (ho : o.op = .load t x) (g : Nat) (hx : a.eval x = .pointer (some ⟨g, 0, none⟩)) (ty : TypeId) (cs : Array Value) (d : TypeDesc) (hg : W.heap[g]? = some (.cells cs ty (0, 0)))
    (hu : P.underlying t = some d) (hd : (match d with | .struct _ | .array _ _ => true | _ => false) = true) (hi : (P.info? t).map (·.size) = some cs.size) (h : wpList P ops Q rest (a.put o.dst (.agg cs)) W) : wpList P ops Q (o :: rest) a W :=
  wpList_load_row hgd t x ho g hx ty cs (0, 0) d hg hu hd hi h
end
end Go.Proofs.Ytaghmhcccighgaa.HW
end
section
/- Codes by lengths, plain: how many words of each length, what is left, the first words, the words. -/
namespace Go.Proofs.Ytaghmhcccighgaa.HF
/-- How many are l. -/
def cntL (lens : List Int) (l : Int) : Int := ((lens.filter (fun x => decide (x = l))).length : Int)
theorem cntL_nil (l : Int) : cntL [] l = 0 := rfl
theorem cntL_app (a b : List Int) (l : Int) : cntL (a ++ b) l = cntL a l + cntL b l := by unfold cntL; rw [List.filter_append, List.length_append]; omega
theorem cntL_snoc (a : List Int) (x l : Int) : cntL (a ++ [x]) l = cntL a l + (if x = l then 1 else 0) := by
  rw [cntL_app]
  congr 1
  unfold cntL
  by_cases h : x = l
  · simp [h]
  · simp [h]
theorem cntL_cons (x : Int) (a : List Int) (l : Int) : cntL (x :: a) l = (if x = l then 1 else 0) + cntL a l := by
  rw [← List.singleton_append, cntL_app]
  congr 1
  unfold cntL
  by_cases h : x = l
  · simp [h]
  · simp [h]
theorem cntL_nn (a : List Int) (l : Int) : 0 ≤ cntL a l ∧ cntL a l ≤ a.length := by
  unfold cntL
  have := List.length_filter_le (fun x => decide (x = l)) a
  omega
/-- What is left behind the words of the lengths up to l. -/
def rooms (f : Nat → Int) : Nat → Int
  | 0 => 1
  | l + 1 => 2 * rooms f l - f (l + 1)
theorem rooms_neg {f : Nat → Int} (hf : ∀ l, 0 ≤ f l) {i : Nat} (h : rooms f i < 0) : ∀ j, i ≤ j → rooms f j < 0
  | 0, hj => by rw [show 0 = i by omega]; exact h
  | j + 1, hj => by
    by_cases he : i = j + 1
    · rw [← he]; exact h
    · have := rooms_neg hf h j (by omega)
      have h2 := hf (j + 1)
      show 2 * rooms f j - f (j + 1) < 0
      omega
theorem rooms_le {f : Nat → Int} (hf : ∀ l, 0 ≤ f l) : ∀ j, rooms f j ≤ 2 ^ j
  | 0 => by simp [rooms]
  | j + 1 => by
    have := rooms_le hf j
    have h2 := hf (j + 1)
    show 2 * rooms f j - f (j + 1) ≤ 2 ^ (j + 1)
    rw [Int.pow_succ]
    omega
def lenOk (x : Int) : Bool := decide (0 ≤ x ∧ x ≤ 15)
/-- Lengths may be, and are those of a code. -/
def okL (lens : List Int) : Bool := decide (lens.length ≤ 288) && (lens.all lenOk && decide (0 ≤ rooms (fun l => cntL lens l) 15))
/-- The first word of a length. -/
def nxt (f : Nat → Int) : Nat → Int
  | 0 => 0
  | l + 1 => if l = 0 then 0 else 2 * (nxt f l + f l)
/-- The word of symbol i. -/
def codeAt (lens : List Int) (i : Nat) : Int := if 0 < lens.getD i 0 then nxt (fun l => cntL lens l) (lens.getD i 0).toNat + cntL (lens.take i) (lens.getD i 0) else 0
def codesL (lens : List Int) : List Int := (List.range lens.length).map (codeAt lens)
def wholeL (lens : List Int) : Bool := decide (rooms (fun l => cntL lens l) 15 = 0)
theorem nxt_bd {f : Nat → Int} (hf : ∀ l, 0 ≤ f l ∧ f l ≤ 288) : ∀ l, 0 ≤ nxt f l ∧ nxt f l ≤ 576 * (2 ^ l - 1)
  | 0 => by simp [nxt]
  | l + 1 => by
    have h1 := nxt_bd hf l
    have h2 := hf l
    have hp : (0 : Int) < 2 ^ l := Int.pow_pos (by decide)
    unfold nxt
    rw [Int.pow_succ]
    split <;> omega
theorem codesL_len (lens : List Int) : (codesL lens).length = lens.length := by unfold codesL; rw [List.length_map, List.length_range]
end Go.Proofs.Ytaghmhcccighgaa.HF
end
section
/- An array of sixteen numbers, as a block. -/
namespace Go.Proofs.Ytaghmhcccighgaa.HF
open Go.RowKit Go.Proofs.YtaghmhcccighgaaW.PrintWords Go.Proofs.YtaghmhcccighgaaW.PrintLast Go.Proofs.YtaghmhcccighgaaW.PrintMore Go.Proofs.Ytaghmhcccighgaa.HW Go.Proofs.Ytaghmhcccighgaa.MB
def arrV (f : Nat → Int) : Array Value := ((List.range 16).map (fun i => Value.int .i64 (f i))).toArray
theorem arrV_size (f : Nat → Int) : (arrV f).size = 16 := by unfold arrV; simp
theorem arrV_get (f : Nat → Int) (k : Nat) (h : k < 16) : (arrV f)[k]? = some (.int .i64 (f k)) := by
  unfold arrV
  rw [List.getElem?_toArray, List.getElem?_map, List.getElem?_range h]
  rfl
theorem arrV_one (f : Nat → Int) : ∀ q ∈ (arrV f).toList, q.oneCell' = true := by
  intro q hq
  unfold arrV at hq
  rw [List.toList_toArray] at hq
  obtain ⟨i, _, rfl⟩ := List.mem_map.1 hq
  rfl
theorem arrV_congr {f f' : Nat → Int} (h : ∀ k, k < 16 → f k = f' k) : arrV f = arrV f' := by
  unfold arrV
  congr 1
  refine List.map_congr_left (fun i hi => ?_)
  rw [h i (List.mem_range.1 hi)]
theorem arrV_zero : arrV (fun _ => 0) = #[.int .i64 0, .int .i64 0, .int .i64 0, .int .i64 0, .int .i64 0, .int .i64 0, .int .i64 0, .int .i64 0, .int .i64 0, .int .i64 0, .int .i64 0, .int .i64 0, .int .i64 0, .int .i64 0, .int .i64 0, .int .i64 0] := rfl
def upd (f : Nat → Int) (k : Nat) (v : Int) : Nat → Int := fun i => if i = k then v else f i
theorem arrV_set (f : Nat → Int) (k : Nat) (v : Int) : (arrV f).setIfInBounds k (.int .i64 v) = arrV (upd f k v) := by
  refine Array.ext_getElem? fun i => ?_
  rw [Array.getElem?_setIfInBounds, arrV_size]
  by_cases hi : i < 16
  · rw [arrV_get f i hi, arrV_get (upd f k v) i hi]
    by_cases hk : k = i
    · subst hk; rw [if_pos rfl, if_pos hi]; unfold upd; rw [if_pos rfl]
    · rw [if_neg hk]; unfold upd; rw [if_neg (fun e => hk e.symm)]
  · rw [Array.getElem?_eq_none (by rw [arrV_size]; omega), Array.getElem?_eq_none (by rw [arrV_size]; omega)]
    split
    · split
      · omega
      · rfl
    · rfl
/-- Block g is an array. -/
def IsArr (W : World) (g : Nat) (f : Nat → Int) : Prop := W.heap[g]? = some (.cells (arrV f) 97 (0, 0))
theorem IsArr.cell {W : World} {g : Nat} {f : Nat → Int} (h : IsArr W g f) (k : Nat) (hk : k < 16) : W.cell? ⟨g, k, none⟩ = some (.int .i64 (f k)) := (blk_cell h k).trans (arrV_get f k hk)
theorem IsArr.frozen {W : World} {g : Nat} {f : Nat → Int} (h : IsArr W g f) (k : Nat) : W.frozen? ⟨g, k, none⟩ = false := blk_frozen h k
theorem IsArr.set {W : World} {g : Nat} {f : Nat → Int} (h : IsArr W g f) (k : Nat) (v : Int) : IsArr (W.setCell ⟨g, k, none⟩ (.int .i64 v)) g (upd f k v) := by
  unfold IsArr
  rw [blk_set h k, arrV_set]
theorem IsArr.below {W W' : World} {g : Nat} {f : Nat → Int} (h : IsArr W g f) (hb : Below W.heap.size W W') : IsArr W' g f := (hb.block _ (blk_lt h)).trans h
theorem IsArr.keep {S : Nat → Prop} {W W' : World} {g : Nat} {f : Nat → Int} (h : IsArr W g f) (hf : Fr S W W') (hn : ¬ S g) : IsArr W' g f := hf.blk h hn
theorem IsArr.congr {W : World} {g : Nat} {f f' : Nat → Int} (h : IsArr W g f) (e : ∀ k, k < 16 → f k = f' k) : IsArr W g f' := by unfold IsArr at h ⊢; rw [← arrV_congr e]; exact h
theorem IsArr.new (w : World) : IsArr (w.alloc (.cells #[.int .i64 0, .int .i64 0, .int .i64 0, .int .i64 0, .int .i64 0, .int .i64 0, .int .i64 0, .int .i64 0, .int .i64 0, .int .i64 0, .int .i64 0, .int .i64 0, .int .i64 0, .int .i64 0, .int .i64 0, .int .i64 0] 97)) w.heap.size (fun _ => 0) := by
  unfold IsArr
  rw [arrV_zero]
  exact heap_alloc_new w _
end Go.Proofs.Ytaghmhcccighgaa.HF
end
section
/- huff.counts: walked. -/
namespace Go.Proofs.Ytaghmhcccighgaa.HF
open Go.RowKit Go.Proofs.YtaghmhcccighgaaW.PrintWords Go.Proofs.YtaghmhcccighgaaW.PrintLast Go.Proofs.YtaghmhcccighgaaW.PrintMore Go.Proofs.Ytaghmhcccighgaa.HW Go.Proofs.Ytaghmhcccighgaa.MB
attribute [local go_sem] max2_int min2_int max_two min_two max_three min_three max_four min_four   -- for this text's walks alone
def cA (lens : List Int) (k : Nat) : Int := if k = 0 then rooms (fun l => cntL lens l) 15 else cntL lens k
/-- What counts tells. -/
def CQ (lens : List Int) (W : World) (e : Ending) (w' : World) : Prop := ∃ f, e = .returned (.tuple #[.agg (arrV f), .bool (okL lens)]) ∧ (okL lens = true → ∀ k, k < 16 → f k = cA lens k) ∧ Below W.heap.size W w'
theorem okL_long {lens : List Int} (h : 288 < lens.length) : okL lens = false := by unfold okL; simp; omega
theorem okL_bad {lens : List Int} (i : Nat) (hi : i < lens.length) (h : lenOk lens[i] = false) : okL lens = false := by
  unfold okL
  have h1 : lens.all lenOk = false := List.all_eq_false.2 ⟨lens[i], List.getElem_mem hi, by rw [h]; decide⟩
  rw [h1]
  simp
theorem okL_room {lens : List Int} (j : Nat) (hj : j ≤ 15) (h : rooms (fun l => cntL lens l) j < 0) : okL lens = false := by
  unfold okL
  have := rooms_neg (fun l => (cntL_nn lens l).1) h 15 hj
  rw [decide_eq_false (p := 0 ≤ rooms _ 15) (by omega)]
  simp
theorem okL_all {lens : List Int} (h1 : lens.length ≤ 288) (h2 : ∀ x ∈ lens, lenOk x = true) (h3 : 0 ≤ rooms (fun l => cntL lens l) 15) : okL lens = true := by
  unfold okL
  rw [decide_eq_true h1, decide_eq_true h3, List.all_eq_true.2 h2]
  rfl
theorem take_rd (xs : List Int) (i : Nat) (h : i < xs.length) : xs.take (i + 1) = xs.take i ++ [rd xs (i : Int)] := by
  rw [List.take_add_one, List.getElem?_eq_getElem h]
  have : rd xs (i : Int) = xs[i] := by unfold rd; rw [Int.toNat_natCast, List.getD_eq_getElem?_getD, List.getElem?_eq_getElem h]; rfl
  rw [this]; rfl
theorem rd_get (xs : List Int) (i : Nat) (h : i < xs.length) : rd xs (i : Int) = xs[i] := by unfold rd; rw [Int.toNat_natCast, List.getD_eq_getElem?_getD, List.getElem?_eq_getElem h]; rfl
theorem cA_last (lens : List Int) (r : Int) (h : rooms (fun l => cntL lens l) 15 = r) (k : Nat) : upd (upd (fun l => cntL lens l) 0 0) 0 r k = cA lens k := by
  unfold upd cA
  by_cases h0 : k = 0
  · rw [if_pos h0, if_pos h0, h]
  · rw [if_neg h0, if_neg h0, if_neg h0]
/-- The state of counts. -/
structure CS (W w : World) (g : Nat) (f : Nat → Int) : Prop where
  be : Below W.heap.size W w
  gg : W.heap.size = g
  re : IsArr w g (fun _ => 0)
  ar : IsArr w (g + 1) f
theorem CS.set {W w : World} {g : Nat} {f : Nat → Int} (h : CS W w g f) (k : Nat) (v : Int) : CS W (w.setCell ⟨g + 1, k, none⟩ (.int .i64 v)) g (upd f k v) :=
  ⟨h.be.setCell (by show W.heap.size ≤ g + 1; rw [h.gg]; omega) _, h.gg, (Below.heap_setCell _ _ _ _ (by show g ≠ g + 1; omega)).trans h.re, h.ar.set k v⟩
theorem CS.congr {W w : World} {g : Nat} {f f' : Nat → Int} (h : CS W w g f) (e : ∀ k, k < 16 → f k = f' k) : CS W w g f' := ⟨h.be, h.gg, h.re, h.ar.congr e⟩
set_option maxRecDepth 100000 in
set_option maxHeartbeats 8000000 in
theorem counts_any (A : Option Addr) (c : Nat) (lens : List Int) (W : World) (hr : Kd.C (Kd.int .i64) W A lens.length lens) (_hc : lens.length ≤ c) : Calls Try.prog 60 #[.slice A lens.length c] W (CQ lens W) := by
  have hu := Try.underlying97
  have HR := Aside0.mk hr
  clear hr _hc
  go_enter Try.func60, Try.ntmps60
  go_upto_region 2 with (fail)
  have e1 : (W.alloc (.cells #[.int .i64 0, .int .i64 0, .int .i64 0, .int .i64 0, .int .i64 0, .int .i64 0, .int .i64 0, .int .i64 0, .int .i64 0, .int .i64 0, .int .i64 0, .int .i64 0, .int .i64 0, .int .i64 0, .int .i64 0, .int .i64 0] 97)).heap.size = W.heap.size + 1 := Array.size_push _
  have k0 := IsArr.new W
  have hb := below_alloc (Below.refl (W.alloc (.cells #[.int .i64 0, .int .i64 0, .int .i64 0, .int .i64 0, .int .i64 0, .int .i64 0, .int .i64 0, .int .i64 0, .int .i64 0, .int .i64 0, .int .i64 0, .int .i64 0, .int .i64 0, .int .i64 0, .int .i64 0, .int .i64 0] 97)).heap.size (W.alloc (.cells #[.int .i64 0, .int .i64 0, .int .i64 0, .int .i64 0, .int .i64 0, .int .i64 0, .int .i64 0, .int .i64 0, .int .i64 0, .int .i64 0, .int .i64 0, .int .i64 0, .int .i64 0, .int .i64 0, .int .i64 0, .int .i64 0] 97))) (.cells #[.int .i64 0, .int .i64 0, .int .i64 0, .int .i64 0, .int .i64 0, .int .i64 0, .int .i64 0, .int .i64 0, .int .i64 0, .int .i64 0, .int .i64 0, .int .i64 0, .int .i64 0, .int .i64 0, .int .i64 0, .int .i64 0] 97)
  have k1 := IsArr.new (W.alloc (.cells #[.int .i64 0, .int .i64 0, .int .i64 0, .int .i64 0, .int .i64 0, .int .i64 0, .int .i64 0, .int .i64 0, .int .i64 0, .int .i64 0, .int .i64 0, .int .i64 0, .int .i64 0, .int .i64 0, .int .i64 0, .int .i64 0] 97))
  rw [e1] at k1
  have k0' := k0.below hb
  have hB := (below_alloc (Below.refl W.heap.size W) (.cells #[.int .i64 0, .int .i64 0, .int .i64 0, .int .i64 0, .int .i64 0, .int .i64 0, .int .i64 0, .int .i64 0, .int .i64 0, .int .i64 0, .int .i64 0, .int .i64 0, .int .i64 0, .int .i64 0, .int .i64 0, .int .i64 0] 97)).trans (hb.mono (by rw [e1]; omega))
  obtain ⟨g, hg⟩ : ∃ g, W.heap.size = g := ⟨_, rfl⟩
  rw [hg] at k0' k1 hB
  have HS := Aside0.mk (CS.mk (f := fun _ => 0) (by rw [hg]; exact hB) hg k0' k1)
  rw [hg]
  clear e1 k0 hb k1 k0' hB hg
  generalize (W.alloc (.cells #[.int .i64 0, .int .i64 0, .int .i64 0, .int .i64 0, .int .i64 0, .int .i64 0, .int .i64 0, .int .i64 0, .int .i64 0, .int .i64 0, .int .i64 0, .int .i64 0, .int .i64 0, .int .i64 0, .int .i64 0, .int .i64 0] 97)).alloc (.cells #[.int .i64 0, .int .i64 0, .int .i64 0, .int .i64 0, .int .i64 0, .int .i64 0, .int .i64 0, .int .i64 0, .int .i64 0, .int .i64 0, .int .i64 0, .int .i64 0, .int .i64 0, .int .i64 0, .int .i64 0, .int .i64 0] 97) = w1 at HS ⊢
  by_cases hlen : 288 < lens.length
  · have hb0 : decide (288 < (lens.length : Int)) = true := by simp; omega
    have HO := Aside0.mk (okL_long hlen)
    clear hlen
    go_wp2_with (first | (refine load_all rfl rfl (g + 1) rfl 97 (arrV (fun _ => 0)) _ HS.out.ar Try.underlying97 rfl (by rw [arrV_size]; kernel_rfl) ?_) | ((with_reducible refine gate_store (t := 97) (p := 2) (v := .tmp 13) rfl ?_); go_must (refine store_all rfl rfl rfl g (arrV (fun _ => 0)) (arrV (fun _ => 0)) 97 (by rfl) (by rfl) HS.out.re ((arrV_size _).trans (arrV_size _).symm) (by rw [arrV_size]; kernel_rfl) (arrV_one _) ?_); intro w9 hr1 hf6; have HR1 := Aside0.mk hr1; have HF6 := Aside0.mk hf6; clear hr1 hf6))
    refine bodyPost_ret (results_ct rfl _ _ g 97 (arrV (fun _ => 0)) (0, 0) _ rfl HR1.out Try.underlying97 rfl (by rw [arrV_size]; kernel_rfl)) rfl ?_
    exact ⟨_, (by rw [HO.out]; rfl), (fun h => absurd ((HO.out).symm.trans h) (by decide)), HS.out.be.trans (HF6.out.below HS.out.be.size (fun k hk => by rw [hk, HS.out.gg]; exact Nat.le_refl _))⟩
  · have hb0 : decide (288 < (lens.length : Int)) = false := by simp; omega
    have hl288 : lens.length ≤ 288 := by omega
    clear hlen
    go_wp2_with fail
    go_loopw [16] (fun v16 wr => ∃ k : Nat, v16 = .int .i64 k ∧ k ≤ lens.length ∧ Aside0 (CS W wr g (fun l => cntL (lens.take k) l)) ∧ Aside0 (∀ x ∈ lens.take k, lenOk x = true)) (fun v16 _ => lens.length - (intOf v16).toNat)
    case atStart => exact ⟨0, rfl, Nat.zero_le _, HS, ⟨by simp⟩⟩
    case round =>
      clear HS
      obtain ⟨k, rfl, hk, HS, HK⟩ := hrel
      by_cases hlt : k < lens.length
      · have hb1 : decide ((k : Int) < (lens.length : Int)) = true := by simp; omega
        obtain ⟨ad1, hA1, x0⟩ := Kd.at_int (Kd.C_below HR.out HS.out.be) (k : Int) (by omega) (by omega)
        subst hA1
        simp only [Int.toNat_natCast] at x0
        have htk := take_rd lens k hlt
        have hgt := rd_get lens k hlt
        obtain ⟨x, hx⟩ : ∃ x, rd lens (k : Int) = x := ⟨_, rfl⟩
        rw [hx] at x0 htk hgt
        have HTK := Aside0.mk htk
        have q1 : (0 : Int) ≤ (k : Int) := by omega
        have q2 : (k : Int) < (lens.length : Int) := by omega
        have HI := Aside0.mk hlt
        by_cases hx0 : 0 ≤ x ∧ x ≤ 15
        · obtain ⟨m, rfl⟩ : ∃ m : Nat, x = m := ⟨x.toNat, by omega⟩
          have hm : m < 16 := by omega
          have c0 := HS.out.ar.cell m hm
          have f0 := HS.out.ar.frozen m
          have r1 : (0 : Int) ≤ (m : Int) := by omega
          have r2 : (m : Int) < 16 := by omega
          have r3 : decide ((m : Int) < 0) = false := by simp
          have r4 : decide (15 < (m : Int)) = false := by simp; omega
          obtain ⟨cn, hcn⟩ : ∃ z, cntL (lens.take k) (m : Int) = z := ⟨_, rfl⟩
          have hcb := cntL_nn (lens.take k) (m : Int)
          rw [hcn] at hcb
          have hcb2 : cn ≤ 288 := by have : (lens.take k).length ≤ k := List.length_take_le _ _; omega
          have hcb1 := hcb.1
          have HCN := Aside0.mk hcn
          have HKN := Aside0.mk (show ∀ x ∈ lens.take (k + 1), lenOk x = true from fun x hx => by
            rw [HTK.out] at hx
            rcases List.mem_append.1 hx with h | h
            · exact HK.out x h
            · rw [List.mem_singleton.1 h]; unfold lenOk; simp; omega)
          rw [hcn] at c0
          clear hx hgt htk hlt hx0 hcn hcb
          have c1 : wr.cell? ⟨g + 1, m, none⟩ = some (.int .i64 cn) := c0
          clear c0
          go_wp2_with fail
          have HS2 := Aside0.mk ((HS.out.set m (cn + 1)).congr (f' := fun l => cntL (lens.take (k + 1)) l) (fun j hj => by
            rw [HTK.out, cntL_snoc]
            unfold upd
            by_cases hjm : j = m
            · subst hjm; rw [if_pos rfl, if_pos rfl, HCN.out]
            · rw [if_neg hjm, if_neg (show ¬ (m : Int) = (j : Int) by omega)]; exact (Int.add_zero _).symm))
          go_roundw
          case rel => exact ⟨k + 1, by simp, HI.out, HS2, HKN⟩
          case measure => simp [intOf]; have := HI.out; omega
        · have HO := Aside0.mk (okL_bad k hlt (by rw [← hgt]; unfold lenOk; exact decide_eq_false hx0))
          clear hgt htk hlt hx
          by_cases hn : x < 0
          · have r3 : decide (x < 0) = true := by simpa using hn
            clear hx0 hn
            go_wp2_with (first | (refine load_all rfl rfl (g + 1) rfl 97 (arrV (fun l => cntL (lens.take k) l)) _ HS.out.ar Try.underlying97 rfl (by rw [arrV_size]; kernel_rfl) ?_) | ((with_reducible refine gate_store (t := 97) (p := 2) (v := .tmp 26) rfl ?_); go_must (refine store_all rfl rfl rfl g (arrV (fun _ => 0)) (arrV (fun l => cntL (lens.take k) l)) 97 (by rfl) (by rfl) HS.out.re ((arrV_size _).trans (arrV_size _).symm) (by rw [arrV_size]; kernel_rfl) (arrV_one _) ?_); intro w9 hr1 hf6; have HR1 := Aside0.mk hr1; have HF6 := Aside0.mk hf6; clear hr1 hf6))
            refine bodyPost_ret (results_ct rfl _ _ g 97 (arrV (fun l => cntL (lens.take k) l)) (0, 0) _ rfl HR1.out Try.underlying97 rfl (by rw [arrV_size]; kernel_rfl)) rfl ?_
            exact ⟨_, (by rw [HO.out]; rfl), (fun h => absurd ((HO.out).symm.trans h) (by decide)), HS.out.be.trans (HF6.out.below HS.out.be.size (fun k hk => by rw [hk, HS.out.gg]; exact Nat.le_refl _))⟩
          · have r3 : decide (x < 0) = false := by simp; omega
            have r4 : decide (15 < x) = true := by simp; omega
            clear hx0 hn
            go_wp2_with (first | (refine load_all rfl rfl (g + 1) rfl 97 (arrV (fun l => cntL (lens.take k) l)) _ HS.out.ar Try.underlying97 rfl (by rw [arrV_size]; kernel_rfl) ?_) | ((with_reducible refine gate_store (t := 97) (p := 2) (v := .tmp 26) rfl ?_); go_must (refine store_all rfl rfl rfl g (arrV (fun _ => 0)) (arrV (fun l => cntL (lens.take k) l)) 97 (by rfl) (by rfl) HS.out.re ((arrV_size _).trans (arrV_size _).symm) (by rw [arrV_size]; kernel_rfl) (arrV_one _) ?_); intro w9 hr1 hf6; have HR1 := Aside0.mk hr1; have HF6 := Aside0.mk hf6; clear hr1 hf6))
            refine bodyPost_ret (results_ct rfl _ _ g 97 (arrV (fun l => cntL (lens.take k) l)) (0, 0) _ rfl HR1.out Try.underlying97 rfl (by rw [arrV_size]; kernel_rfl)) rfl ?_
            exact ⟨_, (by rw [HO.out]; rfl), (fun h => absurd ((HO.out).symm.trans h) (by decide)), HS.out.be.trans (HF6.out.below HS.out.be.size (fun k hk => by rw [hk, HS.out.gg]; exact Nat.le_refl _))⟩
      · have hke : k = lens.length := by omega
        subst hke
        have hb1 : decide ((lens.length : Int) < (lens.length : Int)) = false := by simp
        have HALL := Aside0.mk (show ∀ x ∈ lens, lenOk x = true from fun x hx => HK.out x (by rw [List.take_length]; exact hx))
        have hS0 := HS.out
        rw [List.take_length] at hS0
        have f0 := hS0.ar.frozen 0
        have c0 := hS0.ar.cell 0 (by decide)
        have HS1 := Aside0.mk (hS0.set 0 0)
        clear hlt hS0 HS HK
        go_upto_region 13 with (fail)
        generalize wr.setCell ⟨g + 1, 0, none⟩ (.int .i64 0) = w2 at HS1 ⊢
        clear f0 c0
        go_wp2_with fail
        go_loopw [7, 36] (fun v7 v36 wr => ∃ j : Nat, v36 = .int .i64 j ∧ j ≤ 15 ∧ v7 = .int .i64 (rooms (fun l => cntL lens l) j) ∧ 0 ≤ rooms (fun l => cntL lens l) j ∧ Aside0 (wr = w2)) (fun v7 v36 _ => 15 - (intOf v36).toNat)
        case atStart => exact ⟨0, rfl, by omega, rfl, by show (0 : Int) ≤ 1; decide, ⟨rfl⟩⟩
        case round =>
          obtain ⟨j, rfl, hj, rfl, hr0, HWE⟩ := hrel
          have hwe := HWE.out
          subst hwe
          clear HWE
          have hrl := rooms_le (f := fun l => cntL lens l) (fun l => (cntL_nn lens l).1) j
          have hrp : (2 : Int) ^ j ≤ 32768 := by
            have := Nat.pow_le_pow_right (n := 2) (by decide) hj
            have h2 : ((2 ^ j : Nat) : Int) ≤ 32768 := by exact_mod_cast this
            simpa using h2
          have hrs : rooms (fun l => cntL lens l) (j + 1) = 2 * rooms (fun l => cntL lens l) j - cntL lens ((j + 1 : Nat) : Int) := rfl
          obtain ⟨r, hr⟩ : ∃ r, rooms (fun l => cntL lens l) j = r := ⟨_, rfl⟩
          rw [hr] at hr0 hrl hrs ⊢
          have hr1 : r ≤ 32768 := by omega
          have HRR := Aside0.mk hr
          clear hr hrl hrp
          by_cases hlt : j < 15
          · have hb4 : decide ((j : Int) < 15) = true := by simp; omega
            have cj := HS1.out.ar.cell (j + 1) (by omega)
            have hu0 : upd (fun l => cntL lens l) 0 0 (j + 1) = cntL lens ((j + 1 : Nat) : Int) := by unfold upd; rw [if_neg (by omega)]
            rw [hu0] at cj
            have hcb := cntL_nn lens ((j + 1 : Nat) : Int)
            obtain ⟨cn, hcn⟩ : ∃ z, cntL lens ((j + 1 : Nat) : Int) = z := ⟨_, rfl⟩
            rw [hcn] at cj hcb hrs
            have hc1 := hcb.1
            have hc2 : cn ≤ 288 := by omega
            have q1 : (0 : Int) ≤ (j : Int) := by omega
            have q2 : (j : Int) < 15 := by omega
            have HRS := Aside0.mk hrs
            have HI := Aside0.mk hlt
            have cj' : wr.cell? ⟨g + 1, 1 + j, none⟩ = some (.int .i64 cn) := by rw [Nat.add_comm 1 j]; exact cj
            clear hcn hcb hrs hlt hu0
            by_cases hneg : 2 * r - cn < 0
            · have r5 : decide (2 * r - cn < 0) = true := by simpa using hneg
              have HO := Aside0.mk (okL_room (lens := lens) (j + 1) (by omega) (by rw [HRS.out]; exact hneg))
              clear hneg
              go_wp2_with (first | (refine load_all rfl rfl (g + 1) rfl 97 (arrV (upd (fun l => cntL lens l) 0 0)) _ HS1.out.ar Try.underlying97 rfl (by rw [arrV_size]; kernel_rfl) ?_) | ((with_reducible refine gate_store (t := 97) (p := 2) (v := .tmp 46) rfl ?_); go_must (refine store_all rfl rfl rfl g (arrV (fun _ => 0)) (arrV (upd (fun l => cntL lens l) 0 0)) 97 (by rfl) (by rfl) HS1.out.re ((arrV_size _).trans (arrV_size _).symm) (by rw [arrV_size]; kernel_rfl) (arrV_one _) ?_); intro w9 hr1 hf6; have HR1 := Aside0.mk hr1; have HF6 := Aside0.mk hf6; clear hr1 hf6))
              refine bodyPost_ret (results_ct rfl _ _ g 97 (arrV (upd (fun l => cntL lens l) 0 0)) (0, 0) _ rfl HR1.out Try.underlying97 rfl (by rw [arrV_size]; kernel_rfl)) rfl ?_
              exact ⟨_, (by rw [HO.out]; rfl), (fun h => absurd ((HO.out).symm.trans h) (by decide)), HS1.out.be.trans (HF6.out.below HS1.out.be.size (fun k hk => by rw [hk, HS1.out.gg]; exact Nat.le_refl _))⟩
            · have r5 : decide (2 * r - cn < 0) = false := by simpa using hneg
              have HN := Aside0.mk (show 0 ≤ 2 * r - cn by omega)
              clear hneg
              go_wp2_with fail
              go_roundw
              case rel => exact ⟨j + 1, by simp, HI.out, by rw [HRS.out], by rw [HRS.out]; exact HN.out, ⟨by first | rfl | trivial⟩⟩
              case measure => simp [intOf]; omega
          · have hje : j = 15 := by omega
            subst hje
            have hb4 : decide ((15 : Int) < 15) = false := by decide
            have HO := Aside0.mk (okL_all hl288 HALL.out (by rw [HRR.out]; exact hr0))
            have f0 := HS1.out.ar.frozen 0
            have c0 := HS1.out.ar.cell 0 (by decide)
            have HS2 := Aside0.mk (HS1.out.set 0 r)
            clear hlt hrs
            go_upto_region 21 with (fail)
            generalize wr.setCell ⟨g + 1, 0, none⟩ (.int .i64 r) = w3 at HS2 ⊢
            clear f0 c0
            go_wp2_with (first | (refine load_all rfl rfl (g + 1) rfl 97 (arrV (upd (upd (fun l => cntL lens l) 0 0) 0 r)) _ HS2.out.ar Try.underlying97 rfl (by rw [arrV_size]; kernel_rfl) ?_) | ((with_reducible refine gate_store (t := 97) (p := 2) (v := .tmp 50) rfl ?_); go_must (refine store_all rfl rfl rfl g (arrV (fun _ => 0)) (arrV (upd (upd (fun l => cntL lens l) 0 0) 0 r)) 97 (by rfl) (by rfl) HS2.out.re ((arrV_size _).trans (arrV_size _).symm) (by rw [arrV_size]; kernel_rfl) (arrV_one _) ?_); intro w9 hr1 hf6; have HR1 := Aside0.mk hr1; have HF6 := Aside0.mk hf6; clear hr1 hf6))
            refine bodyPost_ret (results_ct rfl _ _ g 97 (arrV (upd (upd (fun l => cntL lens l) 0 0) 0 r)) (0, 0) _ rfl HR1.out Try.underlying97 rfl (by rw [arrV_size]; kernel_rfl)) rfl ?_
            exact ⟨_, (by rw [HO.out]; rfl), (fun _ k hk => cA_last lens r HRR.out k), HS2.out.be.trans (HF6.out.below HS2.out.be.size (fun k hk => by rw [hk, HS2.out.gg]; exact Nat.le_refl _))⟩
end Go.Proofs.Ytaghmhcccighgaa.HF
end
section
/- More rounds tell the same: plain. -/
namespace Go.Proofs.Ytaghmhcccighgaa.HP
open Go.RowKit Go.Proofs.YtaghmhcccighgaaW.PrintWords Go.Proofs.YtaghmhcccighgaaW.PrintLast Go.Proofs.YtaghmhcccighgaaW.PrintMore
theorem up {α : Type} {f : Nat → Option α} (hm : ∀ k, LeO (f k) (f (k + 1))) {K : Nat} {r : α} (h : f K = some r) : ∀ d, f (K + d) = some r
  | 0 => h
  | d + 1 => hm _ _ (up hm h d)
theorem both {α β : Type} {f : Nat → Option α} {g : Nat → Option β} (hm : ∀ k, LeO (f k) (f (k + 1))) (hg : ∀ k, LeO (g k) (g (k + 1))) {r : α} {s : β} (h1 : ∃ k, f k = some r) (h2 : ∃ k, g k = some s) : ∃ k, f k = some r ∧ g k = some s := by
  obtain ⟨a, ha⟩ := h1
  obtain ⟨b, hb⟩ := h2
  exact ⟨a + b, up hm ha b, by rw [Nat.add_comm]; exact up hg hb a⟩
theorem shl_15 : ∀ m : Nat, m < 16 → shl .i64 1 (m : Int) = ((2 ^ m : Nat) : Int) := by decide
end Go.Proofs.Ytaghmhcccighgaa.HP
end
section
/- Lengths that may be, by shares and by what is left; no word begins another: plain. -/
namespace Go.Proofs.Ytaghmhcccighgaa.HP
open Go.RowKit Go.Proofs.Ytaghmhcccighgaa.Fn Go.Proofs.Ytaghmhcccighgaa.HF Go.Proofs.YtaghmhcccighgaaW.PrintWords Go.Proofs.YtaghmhcccighgaaW.PrintLast Go.Proofs.YtaghmhcccighgaaW.PrintMore
def shareS : List Int → Int
  | [] => 0
  | x :: r => (if 0 < x then ((2 ^ (15 - x.toNat) : Nat) : Int) else 0) + shareS r
theorem shareS_cons (x : Int) (r : List Int) : shareS (x :: r) = (if 0 < x then ((2 ^ (15 - x.toNat) : Nat) : Int) else 0) + shareS r := rfl
theorem pow15 (d : Nat) (h : d ≤ 15) : 2 ^ d ≤ 32768 := Nat.pow_le_pow_right (n := 2) (by decide) h
theorem share_loop (l : List Int) (hl : l.length ≤ 288) : ∀ (d i : Nat) (s : Int), i + d = l.length → 0 ≤ s → s ≤ i * 32768 → ∃ k, postroadref03_share.l0 k l s (i : Int) = some (if (l.drop i).all lenOk then s + shareS (l.drop i) else -1) := by
  intro d
  induction d with
  | zero =>
    intro i s hi h0 h1
    refine ⟨1, ?_⟩
    rw [postroadref03_share.l0, if_neg (by omega), List.drop_eq_nil_of_le (by omega)]
    show some s = some (s + 0)
    rw [Int.add_zero]
  | succ d ih =>
    intro i s hi h0 h1
    have hlt : i < l.length := by omega
    have e0 : rd l (i : Int) = l[i] := rd_get l i hlt
    have ed : l.drop i = l[i] :: l.drop (i + 1) := List.drop_eq_getElem_cons hlt
    have w1 : wrap64 ((i : Int) + 1) = ((i + 1 : Nat) : Int) := by unfold wrap64; omega
    by_cases c1 : l[i] < 0
    · refine ⟨2, ?_⟩
      have hb : lenOk l[i] = false := decide_eq_false (by omega)
      rw [postroadref03_share.l0, if_pos (by omega), if_pos (by omega), e0, if_pos c1, postroadref03_share.j1, if_pos rfl, ed, List.all_cons, hb]
      rfl
    · by_cases c2 : l[i] > 15
      · refine ⟨2, ?_⟩
        have hb : lenOk l[i] = false := decide_eq_false (by omega)
        rw [postroadref03_share.l0, if_pos (by omega), if_pos (by omega), e0, if_neg c1, decide_eq_true c2, postroadref03_share.j1, if_pos rfl, ed, List.all_cons, hb]
        rfl
      · have hb : lenOk l[i] = true := decide_eq_true (by omega)
        by_cases c3 : l[i] > 0
        · obtain ⟨x, hx⟩ : ∃ x : Nat, l[i] = x := ⟨l[i].toNat, by omega⟩
          have w2 : wrap64 (15 - l[i]) = ((15 - x : Nat) : Int) := by unfold wrap64; omega
          have hp := pow15 (15 - x) (by omega)
          obtain ⟨y, hy⟩ : ∃ y : Nat, 2 ^ (15 - x) = y := ⟨_, rfl⟩
          rw [hy] at hp
          have w3 : wrap64 (s + (y : Int)) = s + (y : Int) := by unfold wrap64; omega
          obtain ⟨k, hk⟩ := ih (i + 1) (s + (y : Int)) (by omega) (by omega) (by omega)
          refine ⟨k + 2, ?_⟩
          rw [postroadref03_share.l0, if_pos (by omega), if_pos (by omega), e0, if_neg c1, decide_eq_false c2, postroadref03_share.j1, if_neg (by decide), if_pos (by omega), if_pos (by omega), e0, if_pos c3, w2, if_pos (by omega), shl_15 (15 - x) (by omega), hy, w3, w1, hk, ed, List.all_cons, hb, Bool.true_and, shareS_cons, if_pos c3, hx, Int.toNat_natCast, hy, ← Int.add_assoc]
        · obtain ⟨k, hk⟩ := ih (i + 1) s (by omega) h0 (by omega)
          refine ⟨k + 2, ?_⟩
          rw [postroadref03_share.l0, if_pos (by omega), if_pos (by omega), e0, if_neg c1, decide_eq_false c2, postroadref03_share.j1, if_neg (by decide), if_pos (by omega), if_pos (by omega), e0, if_neg c3, w1, hk, ed, List.all_cons, hb, Bool.true_and]
          show _ = some (if _ then s + ((if 0 < l[i] then _ else 0) + shareS _) else -1)
          rw [if_neg c3, Int.zero_add]
def shareL (l : List Int) : Int := if decide (l.length ≤ 288) && l.all lenOk then shareS l else -1
theorem share_ok (l : List Int) : ∃ k, postroadref03_share.f k l = some (shareL l) := by
  unfold postroadref03_share.f shareL
  by_cases h : (l.length : Int) > 288
  · exact ⟨0, by rw [if_pos h, decide_eq_false (show ¬ l.length ≤ 288 by omega)]; rfl⟩
  · obtain ⟨k, hk⟩ := share_loop l (by omega) l.length 0 0 (by omega) (Int.le_refl _) (by omega)
    refine ⟨k, ?_⟩
    have hk2 : postroadref03_share.l0 k l 0 0 = _ := hk
    rw [if_neg h, hk2, decide_eq_true (show l.length ≤ 288 by omega), List.drop_zero, Bool.true_and, Int.zero_add]
theorem shareS_nn : ∀ l : List Int, 0 ≤ shareS l
  | [] => Int.le_refl _
  | x :: r => by
    have := shareS_nn r
    rw [shareS_cons]
    split
    · exact Int.add_nonneg (Int.natCast_nonneg _) this
    · omega
/-- One word more of length x. -/
theorem rooms_one (f g : Nat → Int) (x : Nat) (hx : 1 ≤ x) (h : ∀ l, g l = f l + (if l = x then 1 else 0)) : ∀ j, rooms g j = rooms f j - (if x ≤ j then ((2 ^ (j - x) : Nat) : Int) else 0)
  | 0 => by
    rw [if_neg (by omega)]
    show (1 : Int) = 1 - 0
    rfl
  | j + 1 => by
    have ih := rooms_one f g x hx h j
    show 2 * rooms g j - g (j + 1) = 2 * rooms f j - f (j + 1) - _
    rw [ih, h]
    by_cases e : j + 1 = x
    · rw [if_pos e, if_neg (by omega), if_pos (by omega), e, Nat.sub_self]
      show 2 * (rooms f j - 0) - (f x + 1) = 2 * rooms f j - f x - ((1 : Nat) : Int)
      omega
    · rw [if_neg e]
      by_cases e2 : x ≤ j
      · rw [if_pos e2, if_pos (by omega), show j + 1 - x = (j - x) + 1 by omega, Nat.pow_succ]
        generalize 2 ^ (j - x) = y
        omega
      · rw [if_neg e2, if_neg (by omega)]
        omega
theorem rooms_congr {f g : Nat → Int} (h : ∀ l, 1 ≤ l → g l = f l) : ∀ j, rooms g j = rooms f j
  | 0 => rfl
  | j + 1 => by
    show 2 * rooms g j - g (j + 1) = 2 * rooms f j - f (j + 1)
    rw [rooms_congr h j, h (j + 1) (by omega)]
theorem rooms_share : ∀ l : List Int, l.all lenOk = true → rooms (fun k => cntL l k) 15 = 32768 - shareS l
  | [], _ => by decide
  | x :: r, h => by
    rw [List.all_cons, Bool.and_eq_true] at h
    have ih := rooms_share r h.2
    have hx := of_decide_eq_true h.1
    obtain ⟨n, rfl⟩ : ∃ n : Nat, x = n := ⟨x.toNat, by omega⟩
    rw [shareS_cons]
    by_cases h0 : (0 : Int) < (n : Int)
    · rw [if_pos h0, rooms_one (fun k => cntL r k) (fun k => cntL ((n : Int) :: r) k) n (by omega) (fun l => by
        show cntL ((n : Int) :: r) l = cntL r l + _
        rw [cntL_cons]
        by_cases e : l = n
        · subst e; rw [if_pos rfl, if_pos rfl]; omega
        · rw [if_neg e, if_neg (by omega)]; omega) 15, ih, if_pos (by omega), Int.toNat_natCast]
      omega
    · rw [if_neg h0, Int.zero_add, ← ih]
      exact rooms_congr (fun l hl => by
        show cntL ((n : Int) :: r) l = cntL r l
        rw [cntL_cons, if_neg (by omega), Int.zero_add]) 15
theorem okL_share (l : List Int) : okL l = (decide (0 ≤ shareL l) && decide (shareL l ≤ 32768)) := by
  unfold okL shareL
  cases h1 : decide (l.length ≤ 288) with
  | false => rfl
  | true =>
    cases h2 : l.all lenOk with
    | false => rfl
    | true =>
      rw [rooms_share l h2]
      simp only [Bool.true_and, Bool.and_self, if_true]
      have := shareS_nn l
      rw [decide_eq_true this, Bool.true_and]
      by_cases e : shareS l ≤ 32768
      · rw [decide_eq_true e, decide_eq_true (by omega)]
      · rw [decide_eq_false e, decide_eq_false (by omega)]
theorem may_ok (l : List Int) : ∃ k, postroadref03_May.f k l = some (okL l) := by
  obtain ⟨k, hk⟩ := share_ok l
  refine ⟨k, ?_⟩
  unfold postroadref03_May.f
  rw [hk, okL_share]
  simp only [Option.bind_some]
  by_cases h : shareL l ≥ 0
  · rw [if_pos h, decide_eq_true (show 0 ≤ shareL l from h), Bool.true_and]
  · rw [if_neg h, decide_eq_false (show ¬ 0 ≤ shareL l from h)]
    rfl
theorem full_ok (l : List Int) (ho : okL l = true) : ∃ k, postroadref03_Full.f k l = some (wholeL l) := by
  obtain ⟨k, hk⟩ := share_ok l
  refine ⟨k, ?_⟩
  unfold postroadref03_Full.f wholeL
  rw [hk]
  simp only [Option.bind_some]
  unfold okL at ho
  simp only [Bool.and_eq_true] at ho
  have h2 := ho.2.1
  rw [rooms_share l h2]
  unfold shareL
  rw [ho.1, h2]
  simp only [Bool.and_self, if_true]
  by_cases e : shareS l = 32768
  · rw [e]; rfl
  · rw [decide_eq_false (by omega)]
    congr 1
    exact beq_eq_false_iff_ne.mpr e
/-- The words of a length and those ahead of it. -/
theorem used (f : Nat → Int) : ∀ L, 1 ≤ L → nxt f L + f L = 2 ^ L - rooms f L
  | 0, h => by omega
  | L + 1, _ => by
    by_cases h : L = 0
    · subst h
      show (0 : Int) + f 1 = 2 ^ 1 - (2 * 1 - f 1)
      omega
    · have ih := used f L (by omega)
      show (if L = 0 then (0 : Int) else 2 * (nxt f L + f L)) + f (L + 1) = 2 ^ (L + 1) - (2 * rooms f L - f (L + 1))
      rw [if_neg h, ih, Int.pow_succ]
      omega
theorem rooms_nn {f : Nat → Int} (hf : ∀ l, 0 ≤ f l) {j : Nat} (h : 0 ≤ rooms f 15) (hj : j ≤ 15) : 0 ≤ rooms f j := by
  by_cases c : 0 ≤ rooms f j
  · exact c
  · have := rooms_neg hf (i := j) (by omega) 15 hj
    omega
/-- A longer word stands behind all shorter ones. -/
theorem nxt_behind {f : Nat → Int} (hf : ∀ l, 0 ≤ f l) (a : Nat) (ha : 1 ≤ a) : ∀ d, (nxt f a + f a) * 2 ^ (d + 1) ≤ nxt f (a + d + 1)
  | 0 => by
    show _ ≤ if a = 0 then (0 : Int) else 2 * (nxt f a + f a)
    rw [if_neg (by omega)]
    omega
  | d + 1 => by
    have ih := nxt_behind hf a ha d
    have := hf (a + d + 1)
    show _ ≤ if a + d + 1 = 0 then (0 : Int) else 2 * (nxt f (a + d + 1) + f (a + d + 1))
    rw [if_neg (by omega), Int.pow_succ, ← Int.mul_assoc]
    omega
theorem shr_i64 (n m : Nat) (hm : m ≤ 64) : shr .i64 (n : Int) (m : Int) = ((n / 2 ^ m : Nat) : Int) := by
  unfold shr
  rw [show min ((m : Int)).toNat IntKind.i64.bits = m from by simp [IntKind.bits]; omega]
  simp
theorem cnt_mono (l : List Int) (x : Int) {i j : Nat} (h : i ≤ j) : cntL (l.take i) x ≤ cntL (l.take j) x := by
  have e : l.take j = l.take i ++ (l.drop i).take (j - i) := by
    have := (List.take_append_drop i (l.take j)).symm
    rw [List.take_take, List.drop_take, Nat.min_eq_left h] at this
    exact this
  rw [e, cntL_app]
  have := (cntL_nn ((l.drop i).take (j - i)) x).1
  omega
theorem cnt_next (l : List Int) (i : Nat) (h : i < l.length) : cntL (l.take (i + 1)) l[i] = cntL (l.take i) l[i] + 1 := by
  rw [List.take_succ_eq_append_getElem h, cntL_snoc, if_pos rfl]
theorem cnt_lt (l : List Int) (i j : Nat) (h : i < l.length) (hj : i < j) : cntL (l.take i) l[i] + 1 ≤ cntL (l.take j) l[i] := by
  rw [← cnt_next l i h]
  exact cnt_mono l _ hj
theorem cnt_all (l : List Int) (i : Nat) (h : i < l.length) : cntL (l.take i) l[i] + 1 ≤ cntL l l[i] := by
  have := cnt_lt l i l.length h h
  rw [List.take_length] at this
  exact this
theorem codes_rd (l : List Int) (i : Nat) (h : i < l.length) : rd (codesL l) (i : Int) = codeAt l i := by
  unfold rd codesL
  rw [Int.toNat_natCast, List.getD_eq_getElem?_getD, List.getElem?_map, List.getElem?_range h]
  rfl
theorem codeAt_eq (l : List Int) (i L : Nat) (h : i < l.length) (hL : l[i] = (L : Int)) (h0 : 0 < L) : codeAt l i = nxt (fun k => cntL l k) L + cntL (l.take i) (L : Int) := by
  unfold codeAt
  rw [List.getD_eq_getElem?_getD, List.getElem?_eq_getElem h]
  simp only [Option.getD_some, hL]
  rw [if_pos (by omega), Int.toNat_natCast]
theorem codeAt_zero (l : List Int) (i : Nat) (h : i < l.length) (hL : l[i] = 0) : codeAt l i = 0 := by
  unfold codeAt
  rw [List.getD_eq_getElem?_getD, List.getElem?_eq_getElem h]
  simp only [Option.getD_some, hL]
  rfl
theorem okL_open {l : List Int} (h : okL l = true) : l.length ≤ 288 ∧ (∀ x ∈ l, 0 ≤ x ∧ x ≤ 15) ∧ 0 ≤ rooms (fun k => cntL l k) 15 := by
  unfold okL at h
  simp only [Bool.and_eq_true, decide_eq_true_eq] at h
  exact ⟨h.1, fun x hx => of_decide_eq_true (List.all_eq_true.1 h.2.1 x hx), h.2.2⟩
theorem cnt_nn' (l : List Int) : ∀ k : Nat, 0 ≤ (fun k : Nat => cntL l k) k := fun k => (cntL_nn l k).1
/-- A word is a number below 2 to its length. -/
theorem code_fits {l : List Int} (ho : okL l = true) (i L : Nat) (h : i < l.length) (hL : l[i] = (L : Int)) (h0 : 0 < L) : 0 ≤ codeAt l i ∧ codeAt l i + 1 ≤ nxt (fun k => cntL l k) L + cntL l (L : Int) ∧ codeAt l i + 1 ≤ 2 ^ L := by
  obtain ⟨o1, o2, o3⟩ := okL_open ho
  have h15 : L ≤ 15 := by have := o2 l[i] (List.getElem_mem _); omega
  have e := codeAt_eq l i L h hL h0
  have c1 := cnt_all l i h
  rw [hL] at c1
  have u := used (fun k => cntL l k) L h0
  have r := rooms_nn (cnt_nn' l) o3 h15
  have nb := nxt_bd (f := fun k => cntL l k) (fun k => ⟨(cntL_nn l k).1, by have := (cntL_nn l k).2; omega⟩) L
  have cn := (cntL_nn (l.take i) (L : Int)).1
  rw [e]
  omega
/-- No word begins another. -/
theorem code_apart {l : List Int} (ho : okL l = true) (i j a d : Nat) (hi : i < l.length) (hj : j < l.length) (hij : i ≠ j) (hA : l[i] = (a : Int)) (h0 : 0 < a) (hB : l[j] = ((a + d : Nat) : Int)) : shr .i64 (codeAt l j) (d : Int) ≠ codeAt l i := by
  obtain ⟨o1, o2, o3⟩ := okL_open ho
  have h15 : a + d ≤ 15 := by have := o2 l[j] (List.getElem_mem _); omega
  have fi := code_fits ho i a hi hA h0
  have fj := code_fits ho j (a + d) hj hB (by omega)
  have ei := codeAt_eq l i a hi hA h0
  have ej := codeAt_eq l j (a + d) hj hB (by omega)
  obtain ⟨u, hu⟩ : ∃ u : Nat, codeAt l i = u := ⟨(codeAt l i).toNat, by omega⟩
  obtain ⟨v, hv⟩ : ∃ v : Nat, codeAt l j = v := ⟨(codeAt l j).toNat, by omega⟩
  rw [hu, hv, shr_i64 v d (by omega)]
  cases d with
  | zero =>
    rw [Nat.pow_zero, Nat.div_one]
    rw [Nat.add_zero] at ej hB
    rcases Nat.lt_or_gt_of_ne hij with hlt | hgt
    · have := cnt_lt l i j hi hlt
      rw [hA] at this
      omega
    · have := cnt_lt l j i hj hgt
      rw [hB] at this
      omega
  | succ d =>
    have nb := nxt_behind (cnt_nn' l) a h0 d
    have cn := (cntL_nn (l.take j) ((a + (d + 1) : Nat) : Int)).1
    have k1 : ((u : Int) + 1) * 2 ^ (d + 1) ≤ v := by
      refine Int.le_trans (Int.mul_le_mul_of_nonneg_right (show (u : Int) + 1 ≤ nxt (fun k => cntL l k) a + cntL l (a : Int) by omega) (Int.le_of_lt (Int.pow_pos (by decide)))) (Int.le_trans nb ?_)
      rw [show a + d + 1 = a + (d + 1) by omega]
      omega
    have k2 : (u + 1) * 2 ^ (d + 1) ≤ v := by exact_mod_cast k1
    have k3 : u + 1 ≤ v / 2 ^ (d + 1) := (Nat.le_div_iff_mul_le (Nat.pow_pos (by decide))).2 k2
    omega
end Go.Proofs.Ytaghmhcccighgaa.HP
end
section
/- The document's Codes: plain. -/
namespace Go.Proofs.Ytaghmhcccighgaa.PC
open Go.RowKit Go.Proofs.Ytaghmhcccighgaa.Fn Go.Proofs.Ytaghmhcccighgaa.HF Go.Proofs.Ytaghmhcccighgaa.HP Go.Proofs.Ytaghmhcccighgaa.MB Go.Proofs.YtaghmhcccighgaaW.PrintWords Go.Proofs.YtaghmhcccighgaaW.PrintLast Go.Proofs.YtaghmhcccighgaaW.PrintMore
theorem at_ {α : Type} {f : Nat → Option α} (hm : ∀ k, LeO (f k) (f (k + 1))) {K k : Nat} {r : α} (h : f K = some r) (hk : K ≤ k) : f k = some r := by
  obtain ⟨d, rfl⟩ := Nat.exists_eq_add_of_le hk
  exact up hm h d
def outP (l : List Int) (L i : Nat) : List Int := (List.range l.length).map fun j => if 0 < l.getD j 0 ∧ (l.getD j 0 < (L : Int) ∨ (l.getD j 0 = (L : Int) ∧ j < i)) then codeAt l j else 0
theorem outP_len (l : List Int) (L i : Nat) : (outP l L i).length = l.length := by unfold outP; rw [List.length_map, List.length_range]
theorem getD_at (l : List Int) (j : Nat) (h : j < l.length) : l.getD j 0 = l[j] := by rw [List.getD_eq_getElem?_getD, List.getElem?_eq_getElem h]; rfl
theorem outP_next (l : List Int) (L : Nat) : outP l L l.length = outP l (L + 1) 0 := by
  unfold outP
  refine List.map_congr_left fun j hj => ?_
  have := List.mem_range.1 hj
  by_cases c : 0 < l.getD j 0 ∧ (l.getD j 0 < (L : Int) ∨ (l.getD j 0 = (L : Int) ∧ j < l.length))
  · rw [if_pos c, if_pos (by omega)]
  · rw [if_neg c, if_neg (by omega)]
theorem outP_set (l : List Int) (L i : Nat) (hi : i < l.length) (h0 : 0 < L) (hL : l[i] = (L : Int)) : (outP l L i).set i (codeAt l i) = outP l L (i + 1) := by
  refine List.ext_getElem (by rw [List.length_set, outP_len, outP_len]) fun j h1 h2 => ?_
  have hjl : j < l.length := by rw [outP_len] at h2; exact h2
  have g : ∀ (a b : Nat) (h : j < (outP l a b).length), (outP l a b)[j] = if 0 < l.getD j 0 ∧ (l.getD j 0 < (a : Int) ∨ (l.getD j 0 = (a : Int) ∧ j < b)) then codeAt l j else 0 := fun a b h => by
    simp only [outP, List.getElem_map, List.getElem_range]
  rw [List.getElem_set, g L (i + 1), g L i]
  by_cases e : i = j
  · subst e
    rw [if_pos rfl, getD_at l i hi, if_pos (by omega)]
  · rw [if_neg e]
    by_cases c : 0 < l.getD j 0 ∧ (l.getD j 0 < (L : Int) ∨ (l.getD j 0 = (L : Int) ∧ j < i))
    · rw [if_pos c, if_pos (by omega)]
    · rw [if_neg c, if_neg (by omega)]
theorem outP_same (l : List Int) (L i : Nat) (hi : i < l.length) (hL : l[i] ≠ (L : Int)) : outP l L i = outP l L (i + 1) := by
  unfold outP
  refine List.map_congr_left fun j hj => ?_
  have hjl := List.mem_range.1 hj
  by_cases e : i = j
  · subst e
    rw [getD_at l i hi]
    by_cases c : 0 < l[i] ∧ (l[i] < (L : Int) ∨ (l[i] = (L : Int) ∧ i < i))
    · rw [if_pos c, if_pos (by omega)]
    · rw [if_neg c, if_neg (by omega)]
  · by_cases c : 0 < l.getD j 0 ∧ (l.getD j 0 < (L : Int) ∨ (l.getD j 0 = (L : Int) ∧ j < i))
    · rw [if_pos c, if_pos (by omega)]
    · rw [if_neg c, if_neg (by omega)]
theorem outP_start (l : List Int) : outP l 1 0 = List.replicate l.length 0 := by
  unfold outP
  refine List.ext_getElem (by simp) fun j h1 h2 => ?_
  rw [List.getElem_map, List.getElem_range, List.getElem_replicate, if_neg (by omega)]
theorem outP_end (l : List Int) (h : ∀ x ∈ l, 0 ≤ x ∧ x ≤ 15) : outP l 16 0 = codesL l := by
  unfold outP codesL
  refine List.map_congr_left fun j hj => ?_
  have hjl := List.mem_range.1 hj
  have := h l[j] (List.getElem_mem _)
  rw [getD_at l j hjl]
  by_cases c : 0 < l[j]
  · rw [if_pos (by omega)]
  · rw [if_neg (by omega), codeAt_zero l j hjl (by omega)]
theorem refcodes_in (l : List Int) (ho : okL l = true) (L : Nat) (h0 : 1 ≤ L) (h15 : L ≤ 15)
    (hn : ∃ k, postroadref03_Codes.l0 k l (outP l (L + 1) 0) (nxt (fun k => cntL l k) L + cntL l (L : Int)) ((L + 1 : Nat) : Int) = some (codesL l, 0)) :
    ∀ (d i : Nat), i + d = l.length → ∃ k, postroadref03_Codes.l1 k l (outP l L i) (nxt (fun k => cntL l k) L + cntL (l.take i) (L : Int)) (L : Int) (i : Int) = some (codesL l, 0) := by
  obtain ⟨o1, o2, o3⟩ := okL_open ho
  have nb := nxt_bd (f := fun k => cntL l k) (fun k => ⟨(cntL_nn l k).1, by have := (cntL_nn l k).2; omega⟩) L
  have hp : (2 : Int) ^ L ≤ 32768 := by
    have := pow15 L h15
    have h2 : ((2 ^ L : Nat) : Int) ≤ 32768 := Int.ofNat_le.2 this
    rwa [Int.natCast_pow] at h2
  intro d
  induction d with
  | zero =>
    intro i hi
    obtain ⟨k, hk⟩ := hn
    refine ⟨k + 1, ?_⟩
    have w1 : wrap64 ((L : Int) + 1) = ((L + 1 : Nat) : Int) := by unfold wrap64; omega
    rw [postroadref03_Codes.l1, if_neg (by omega), w1, show i = l.length by omega, List.take_length, outP_next, hk]
  | succ d ih =>
    intro i hi
    have hil : i < l.length := by omega
    obtain ⟨k, hk⟩ := ih (i + 1) (by omega)
    refine ⟨k + 1, ?_⟩
    have w1 : wrap64 ((i : Int) + 1) = ((i + 1 : Nat) : Int) := by unfold wrap64; omega
    have cn := cntL_nn (l.take i) (L : Int)
    have cl : ((l.take i).length : Int) ≤ 288 := by rw [List.length_take]; omega
    rw [postroadref03_Codes.l1, if_pos (by omega), if_pos (by omega), rd_get l i hil, w1]
    by_cases e : l[i] = (L : Int)
    · have w2 : wrap64 (nxt (fun k => cntL l k) L + cntL (l.take i) (L : Int) + 1) = nxt (fun k => cntL l k) L + cntL (l.take (i + 1)) (L : Int) := by
        have := cnt_next l i hil
        rw [e] at this
        rw [this, wrap64_id _ (by omega) (by omega)]
        omega
      rw [if_pos e, if_pos (by rw [outP_len]; omega), Int.toNat_natCast, ← codeAt_eq l i L hil e (by omega), outP_set l L i hil (by omega) e, codeAt_eq l i L hil e (by omega), w2, hk]
    · have c2 : cntL (l.take (i + 1)) (L : Int) = cntL (l.take i) (L : Int) := by
        rw [List.take_succ_eq_append_getElem hil, cntL_snoc, if_neg e, Int.add_zero]
      rw [if_neg e, outP_same l L i hil e, ← c2, hk]
theorem refcodes_out (l : List Int) (ho : okL l = true) : ∀ (e L : Nat) (y : Int), L + e = 16 → 1 ≤ L → 2 * y = nxt (fun k => cntL l k) L → ∃ k, postroadref03_Codes.l0 k l (outP l L 0) y (L : Int) = some (codesL l, 0) := by
  obtain ⟨o1, o2, o3⟩ := okL_open ho
  intro e
  induction e with
  | zero =>
    intro L y hL h1 hy
    refine ⟨1, ?_⟩
    rw [postroadref03_Codes.l0, if_neg (by omega), show L = 16 by omega, outP_end l o2]
  | succ e ih =>
    intro L y hL h1 hy
    have nb := nxt_bd (f := fun k => cntL l k) (fun k => ⟨(cntL_nn l k).1, by have := (cntL_nn l k).2; omega⟩) L
    have hp : (2 : Int) ^ L ≤ 32768 := by
      have := pow15 L (by omega)
      have h2 : ((2 ^ L : Nat) : Int) ≤ 32768 := Int.ofNat_le.2 this
      rwa [Int.natCast_pow] at h2
    obtain ⟨k, hk⟩ := refcodes_in l ho L h1 (by omega) (ih (L + 1) (nxt (fun k => cntL l k) L + cntL l (L : Int)) (by omega) (by omega) (by
      show _ = if L = 0 then (0 : Int) else 2 * (nxt (fun k => cntL l k) L + cntL l (L : Int))
      rw [if_neg (by omega)])) l.length 0 (by omega)
    refine ⟨k + 1, ?_⟩
    have w2 : wrap64 (2 * y) = nxt (fun k => cntL l k) L := by rw [hy]; exact wrap64_id _ (by omega) (by omega)
    have hk2 : postroadref03_Codes.l1 k l (outP l L 0) (nxt (fun k => cntL l k) L + cntL (l.take 0) (L : Int)) (L : Int) 0 = _ := hk
    rw [List.take_zero, cntL_nil, Int.add_zero] at hk2
    rw [postroadref03_Codes.l0, if_pos (by omega), w2, hk2]
theorem refcodes_ok (l : List Int) : ∃ k, postroadref03_Codes.f k l = some (if okL l then codesL l else [], if okL l then 0 else 30) := by
  cases h : okL l with
  | false =>
    obtain ⟨k, hk⟩ := may_ok l
    refine ⟨k, ?_⟩
    unfold postroadref03_Codes.f
    rw [hk, h]
    rfl
  | true =>
    obtain ⟨o1, o2, o3⟩ := okL_open h
    obtain ⟨k0, hk0⟩ := refcodes_out l h 15 1 0 (by omega) (Nat.le_refl _) (by rfl)
    obtain ⟨k, hk1, hk2⟩ := both (fun k => postroadref03_May.mono l k) (fun k => (postroadref03_Codes.mono_l k).1 l (outP l 1 0) 0 ((1 : Nat) : Int)) (may_ok l) ⟨k0, hk0⟩
    refine ⟨k, ?_⟩
    unfold postroadref03_Codes.f
    rw [hk1, h]
    simp only [Option.bind_some, if_true]
    rw [if_pos (by omega), if_pos (by rw [Int.toNat_natCast]; omega), Int.toNat_natCast, ← outP_start]
    exact hk2
end Go.Proofs.Ytaghmhcccighgaa.PC
end
section
/- A table's symbols by their words; what Symbol tells: plain. -/
namespace Go.Proofs.Ytaghmhcccighgaa.HF
open Go.Proofs.Ytaghmhcccighgaa.MB
/-- The places of a length among the first i. -/
def idxL (lens : List Int) (l i : Nat) : List Int := ((List.range i).filter (fun j : Nat => decide (lens.getD j 0 = (l : Int)))).map (fun j : Nat => (j : Int))
theorem idxL_succ (lens : List Int) (l i : Nat) : idxL lens l (i + 1) = idxL lens l i ++ (if lens.getD i 0 = (l : Int) then [(i : Int)] else []) := by
  unfold idxL
  rw [List.range_succ, List.filter_append, List.map_append]
  congr 1
  rw [List.filter_cons]
  by_cases h : lens.getD i 0 = (l : Int)
  · rw [decide_eq_true h, if_pos rfl, if_pos h]; rfl
  · rw [decide_eq_false h, if_neg h]; rfl
theorem idxL_len (lens : List Int) (l i : Nat) : (idxL lens l i).length ≤ i := by
  unfold idxL
  rw [List.length_map]
  have := List.length_filter_le (fun j : Nat => decide (lens.getD j 0 = (l : Int))) (List.range i)
  rw [List.length_range] at this
  exact this
/-- The symbols by their words, up to a length. -/
def symsT (lens : List Int) : Nat → List Int
  | 0 => []
  | l + 1 => symsT lens l ++ idxL lens (l + 1) lens.length
theorem symsT_len (lens : List Int) : ∀ l, (symsT lens l).length ≤ l * lens.length
  | 0 => Nat.zero_le _
  | l + 1 => by
    have h1 := symsT_len lens l
    have h2 := idxL_len lens (l + 1) lens.length
    unfold symsT
    rw [List.length_append, Nat.succ_mul]
    omega
/-- The longest length up to l. -/
def lngI (lens : List Int) (l i g : Nat) : Nat := if (idxL lens l i).length = 0 then g else l
def lngT (lens : List Int) : Nat → Nat
  | 0 => 0
  | l + 1 => lngI lens (l + 1) lens.length (lngT lens l)
theorem lngI_zero (lens : List Int) (l g : Nat) : lngI lens l 0 g = g := rfl
theorem lngI_hit (lens : List Int) (l i g : Nat) (h : lens.getD i 0 = (l : Int)) : lngI lens l (i + 1) g = l := by
  unfold lngI
  rw [idxL_succ, if_pos h, List.length_append]
  exact if_neg (by simp)
theorem lngI_miss (lens : List Int) (l i g : Nat) (h : ¬ lens.getD i 0 = (l : Int)) : lngI lens l (i + 1) g = lngI lens l i g := by
  unfold lngI
  rw [idxL_succ, if_neg h, List.append_nil]
/-- The first word behind those of the lengths up to l. -/
def eT (f : Nat → Int) (l : Nat) : Int := if l = 0 then 0 else nxt f l + f l
theorem eT_next (f : Nat → Int) (l : Nat) : nxt f (l + 1) = 2 * eT f l := by
  unfold eT
  show (if l = 0 then 0 else 2 * (nxt f l + f l)) = _
  split <;> omega
theorem eT_succ (f : Nat → Int) (l : Nat) : eT f (l + 1) = 2 * eT f l + f (l + 1) := by
  rw [← eT_next]
  exact if_neg (by omega)
/-- How many words of each length. -/
def cF (lens : List Int) (k : Nat) : Int := cntL lens k
def bitI (s : ByteArray) (a : Nat) : Int := ((nb (sbit s) a 1 : Nat) : Int)
/-- What Symbol tells: the symbol, the error, the place behind it. -/
def symS (lens : List Int) (s : ByteArray) : Nat → Nat → Int → Nat → Int × Int × Nat
  | 0, _, _, a => (0, 30, a)
  | d + 1, l, word, a =>
    if 8 * s.size < a + 1 then (0, 5, a) else
    if 2 * word + bitI s a < eT (cF lens) l then ((symsT lens 15).getD ((symsT lens (l - 1)).length + (2 * word + bitI s a - 2 * eT (cF lens) (l - 1)).toNat) 0, 0, a + 1) else
    if l < lngT lens 15 ∧ (2 * word + bitI s a) * 2 ^ (lngT lens 15 - l) < eT (cF lens) (lngT lens 15) then symS lens s d (l + 1) (2 * word + bitI s a) (a + 1) else (0, 30, a + 1)
/-- What Symbol tells from a place on. -/
def symF (lens : List Int) (s : ByteArray) (a : Nat) : Int × Int × Nat := symS lens s 15 1 0 a
end Go.Proofs.Ytaghmhcccighgaa.HF
end
