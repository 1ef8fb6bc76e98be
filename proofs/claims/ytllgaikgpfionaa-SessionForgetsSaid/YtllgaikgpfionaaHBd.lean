/- A strings.Builder of the call's own: what is written, what it tells. -/
import Derived.Test.YtllgaikgpfionaaHFr
import Derived.Test.YtllgaikgpfionaaShelf
import Derived.Test.YtllgaikgpfionaaFnx1
import Derived.Test.YtllgaikgpfionaaPVar
import Derived.Outline
import Derived.Laws.Externs
namespace Go.Proofs.Ytllgaikgpfionaa.HB
open Go.RowKit Go.Proofs.YtllgaikgpfionaaW.PrintWords Go.Proofs.YtllgaikgpfionaaW.PrintLast Go.Proofs.YtllgaikgpfionaaW.PrintMore Go.Proofs.Ytllgaikgpfionaa.MB Go.Proofs.Ytllgaikgpfionaa.HW Go.Proofs.Ytllgaikgpfionaa.Fn Go.Proofs.Ytllgaikgpfionaa.PV
attribute [local go_sem] max2_int min2_int max_two min_two max_three min_three max_four min_four   -- for this text's walks alone
/-- Block g: a builder; p: nil, or itself; v: its row; s: its bytes. -/
structure BdAt (W : World) (B g : Nat) (p v : Value) (s : ByteArray) : Prop where
  blk : W.heap[g]? = some (.cells #[p, v] 77 (0, 0))
  ge : B ≤ g
  own : W.ownsRow B 5 1 v (bytesOf s).length (nums .u8 (bytesOf s))
def Me (g : Nat) : Value := .pointer (some ⟨g, 0, none⟩)
def IsBd (W : World) (B g : Nat) (s : ByteArray) : Prop := ∃ p v, (p = .pointer none ∨ p = Me g) ∧ BdAt W B g p v s
theorem BdAt.ne {W : World} {B g : Nat} {p v : Value} {s : ByteArray} (h : BdAt W B g p v s) : some g ≠ v.ownBlock := own_ne h.own h.blk (by decide)
theorem BdAt.lt {W : World} {B g : Nat} {p v : Value} {s : ByteArray} (h : BdAt W B g p v s) : g < W.heap.size := blk_lt h.blk
theorem BdAt.below {W W1 : World} {B g : Nat} {p v : Value} {s : ByteArray} (h : BdAt W B g p v s) (hb : Below W.heap.size W W1) : BdAt W1 B g p v s :=
  ⟨(hb.block g h.lt).trans h.blk, h.ge, pw_own_below h.own hb⟩
theorem IsBd.below {W W1 : World} {B g : Nat} {s : ByteArray} (h : IsBd W B g s) (hb : Below W.heap.size W W1) : IsBd W1 B g s := by
  obtain ⟨p, v, hp, h⟩ := h
  exact ⟨p, v, hp, h.below hb⟩
theorem IsBd.lt {W : World} {B g : Nat} {s : ByteArray} (h : IsBd W B g s) : g < W.heap.size := by
  obtain ⟨p, v, hp, h⟩ := h
  exact h.lt
theorem IsBd.drewN {W : World} {B g : Nat} {s : ByteArray} (h : IsBd W B g s) (n : Nat) : IsBd (W.drewN n) B g s := h.below (pw_below_drewN (Below.refl _ _) n)
/-- A store into a block of another type. -/
theorem IsBd.far {W : World} {B g : Nat} {s : ByteArray} (h : IsBd W B g s) {t : TypeId} {cs : Array Value} {q : Nat} (hq : W.heap[q]? = some (.cells cs t (0, 0))) (h1 : t ≠ 77) (h2 : 5 ≠ t) (i : Nat) (u : Value) : IsBd (W.setCell ⟨q, i, none⟩ u) B g s := by
  obtain ⟨p, v, hp, h⟩ := h
  refine ⟨p, v, hp, blk_far h.blk ?_ u, h.ge, own_setCell h.own (p := ⟨q, i, none⟩) (own_ne h.own hq h2) u⟩
  exact fun e => blk_ne h.blk hq h1.symm e
/-- Blocks of other types are as they were. -/
def KeepT (w w' : World) : Prop := ∀ (k : Nat) (cs : Array Value) (t : TypeId) (fr : Nat × Nat), w.heap[k]? = some (.cells cs t fr) → t ≠ 77 → t ≠ 5 → w'.heap[k]? = some (.cells cs t fr)
theorem KeepT.refl (w : World) : KeepT w w := fun _ _ _ _ h _ _ => h
theorem KeepT.trans {a b c : World} (h : KeepT a b) (k : KeepT b c) : KeepT a c := fun i cs t fr hb h1 h2 => k i cs t fr (h i cs t fr hb h1 h2) h1 h2
theorem KeepT.of_below {a b : World} (h : Below a.heap.size a b) : KeepT a b := fun i cs t fr hb _ _ => (h.block i (blk_lt hb)).trans hb
theorem KeepT.set_ {a b : World} (h : KeepT a b) {g : Nat} {cs : Array Value} {fr : Nat × Nat} (hg : b.heap[g]? = some (.cells cs 77 fr)) (i : Nat) (u : Value) : KeepT a (b.setCell ⟨g, i, none⟩ u) := fun k cs' t fr' hb h1 h2 => by
  have h3 := h k cs' t fr' hb h1 h2
  refine (Below.heap_setCell b ⟨g, i, none⟩ u k (fun e => ?_)).trans h3
  subst e
  rw [hg] at h3
  injection h3 with h3
  injection h3 with _ h4
  exact h1 h4.symm
theorem KeepT.grown {a b c : World} (h : KeepT a b) {base n : Nat} {v : Value} {xs : List Value} (ho : b.ownsRow base 5 1 v n xs) (hg : b.grownBy c v.ownBlock) : KeepT a c := fun k cs t fr hb h1 h2 => by
  have h3 := h k cs t fr hb h1 h2
  refine (hg.block k (blk_lt h3) (fun e => ?_)).trans h3
  obtain ⟨cells, hc⟩ := own_typed ho k e.symm
  rw [hc] at h3
  injection h3 with h3
  injection h3 with _ h4
  exact h2 h4.symm
set_option maxHeartbeats 1000000 in
set_option maxRecDepth 100000 in
theorem copyCheck_any (B g : Nat) (s : ByteArray) (w : World) (h : IsBd w B g s) : Calls Try.prog 43 #[.pointer (some ⟨g, 0, none⟩)] w fun e w' => e = .returned (.tuple #[]) ∧ (∃ v, BdAt w' B g (Me g) v s) ∧ Below B w w' ∧ KeepT w w' := by
  obtain ⟨p, v, hp, h⟩ := h
  have hj : ∃ j, Try.prog.info? 77 = some j ∧ j.size = 2 := Option.map_eq_some_iff.1 (by kernel_rfl : (Try.prog.info? 77).map (fun i => i.size) = some 2)
  obtain ⟨j, hj, hjs⟩ := hj
  have hsh : w.shape? g = some (77, 2) := by simp [World.shape?, h.blk]
  have h0 : w.cell? ⟨g, 0, none⟩ = some p := (blk_cell h.blk 0).trans rfl
  have hfz := blk_frozen h.blk 0
  have H := Aside0.mk h
  clear h
  rcases hp with rfl | rfl
  · go_enter Try.func43, Try.ntmps43
    go_wp2
    rw [Lib.run_to_unsafe w ⟨g, 0, none⟩ Try.underlying75 Try.underlying91 hj (by rw [hjs]; decide) hsh (Nat.zero_lt_succ 1)]
    simp only [Result.andThen]
    rw [Oper.upon_value]
    go_wp2
    rw [run_callFunc_extern Try.func44 (by kernel_rfl) (by kernel_rfl) (by kernel_rfl) (e := Extern.AbiNoEscape.same) (by kernel_rfl)]
    rw [Lib.run_noEscape]
    simp only [Result.andThen]
    rw [Oper.upon_value]
    go_wp2
    rw [Lib.run_from_unsafe w ⟨g, 0, none⟩ Try.underlying91 Try.underlying75 hj hsh (by kernel_rfl)]
    simp only [Result.andThen]
    rw [Oper.upon_value]
    go_wp2
    go_end0
    refine ⟨rfl, ⟨v, ?_, H.out.ge, own_setCell H.out.own (p := ⟨g, 0, none⟩) H.out.ne _⟩, (Below.refl _ _).setCell (p := ⟨g, 0, none⟩) H.out.ge _, (KeepT.refl _).set_ H.out.blk 0 _⟩
    have := blk_set H.out.blk 0 (Me g)
    unfold Me at this ⊢
    simpa using this
  · unfold Me at h0
    go_enter Try.func43, Try.ntmps43
    go_wp2
    rw [Lib.run_neq_ptr_same w _ Try.underlying75 hj]
    go_wp2
    go_end0
    exact ⟨rfl, ⟨v, H.out⟩, Below.refl _ _, KeepT.refl _⟩
theorem bytesOf_app (s t : ByteArray) : bytesOf (s ++ t) = bytesOf s ++ bytesOf t := by simp [bytesOf]
set_option maxHeartbeats 1000000 in
set_option maxRecDepth 100000 in
theorem writeString (B g : Nat) (s t : ByteArray) (w : World) (h : IsBd w B g s) (hB : B ≤ w.heap.size) (hl : s.size + t.size ≤ 140737488355328) :
    Calls Try.prog 37 #[.pointer (some ⟨g, 0, none⟩), .string t] w fun e w' => e = .returned (.tuple #[.int .i64 t.size, .nilIface]) ∧ IsBd w' B g (s ++ t) ∧ Below B w w' ∧ KeepT w w' := by
  have H := Aside0.mk h
  have HB := Aside0.mk hB
  have HL := Aside0.mk hl
  clear h hB hl
  go_enter Try.func37, Try.ntmps37
  go_wp2_with fail
  refine (copyCheck_any B g s _ H.out).mono ?_
  rintro e w1 ⟨rfl, ⟨v, h1⟩, hb, hk⟩
  have HKT := Aside0.mk hk
  clear hk
  have H1 := Aside0.mk h1
  have HB1 := Aside0.mk hb
  have hc1 : w1.cell? ⟨g, 1, none⟩ = some v := (blk_cell h1.blk 1).trans rfl
  clear h1 hb
  go_wp2_with (at_builtin; refine app_str B rfl (.tmp 12) (.tmp 13) 46 9 5 rfl Try.underlying46 Try.underlying9 info5 v (bytesOf s) t rfl rfl H1.out.own (Nat.le_trans HB.out HB1.out.size) ?hl ?_; (case hl => (rw [bytesOf_length]; exact HL.out)); intro v1 w2 ho hg hat; rw [← bytesOf_app] at ho; obtain ⟨L, hL⟩ : ∃ L, (bytesOf (s ++ t)).length = L := ⟨_, rfl⟩; rw [hL] at ho; have HLL := Aside0.mk hL; clear hL; obtain ⟨A1, c1, hv1⟩ := own_slice ho; subst hv1; have hk1 : w2.heap[g]? = _ := blk_grown H1.out.blk hg H1.out.ne; have hx1 : w2.cell? ⟨g, 1, none⟩ = some v := (blk_cell hk1 1).trans rfl; have hx2 := blk_frozen hk1 1; have HO := Aside0.mk ho; have HG := Aside0.mk hg; have HK := Aside0.mk hk1; clear ho hg hat hk1)
  go_ret2
  have f1 : (w2.setCell ⟨g, 1, none⟩ (.slice A1 L c1)).heap[g]? = some (.cells #[Me g, .slice A1 L c1] 77 (0, 0)) := by
    have := blk_set HK.out 1 (.slice A1 L c1)
    simpa using this
  have f2 := own_setCell HO.out (p := ⟨g, 1, none⟩) (own_ne HO.out HK.out (by decide)) (.slice A1 L c1)
  refine ⟨rfl, ⟨Me g, .slice A1 L c1, Or.inr rfl, f1, H1.out.ge, by rw [HLL.out]; exact f2⟩, ?_, (HKT.out.grown H1.out.own HG.out).set_ HK.out 1 _⟩
  exact (HB1.out.grown HG.out (Nat.le_trans HB.out HB1.out.size) (fun k hk => own_base H1.out.own k hk)).setCell (p := ⟨g, 1, none⟩) H1.out.ge _
set_option maxHeartbeats 1000000 in
theorem number_any (B g : Nat) (s : ByteArray) (n : Nat) (w : World) (h : IsBd w B g s) (hB : B ≤ w.heap.size) (hn : n < 2 ^ 63) (hl : s.size ≤ 100000000000000) :
    Calls Try.prog 36 #[.pointer (some ⟨g, 0, none⟩), .int .i64 n] w fun e w' => e = .returned (.tuple #[]) ∧ IsBd w' B g (s ++ strOfNums (pv n)) ∧ Below B w w' ∧ KeepT w w' := by
  have hp := putvar_nat n hn
  have hl9 : (pv n).length ≤ 9 := pv_len 8 n (Nat.lt_of_lt_of_le hn (by decide))
  have hsz : (strOfNums (pv n)).size = (pv n).length := by simp [strOfNums, ByteArray.size]
  have HP := Aside0.mk hp
  have HL := Aside0.mk (show s.size + (strOfNums (pv n)).size ≤ 140737488355328 by omega)
  have H := Aside0.mk h
  have HB := Aside0.mk hB
  clear h hB hn hl hp hl9 hsz
  generalize strOfNums (pv n) = t at HP HL
  go_enter Try.func36, Try.ntmps36
  go_wp2_with fail
  refine (bits_PutVar.calls 10 n _ _ _ HP.out).mono ?_
  rintro e w1 ⟨rfl, hb⟩
  have H1 := Aside0.mk (H.out.below hb)
  have HB1 := Aside0.mk (hb.mono HB.out)
  have HK1 := Aside0.mk (KeepT.of_below hb)
  clear hb
  go_wp2_with fail
  refine (writeString B g s t _ H1.out (Nat.le_trans HB.out HB1.out.size) HL.out).mono ?_
  rintro e w2 ⟨rfl, h2, hb2, hk2⟩
  have H2 := Aside0.mk h2
  have HB2 := Aside0.mk hb2
  have HK2 := Aside0.mk hk2
  clear h2 hb2 hk2
  go_wp2
  go_end0
  exact ⟨rfl, H2.out, HB1.out.trans HB2.out, HK1.out.trans HK2.out⟩
theorem string_any (B g : Nat) (s : ByteArray) (w : World) (h : IsBd w B g s) (hB : B ≤ w.heap.size) :
    Calls Try.prog 38 #[.pointer (some ⟨g, 0, none⟩)] w fun e w' => e = .returned (.string s) ∧ Below B w w' := by
  obtain ⟨p, v, hp, h⟩ := h
  have e1 : nums .u8 (bytesOf s) = Lib.byteCells s.data.toList := by simp [nums, bytesOf, Lib.byteCells]
  have hl : (bytesOf s).length = (Lib.byteCells s.data.toList).length := by rw [bytesOf_length, Lib.byteCells_length, data_length]
  have hat : Lib.BuilderAt 77 5 B g p (Lib.byteCells s.data.toList) w := ⟨h.ge, v, h.blk, by rw [← e1, nums_length]; exact h.own, fun e => h.ne e.symm⟩
  have his : Lib.IsBuilder 77 5 B g (Lib.byteCells s.data.toList) w := by
    rcases hp with rfl | rfl
    · exact Or.inl hat
    · exact Or.inr hat
  refine (Try.Builder_String_any B g s.data.toList w his hB).mono ?_
  rintro e w' ⟨rfl, hb⟩
  exact ⟨by simp, hb⟩
end Go.Proofs.Ytllgaikgpfionaa.HB
