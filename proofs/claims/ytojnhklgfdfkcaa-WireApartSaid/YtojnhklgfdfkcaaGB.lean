/- A strings.Builder of the call's own: what is written, what it tells. record.Bytes: what it comes to. record.Of: what it comes to. -/
import Derived.Test.YtojnhklgfdfkcaaGA
import Derived.Test.YtojnhklgfdfkcaaShelf
import Derived.Test.YtojnhklgfdfkcaaFnx2
import Derived.Outline
import Derived.Laws.Externs
namespace Go.Proofs.Ytojnhklgfdfkcaa.HB
open Go.RowKit Go.Proofs.YtojnhklgfdfkcaaW.PrintWords Go.Proofs.YtojnhklgfdfkcaaW.PrintLast Go.Proofs.YtojnhklgfdfkcaaW.PrintMore Go.Proofs.Ytojnhklgfdfkcaa.MB Go.Proofs.Ytojnhklgfdfkcaa.HW Go.Proofs.Ytojnhklgfdfkcaa.Fn Go.Proofs.Ytojnhklgfdfkcaa.PV
attribute [local go_sem] max2_int min2_int max_two min_two max_three min_three max_four min_four   -- for this text's walks alone
/-- Block g: a builder; p: nil, or itself; v: its row; s: its bytes. -/
structure BdAt (W : World) (B g : Nat) (p v : Value) (s : ByteArray) : Prop where
  blk : W.heap[g]? = some (.cells #[p, v] 43 (0, 0))
  ge : B ≤ g
  own : W.ownsRow B 5 1 v (bytesOf s).length (nums .u8 (bytesOf s))
def Me (g : Nat) : Value := .pointer (some ⟨g, 0, none⟩)
def IsBd (W : World) (B g : Nat) (s : ByteArray) : Prop := ∃ p v, (p = .pointer none ∨ p = Me g) ∧ BdAt W B g p v s
theorem BdAt.ne {W : World} {B g : Nat} {p v : Value} {s : ByteArray} (h : BdAt W B g p v s) : some g ≠ v.ownBlock := own_ne h.own h.blk (by decide)
theorem BdAt.lt {W : World} {B g : Nat} {p v : Value} {s : ByteArray} (h : BdAt W B g p v s) : g < W.heap.size := blk_lt h.blk
theorem BdAt.below {W W1 : World} {B g : Nat} {p v : Value} {s : ByteArray} (h : BdAt W B g p v s) (hb : Below W.heap.size W W1) : BdAt W1 B g p v s :=
  ⟨(hb.block g h.lt).trans h.blk, h.ge, pw_own_below h.own hb⟩
theorem IsBd.below {W W1 : World} {B g : Nat} {s : ByteArray} (h : IsBd W B g s) (hb : Below W.heap.size W W1) : IsBd W1 B g s := by
  obtain ⟨p, v, hp, h⟩ := h
  exact ⟨p, v, hp, h.below hb⟩
theorem IsBd.lt {W : World} {B g : Nat} {s : ByteArray} (h : IsBd W B g s) : g < W.heap.size := by
  obtain ⟨p, v, hp, h⟩ := h
  exact h.lt
theorem IsBd.drewN {W : World} {B g : Nat} {s : ByteArray} (h : IsBd W B g s) (n : Nat) : IsBd (W.drewN n) B g s := h.below (pw_below_drewN (Below.refl _ _) n)
/-- A store into a block of another type. -/
theorem IsBd.far {W : World} {B g : Nat} {s : ByteArray} (h : IsBd W B g s) {t : TypeId} {cs : Array Value} {q : Nat} (hq : W.heap[q]? = some (.cells cs t (0, 0))) (h1 : t ≠ 43) (h2 : 5 ≠ t) (i : Nat) (u : Value) : IsBd (W.setCell ⟨q, i, none⟩ u) B g s := by
  obtain ⟨p, v, hp, h⟩ := h
  refine ⟨p, v, hp, blk_far h.blk ?_ u, h.ge, own_setCell h.own (p := ⟨q, i, none⟩) (own_ne h.own hq h2) u⟩
  exact fun e => blk_ne h.blk hq h1.symm e
/-- Blocks of other types are as they were. -/
def KeepT (w w' : World) : Prop := ∀ (k : Nat) (cs : Array Value) (t : TypeId) (fr : Nat × Nat), w.heap[k]? = some (.cells cs t fr) → t ≠ 43 → t ≠ 5 → w'.heap[k]? = some (.cells cs t fr)
theorem KeepT.refl (w : World) : KeepT w w := fun _ _ _ _ h _ _ => h
theorem KeepT.trans {a b c : World} (h : KeepT a b) (k : KeepT b c) : KeepT a c := fun i cs t fr hb h1 h2 => k i cs t fr (h i cs t fr hb h1 h2) h1 h2
theorem KeepT.of_below {a b : World} (h : Below a.heap.size a b) : KeepT a b := fun i cs t fr hb _ _ => (h.block i (blk_lt hb)).trans hb
theorem KeepT.set_ {a b : World} (h : KeepT a b) {g : Nat} {cs : Array Value} {fr : Nat × Nat} (hg : b.heap[g]? = some (.cells cs 43 fr)) (i : Nat) (u : Value) : KeepT a (b.setCell ⟨g, i, none⟩ u) := fun k cs' t fr' hb h1 h2 => by
  have h3 := h k cs' t fr' hb h1 h2
  refine (Below.heap_setCell b ⟨g, i, none⟩ u k (fun e => ?_)).trans h3
  subst e
  rw [hg] at h3
  injection h3 with h3
  injection h3 with _ h4
  exact h1 h4.symm
theorem KeepT.grown {a b c : World} (h : KeepT a b) {base n : Nat} {v : Value} {xs : List Value} (ho : b.ownsRow base 5 1 v n xs) (hg : b.grownBy c v.ownBlock) : KeepT a c := fun k cs t fr hb h1 h2 => by
  have h3 := h k cs t fr hb h1 h2
  refine (hg.block k (blk_lt h3) (fun e => ?_)).trans h3
  obtain ⟨cells, hc⟩ := own_typed ho k e.symm
  rw [hc] at h3
  injection h3 with h3
  injection h3 with _ h4
  exact h2 h4.symm
set_option maxHeartbeats 1000000 in
set_option maxRecDepth 100000 in
theorem copyCheck_any (B g : Nat) (s : ByteArray) (w : World) (h : IsBd w B g s) : Calls Try.prog 35 #[.pointer (some ⟨g, 0, none⟩)] w fun e w' => e = .returned (.tuple #[]) ∧ (∃ v, BdAt w' B g (Me g) v s) ∧ Below B w w' ∧ KeepT w w' := by
  obtain ⟨p, v, hp, h⟩ := h
  have hj : ∃ j, Try.prog.info? 43 = some j ∧ j.size = 2 := Option.map_eq_some_iff.1 (by kernel_rfl : (Try.prog.info? 43).map (fun i => i.size) = some 2)
  obtain ⟨j, hj, hjs⟩ := hj
  have hsh : w.shape? g = some (43, 2) := by simp [World.shape?, h.blk]
  have h0 : w.cell? ⟨g, 0, none⟩ = some p := (blk_cell h.blk 0).trans rfl
  have hfz := blk_frozen h.blk 0
  have H := Aside0.mk h
  clear h
  rcases hp with rfl | rfl
  · go_enter Try.func35, Try.ntmps35
    go_wp2
    rw [Lib.run_to_unsafe w ⟨g, 0, none⟩ Try.underlying41 Try.underlying80 hj (by rw [hjs]; decide) hsh (Nat.zero_lt_succ 1)]
    simp only [Result.andThen]
    rw [Oper.upon_value]
    go_wp2
    rw [run_callFunc_extern Try.func44 (by kernel_rfl) (by kernel_rfl) (by kernel_rfl) (e := Extern.AbiNoEscape.same) (by kernel_rfl)]
    rw [Lib.run_noEscape]
    simp only [Result.andThen]
    rw [Oper.upon_value]
    go_wp2
    rw [Lib.run_from_unsafe w ⟨g, 0, none⟩ Try.underlying80 Try.underlying41 hj hsh (by kernel_rfl)]
    simp only [Result.andThen]
    rw [Oper.upon_value]
    go_wp2
    go_end0
    refine ⟨rfl, ⟨v, ?_, H.out.ge, own_setCell H.out.own (p := ⟨g, 0, none⟩) H.out.ne _⟩, (Below.refl _ _).setCell (p := ⟨g, 0, none⟩) H.out.ge _, (KeepT.refl _).set_ H.out.blk 0 _⟩
    have := blk_set H.out.blk 0 (Me g)
    unfold Me at this ⊢
    simpa using this
  · unfold Me at h0
    go_enter Try.func35, Try.ntmps35
    go_wp2
    rw [Lib.run_neq_ptr_same w _ Try.underlying41 hj]
    go_wp2
    go_end0
    exact ⟨rfl, ⟨v, H.out⟩, Below.refl _ _, KeepT.refl _⟩
theorem bytesOf_app (s t : ByteArray) : bytesOf (s ++ t) = bytesOf s ++ bytesOf t := by simp [bytesOf]
set_option maxHeartbeats 1000000 in
set_option maxRecDepth 100000 in
theorem writeString (B g : Nat) (s t : ByteArray) (w : World) (h : IsBd w B g s) (hB : B ≤ w.heap.size) (hl : s.size + t.size ≤ 140737488355328) :
    Calls Try.prog 19 #[.pointer (some ⟨g, 0, none⟩), .string t] w fun e w' => e = .returned (.tuple #[.int .i64 t.size, .nilIface]) ∧ IsBd w' B g (s ++ t) ∧ Below B w w' ∧ KeepT w w' := by
  have H := Aside0.mk h
  have HB := Aside0.mk hB
  have HL := Aside0.mk hl
  clear h hB hl
  go_enter Try.func19, Try.ntmps19
  go_wp2_with fail
  refine (copyCheck_any B g s _ H.out).mono ?_
  rintro e w1 ⟨rfl, ⟨v, h1⟩, hb, hk⟩
  have HKT := Aside0.mk hk
  clear hk
  have H1 := Aside0.mk h1
  have HB1 := Aside0.mk hb
  have hc1 : w1.cell? ⟨g, 1, none⟩ = some v := (blk_cell h1.blk 1).trans rfl
  clear h1 hb
  go_wp2_with (at_builtin; refine app_str B rfl (.tmp 12) (.tmp 13) 38 9 5 rfl Try.underlying38 Try.underlying9 info5 v (bytesOf s) t rfl rfl H1.out.own (Nat.le_trans HB.out HB1.out.size) ?hl ?_; (case hl => (rw [bytesOf_length]; exact HL.out)); intro v1 w2 ho hg hat; rw [← bytesOf_app] at ho; obtain ⟨L, hL⟩ : ∃ L, (bytesOf (s ++ t)).length = L := ⟨_, rfl⟩; rw [hL] at ho; have HLL := Aside0.mk hL; clear hL; obtain ⟨A1, c1, hv1⟩ := own_slice ho; subst hv1; have hk1 : w2.heap[g]? = _ := blk_grown H1.out.blk hg H1.out.ne; have hx1 : w2.cell? ⟨g, 1, none⟩ = some v := (blk_cell hk1 1).trans rfl; have hx2 := blk_frozen hk1 1; have HO := Aside0.mk ho; have HG := Aside0.mk hg; have HK := Aside0.mk hk1; clear ho hg hat hk1)
  go_ret2
  have f1 : (w2.setCell ⟨g, 1, none⟩ (.slice A1 L c1)).heap[g]? = some (.cells #[Me g, .slice A1 L c1] 43 (0, 0)) := by
    have := blk_set HK.out 1 (.slice A1 L c1)
    simpa using this
  have f2 := own_setCell HO.out (p := ⟨g, 1, none⟩) (own_ne HO.out HK.out (by decide)) (.slice A1 L c1)
  refine ⟨rfl, ⟨Me g, .slice A1 L c1, Or.inr rfl, f1, H1.out.ge, by rw [HLL.out]; exact f2⟩, ?_, (HKT.out.grown H1.out.own HG.out).set_ HK.out 1 _⟩
  exact (HB1.out.grown HG.out (Nat.le_trans HB.out HB1.out.size) (fun k hk => own_base H1.out.own k hk)).setCell (p := ⟨g, 1, none⟩) H1.out.ge _
set_option maxHeartbeats 1000000 in
theorem number_any (B g : Nat) (s : ByteArray) (n : Nat) (w : World) (h : IsBd w B g s) (hB : B ≤ w.heap.size) (hn : n < 2 ^ 63) (hl : s.size ≤ 100000000000000) :
    Calls Try.prog 36 #[.pointer (some ⟨g, 0, none⟩), .int .i64 n] w fun e w' => e = .returned (.tuple #[]) ∧ IsBd w' B g (s ++ strOfNums (pv n)) ∧ Below B w w' ∧ KeepT w w' := by
  have hp := putvar_nat n hn
  have hl9 : (pv n).length ≤ 9 := pv_len 8 n (Nat.lt_of_lt_of_le hn (by decide))
  have hsz : (strOfNums (pv n)).size = (pv n).length := by simp [strOfNums, ByteArray.size]
  have HP := Aside0.mk hp
  have HL := Aside0.mk (show s.size + (strOfNums (pv n)).size ≤ 140737488355328 by omega)
  have H := Aside0.mk h
  have HB := Aside0.mk hB
  clear h hB hn hl hp hl9 hsz
  generalize strOfNums (pv n) = t at HP HL
  go_enter Try.func36, Try.ntmps36
  go_wp2_with fail
  refine (bits_PutVar.calls 10 n _ _ _ HP.out).mono ?_
  rintro e w1 ⟨rfl, hb⟩
  have H1 := Aside0.mk (H.out.below hb)
  have HB1 := Aside0.mk (hb.mono HB.out)
  have HK1 := Aside0.mk (KeepT.of_below hb)
  clear hb
  go_wp2_with fail
  refine (writeString B g s t _ H1.out (Nat.le_trans HB.out HB1.out.size) HL.out).mono ?_
  rintro e w2 ⟨rfl, h2, hb2, hk2⟩
  have H2 := Aside0.mk h2
  have HB2 := Aside0.mk hb2
  have HK2 := Aside0.mk hk2
  clear h2 hb2 hk2
  go_wp2
  go_end0
  exact ⟨rfl, H2.out, HB1.out.trans HB2.out, HK1.out.trans HK2.out⟩
theorem string_any (B g : Nat) (s : ByteArray) (w : World) (h : IsBd w B g s) (hB : B ≤ w.heap.size) :
    Calls Try.prog 23 #[.pointer (some ⟨g, 0, none⟩)] w fun e w' => e = .returned (.string s) ∧ Below B w w' := by
  obtain ⟨p, v, hp, h⟩ := h
  have e1 : nums .u8 (bytesOf s) = Lib.byteCells s.data.toList := by simp [nums, bytesOf, Lib.byteCells]
  have hl : (bytesOf s).length = (Lib.byteCells s.data.toList).length := by rw [bytesOf_length, Lib.byteCells_length, data_length]
  have hat : Lib.BuilderAt 43 5 B g p (Lib.byteCells s.data.toList) w := ⟨h.ge, v, h.blk, by rw [← e1, nums_length]; exact h.own, fun e => h.ne e.symm⟩
  have his : Lib.IsBuilder 43 5 B g (Lib.byteCells s.data.toList) w := by
    rcases hp with rfl | rfl
    · exact Or.inl hat
    · exact Or.inr hat
  refine (Try.Builder_String_any B g s.data.toList w his hB).mono ?_
  rintro e w' ⟨rfl, hb⟩
  exact ⟨by simp, hb⟩
end Go.Proofs.Ytojnhklgfdfkcaa.HB
namespace Go.Proofs.Ytojnhklgfdfkcaa.RB
open Go.RowKit Go.Proofs.YtojnhklgfdfkcaaW.PrintWords Go.Proofs.YtojnhklgfdfkcaaW.PrintLast Go.Proofs.YtojnhklgfdfkcaaW.PrintMore Go.Proofs.Ytojnhklgfdfkcaa.MB Go.Proofs.Ytojnhklgfdfkcaa.HW Go.Proofs.Ytojnhklgfdfkcaa.Fn Go.Proofs.Ytojnhklgfdfkcaa.PV Go.Proofs.Ytojnhklgfdfkcaa.HB
attribute [local go_sem] max2_int min2_int max_two min_two max_three min_three max_four min_four   -- for this text's walks alone
/-- May a record be? -/
def okRec (r : S63) : Bool := decide (0 ≤ r.f0) && decide (r.f0 < 1099511627776) && decide (r.f1.size ≤ 64) && decide (r.f2.size ≤ 4096) && (!r.f3 || decide (r.f2.size = 0))
def vs (n : Nat) : ByteArray := strOfNums (pv n)
/-- A record's bytes. -/
def recB (d : Nat) (r : S63) : ByteArray := ((vs d ++ vs r.f1.size) ++ r.f1) ++ (if r.f3 then vs 0 else vs (r.f2.size + 1) ++ r.f2)
def rgo (base : Int) : List S63 → Int → ByteArray → ByteArray × Int
  | [], _, acc => (acc, 0)
  | r :: t, next, acc => if okRec r = true ∧ next ≤ r.f0 then rgo base t (r.f0 + 1) (acc ++ recB (r.f0 - base).toNat r) else (⟨#[]⟩, 90)
def recBytes (l : List S63) (base : Int) : Option (ByteArray × Int) :=
  if base < 0 ∨ 1099511627776 ≤ base then some (⟨#[]⟩, 90) else if l.length ≤ 1000000000 then some (rgo base l base ⟨#[]⟩) else none
theorem okRec_iff (r : S63) : okRec r = true ↔ 0 ≤ r.f0 ∧ r.f0 < 1099511627776 ∧ r.f1.size ≤ 64 ∧ r.f2.size ≤ 4096 ∧ (r.f3 = true → r.f2.size = 0) := by
  unfold okRec
  cases r.f3 <;> simp [Bool.and_eq_true, and_assoc]
theorem toList_nil_iff (s : ByteArray) : s.toList = ([] : List UInt8) ↔ s.size = 0 := by
  rw [Lib.toList_data, ← data_length]
  exact List.length_eq_zero_iff.symm
theorem check_ok (r : S63) : record_Check.f r.f0 r.f1 r.f2 r.f3 = some (if okRec r = true then 0 else 90) := by
  unfold record_Check.f
  by_cases h : okRec r = true
  · rw [if_pos h]
    obtain ⟨h1, h2, h3, h4, h5⟩ := (okRec_iff r).1 h
    rw [if_neg (by omega), if_neg (by omega), if_neg (by omega), if_neg (by omega)]
    by_cases h6 : r.f3 = true
    · rw [if_pos h6, if_pos ((toList_nil_iff _).2 (h5 h6))]
    · rw [if_neg h6]
  · rw [if_neg h]
    by_cases c1 : r.f0 < 0
    · rw [if_pos c1]
    · rw [if_neg c1]
      by_cases c2 : r.f0 ≥ 1099511627776
      · rw [if_pos c2]
      · rw [if_neg c2]
        by_cases c3 : (r.f1.size : Int) > 64
        · rw [if_pos c3]
        · rw [if_neg c3]
          by_cases c4 : (r.f2.size : Int) > 4096
          · rw [if_pos c4]
          · rw [if_neg c4]
            by_cases c5 : r.f3 = true
            · rw [if_pos c5, if_neg]
              intro c6
              exact h ((okRec_iff r).2 ⟨by omega, by omega, by omega, by omega, fun _ => (toList_nil_iff _).1 c6⟩)
            · exact absurd ((okRec_iff r).2 ⟨by omega, by omega, by omega, by omega, fun c6 => absurd c6 c5⟩) h
theorem vs_size (n : Nat) (h : n < 2 ^ 63) : (vs n).size ≤ 9 := by
  have hl9 : (pv n).length ≤ 9 := pv_len 8 n (Nat.lt_of_lt_of_le h (by decide))
  have hsz : (strOfNums (pv n)).size = (pv n).length := by simp [strOfNums, ByteArray.size]
  unfold vs
  omega
theorem recB_size (d : Nat) (r : S63) (hd : d < 2 ^ 63) (h : okRec r = true) : (recB d r).size ≤ 4200 := by
  obtain ⟨h1, h2, h3, h4, h5⟩ := (okRec_iff r).1 h
  have a := vs_size d hd
  have b := vs_size r.f1.size (by omega)
  have c := vs_size (r.f2.size + 1) (by omega)
  have c0 := vs_size 0 (by decide)
  unfold recB
  rw [ByteArray.size_append, ByteArray.size_append, ByteArray.size_append]
  split
  · omega
  · rw [ByteArray.size_append]; omega
/-- A block that holds a record. -/
def RBlk (W : World) (q : Nat) (r : S63) : Prop := W.heap[q]? = some (.cells #[.int .i64 r.f0, .string r.f1, .string r.f2, .bool r.f3] 63 (0, 0))
theorem RBlk.keepT {W W1 : World} {q : Nat} {r : S63} (h : RBlk W q r) (hk : KeepT W W1) : RBlk W1 q r := hk q _ _ _ h (by decide) (by decide)
theorem RBlk.below {W W1 : World} {q : Nat} {r : S63} (h : RBlk W q r) (hb : Below W.heap.size W W1) : RBlk W1 q r := (hb.block q (blk_lt h)).trans h
theorem RBlk.c0 {W : World} {q : Nat} {r : S63} (h : RBlk W q r) : W.cell? ⟨q, 0, none⟩ = some (.int .i64 r.f0) := (blk_cell h 0).trans rfl
theorem RBlk.c1 {W : World} {q : Nat} {r : S63} (h : RBlk W q r) : W.cell? ⟨q, 1, none⟩ = some (.string r.f1) := (blk_cell h 1).trans rfl
theorem RBlk.c2 {W : World} {q : Nat} {r : S63} (h : RBlk W q r) : W.cell? ⟨q, 2, none⟩ = some (.string r.f2) := (blk_cell h 2).trans rfl
theorem RBlk.c3 {W : World} {q : Nat} {r : S63} (h : RBlk W q r) : W.cell? ⟨q, 3, none⟩ = some (.bool r.f3) := (blk_cell h 3).trans rfl
theorem bytes_bad (A0 : Option Addr) (c0 n0 : Nat) (base : Int) (w : World) (hb : base < 0 ∨ 1099511627776 ≤ base) :
    Calls Try.prog 22 #[.slice A0 n0 c0, .int .i64 base] w fun e w' => e = .returned (.tuple #[.string ⟨#[]⟩, .int .i64 90]) ∧ Below w.heap.size w w' := by
  by_cases c1 : base < 0
  · have b1 : decide (base < 0) = true := by simpa using c1
    clear c1 hb
    go_enter Try.func22, Try.ntmps22
    go_wp2
    go_ret2
    exact ⟨rfl, Below.refl _ _⟩
  · have b1 : decide (base < 0) = false := by simp; omega
    have b2 : decide (1099511627776 ≤ base) = true := by simp; omega
    clear c1 hb
    go_enter Try.func22, Try.ntmps22
    go_wp2
    go_ret2
    exact ⟨rfl, Below.refl _ _⟩
set_option maxHeartbeats 4000000 in
set_option maxRecDepth 100000 in
theorem bytes_good (A0 : Option Addr) (c0 : Nat) (l : List S63) (base : Int) (r1 : ByteArray) (r2 : Int) (w : World) (hr0 : Kd.C k63 w A0 l.length l) (h0 : 0 ≤ base) (h1 : base < 1099511627776) (hl : l.length ≤ 1000000000) (h : rgo base l base ⟨#[]⟩ = (r1, r2)) :
    Calls Try.prog 22 #[.slice A0 l.length c0, .int .i64 base] w fun e w' => e = .returned (.tuple #[.string r1, .int .i64 r2]) ∧ Below w.heap.size w w' := by
  have hu := Try.underlying43
  have hu2 := Try.underlying63
  have b1 : decide (base < 0) = false := by simp; omega
  have b2 : decide (1099511627776 ≤ base) = false := by simp; omega
  have HR := Aside0.mk hr0
  have HH := Aside0.mk h
  clear hr0 h
  go_enter Try.func22, Try.ntmps22
  go_wp2_with fail
  have HI := Aside0.mk (show IsBd (w.alloc (.cells #[.pointer none, .slice none 0 0] 43)) w.heap.size w.heap.size ⟨#[]⟩ from ⟨_, _, Or.inl rfl, heap_alloc_new w _, Nat.le_refl _, own_nil _ _ _ _⟩)
  have HB := Aside0.mk (below_alloc (Below.refl w.heap.size w) (.cells #[.pointer none, .slice none 0 0] 43))
  generalize w.alloc (.cells #[.pointer none, .slice none 0 0] 43) = w1 at HI HB ⊢
  obtain ⟨g, hg⟩ : ∃ g, w.heap.size = g := ⟨_, rfl⟩
  have HG := Aside0.mk hg
  rw [hg] at HI HB
  rw [hg]
  clear hg b1 b2 hu
  go_loopw [7, 19] (fun v7 v19 wr => ∃ (i : Nat) (acc : ByteArray) (next : Int), v7 = .int .i64 next ∧ v19 = .int .i64 i ∧ i ≤ l.length ∧ 0 ≤ next ∧ next ≤ 1099511627776 ∧ base ≤ next ∧ Aside0 (acc.size ≤ 4200 * i) ∧ Aside0 (rgo base (l.drop i) next acc = (r1, r2)) ∧ Aside0 (IsBd wr g g acc) ∧ Aside0 (Below g w wr)) (fun _ v19 _ => l.length - (intOf v19).toNat)
  case atStart => exact ⟨0, ⟨#[]⟩, base, rfl, rfl, Nat.zero_le _, h0, by omega, Int.le_refl _, ⟨Nat.zero_le _⟩, HH, HI, HB⟩
  case round =>
    clear HI HB HH
    obtain ⟨i, acc, next, rfl, rfl, hi, hn0, hn1, hnb, HS, HH, HI, HB⟩ := hrel
    by_cases hlt : i < l.length
    · have hC := Kd.C_below HR.out (w1 := wr) (by rw [HG.out]; exact HB.out)
      obtain ⟨ad, rfl, k0, k1, k2, k3⟩ := at_T63 hC (i : Int) (by omega) (by omega)
      have hdrop : l.drop i = rd_T63 l (i : Int) :: l.drop (i + 1) := by
        rw [List.drop_eq_getElem_cons hlt]
        simp [rd_T63, List.getD_eq_getElem?_getD, hlt]
      obtain ⟨r, hr⟩ : ∃ r, rd_T63 l (i : Int) = r := ⟨_, rfl⟩
      rw [hr] at k0 k1 k2 k3 hdrop
      have HD := Aside0.mk hdrop
      clear hr hdrop hC
      have hb1 : decide (next < 0) = false := by simp; omega
      simp only [Int.toNat_natCast] at k0 k1 k2 k3
      go_wp2_with fail
      have hB2 := HB.out
      have hg1 : g ≤ wr.heap.size := Nat.le_of_lt HI.out.lt
      have HA := Aside0.mk (show RBlk (wr.alloc (.cells #[.int .i64 r.f0, .string r.f1, .string r.f2, .bool r.f3] 63)) wr.heap.size r from heap_alloc_new wr _)
      have HI2 := Aside0.mk (HI.out.below (below_alloc (Below.refl _ _) (.cells #[.int .i64 r.f0, .string r.f1, .string r.f2, .bool r.f3] 63)))
      have HB2 := Aside0.mk (HB.out.trans ((below_alloc (Below.refl _ _) (.cells #[.int .i64 r.f0, .string r.f1, .string r.f2, .bool r.f3] 63)).mono hg1))
      obtain ⟨q, hq⟩ : ∃ q, wr.heap.size = q := ⟨_, rfl⟩
      rw [hq] at HA
      rw [hq]
      generalize wr.alloc (.cells #[.int .i64 r.f0, .string r.f1, .string r.f2, .bool r.f3] 63) = w2 at HA HI2 HB2 ⊢
      clear hB2 HI HB hq k0 k1 k2 k3 hg1
      refine (record_Check.calls r.f0 r.f1 r.f2 r.f3 _ _ (check_ok r)).mono ?_
      rintro e w3 ⟨rfl, hb3⟩
      have HA3 := Aside0.mk (HA.out.below hb3)
      have HI3 := Aside0.mk (HI2.out.below hb3)
      have HB3 := Aside0.mk (HB2.out.trans (hb3.mono (Nat.le_of_lt HI2.out.lt)))
      clear HA HI2 HB2 hb3
      have d0 := HA3.out.c0
      have d1 := HA3.out.c1
      have d2 := HA3.out.c2
      have d3 := HA3.out.c3
      by_cases hok : okRec r = true
      · rw [if_pos hok]
        obtain ⟨m1, m2, m3, m4, m5⟩ := (okRec_iff r).1 hok
        by_cases hnx : next ≤ r.f0
        · have hb2 : decide (r.f0 < next) = false := by simp; omega
          have hw1 : wrap64 (r.f0 + 1) = r.f0 + 1 := wrap64_id _ (by omega) (by omega)
          have hw2 : wrap64 (r.f0 - base) = ((r.f0 - base).toNat : Int) := by rw [wrap64_id _ (by omega) (by omega)]; omega
          obtain ⟨d, hd⟩ : ∃ d, (r.f0 - base).toNat = d := ⟨_, rfl⟩
          rw [hd] at hw2
          have HDD := Aside0.mk hd
          have HW := Aside0.mk (And.intro hw1 hw2)
          have HM := Aside0.mk (And.intro m3 m4)
          have HN := Aside0.mk (And.intro (And.intro m1 m2) hnx)
          have HV := Aside0.mk (show d < 2 ^ 63 ∧ r.f1.size < 2 ^ 63 ∧ r.f2.size + 1 < 2 ^ 63 by omega)
          have HI0 := Aside0.mk (show i < 1000000000 by omega)
          have HS3 := Aside0.mk (show acc.size ≤ 4200 * i from HS.out)
          have HOK := Aside0.mk hok
          clear hw1 hw2 hok hnx m5 m1 m2 m3 m4 hb1 hd HS
          go_wp2_with fail
          rw [HW.out.2]
          refine (number_any g g acc d _ HI3.out (Nat.le_of_lt HI3.out.lt) (HV.out.1) (by have := HS3.out; have := HI0.out; omega)).mono ?_
          rintro e w4 ⟨rfl, hI, hb, hk⟩
          obtain ⟨s4, hs⟩ : ∃ x, acc ++ strOfNums (pv d) = x := ⟨_, rfl⟩
          rw [hs] at hI
          have HA4 := Aside0.mk (HA3.out.keepT hk)
          have HI4 := Aside0.mk hI
          have HB4 := Aside0.mk (HB3.out.trans hb)
          have HS4 := Aside0.mk (show s4.size ≤ 4200 * i + 9 by
            rw [← hs, ByteArray.size_append]
            have := HS3.out
            have := HM.out
            have : (strOfNums (pv d)).size ≤ 9 := vs_size d HV.out.1
            have : (strOfNums (pv r.f1.size)).size ≤ 9 := vs_size r.f1.size HV.out.2.1
            have : (strOfNums (pv (r.f2.size + 1))).size ≤ 9 := vs_size (r.f2.size + 1) HV.out.2.2
            have : (strOfNums (pv 0)).size ≤ 9 := vs_size 0 (by decide)
            omega)
          have HE4 := Aside0.mk hs
          clear hI hb hk hs HA3 HI3 HB3
          clear d0 d1 d2 d3
          have d0 := HA4.out.c0
          have d1 := HA4.out.c1
          have d2 := HA4.out.c2
          have d3 := HA4.out.c3
          go_wp2_with fail
          refine (number_any g g s4 r.f1.size _ HI4.out (Nat.le_of_lt HI4.out.lt) (HV.out.2.1) (by have := HS4.out; have := HI0.out; omega)).mono ?_
          rintro e w5 ⟨rfl, hI, hb, hk⟩
          obtain ⟨s5, hs⟩ : ∃ x, s4 ++ strOfNums (pv r.f1.size) = x := ⟨_, rfl⟩
          rw [hs] at hI
          have HA5 := Aside0.mk (HA4.out.keepT hk)
          have HI5 := Aside0.mk hI
          have HB5 := Aside0.mk (HB4.out.trans hb)
          have HS5 := Aside0.mk (show s5.size ≤ 4200 * i + 18 by
            rw [← hs, ByteArray.size_append]
            have := HS4.out
            have := HM.out
            have : (strOfNums (pv d)).size ≤ 9 := vs_size d HV.out.1
            have : (strOfNums (pv r.f1.size)).size ≤ 9 := vs_size r.f1.size HV.out.2.1
            have : (strOfNums (pv (r.f2.size + 1))).size ≤ 9 := vs_size (r.f2.size + 1) HV.out.2.2
            have : (strOfNums (pv 0)).size ≤ 9 := vs_size 0 (by decide)
            omega)
          have HE5 := Aside0.mk hs
          clear hI hb hk hs HA4 HI4 HB4
          clear d0 d1 d2 d3
          have d0 := HA5.out.c0
          have d1 := HA5.out.c1
          have d2 := HA5.out.c2
          have d3 := HA5.out.c3
          go_wp2_with fail
          refine (writeString g g s5 r.f1 _ HI5.out (Nat.le_of_lt HI5.out.lt) (by have := HS5.out; have := HI0.out; have := HM.out; omega)).mono ?_
          rintro e w6 ⟨rfl, hI, hb, hk⟩
          obtain ⟨s6, hs⟩ : ∃ x, s5 ++ r.f1 = x := ⟨_, rfl⟩
          rw [hs] at hI
          have HA6 := Aside0.mk (HA5.out.keepT hk)
          have HI6 := Aside0.mk hI
          have HB6 := Aside0.mk (HB5.out.trans hb)
          have HS6 := Aside0.mk (show s6.size ≤ 4200 * i + 82 by
            rw [← hs, ByteArray.size_append]
            have := HS5.out
            have := HM.out
            have : (strOfNums (pv d)).size ≤ 9 := vs_size d HV.out.1
            have : (strOfNums (pv r.f1.size)).size ≤ 9 := vs_size r.f1.size HV.out.2.1
            have : (strOfNums (pv (r.f2.size + 1))).size ≤ 9 := vs_size (r.f2.size + 1) HV.out.2.2
            have : (strOfNums (pv 0)).size ≤ 9 := vs_size 0 (by decide)
            omega)
          have HE6 := Aside0.mk hs
          clear hI hb hk hs HA5 HI5 HB5
          clear d0 d1 d2 d3
          have d0 := HA6.out.c0
          have d1 := HA6.out.c1
          have d2 := HA6.out.c2
          have d3 := HA6.out.c3
          cases hgo : r.f3
          · rw [hgo] at d3
            have HGo := Aside0.mk hgo
            clear hgo
            have hw3 : wrap64 ((r.f2.size : Int) + 1) = ((r.f2.size + 1 : Nat) : Int) := by rw [wrap64_id _ (by have := HM.out; omega) (by have := HM.out; omega)]; omega
            have HW3 := Aside0.mk hw3
            clear hw3
            go_wp2_with fail
            rw [HW3.out]
            refine (number_any g g s6 (r.f2.size + 1) _ HI6.out (Nat.le_of_lt HI6.out.lt) (HV.out.2.2) (by have := HS6.out; have := HI0.out; omega)).mono ?_
            rintro e w8 ⟨rfl, hI, hb, hk⟩
            obtain ⟨s8, hs⟩ : ∃ x, s6 ++ strOfNums (pv (r.f2.size + 1)) = x := ⟨_, rfl⟩
            rw [hs] at hI
            have HA8 := Aside0.mk (HA6.out.keepT hk)
            have HI8 := Aside0.mk hI
            have HB8 := Aside0.mk (HB6.out.trans hb)
            have HS8 := Aside0.mk (show s8.size ≤ 4200 * i + 91 by
              rw [← hs, ByteArray.size_append]
              have := HS6.out
              have := HM.out
              have : (strOfNums (pv d)).size ≤ 9 := vs_size d HV.out.1
              have : (strOfNums (pv r.f1.size)).size ≤ 9 := vs_size r.f1.size HV.out.2.1
              have : (strOfNums (pv (r.f2.size + 1))).size ≤ 9 := vs_size (r.f2.size + 1) HV.out.2.2
              have : (strOfNums (pv 0)).size ≤ 9 := vs_size 0 (by decide)
              omega)
            have HE8 := Aside0.mk hs
            clear hI hb hk hs HA6 HI6 HB6
            clear d0 d1 d2 d3
            have d0 := HA8.out.c0
            have d1 := HA8.out.c1
            have d2 := HA8.out.c2
            have d3 := HA8.out.c3
            go_wp2_with fail
            refine (writeString g g s8 r.f2 _ HI8.out (Nat.le_of_lt HI8.out.lt) (by have := HS8.out; have := HI0.out; have := HM.out; omega)).mono ?_
            rintro e w9 ⟨rfl, hI, hb, hk⟩
            obtain ⟨s9, hs⟩ : ∃ x, s8 ++ r.f2 = x := ⟨_, rfl⟩
            rw [hs] at hI
            have HA9 := Aside0.mk (HA8.out.keepT hk)
            have HI9 := Aside0.mk hI
            have HB9 := Aside0.mk (HB8.out.trans hb)
            have HS9 := Aside0.mk (show s9.size ≤ 4200 * i + 4187 by
              rw [← hs, ByteArray.size_append]
              have := HS8.out
              have := HM.out
              have : (strOfNums (pv d)).size ≤ 9 := vs_size d HV.out.1
              have : (strOfNums (pv r.f1.size)).size ≤ 9 := vs_size r.f1.size HV.out.2.1
              have : (strOfNums (pv (r.f2.size + 1))).size ≤ 9 := vs_size (r.f2.size + 1) HV.out.2.2
              have : (strOfNums (pv 0)).size ≤ 9 := vs_size 0 (by decide)
              omega)
            have HE9 := Aside0.mk hs
            clear hI hb hk hs HA8 HI8 HB8
            clear d0 d1 d2 d3
            have d0 := HA9.out.c0
            have d1 := HA9.out.c1
            have d2 := HA9.out.c2
            have d3 := HA9.out.c3
            have hfin := HH.out
            rw [HD.out, rgo, if_pos ⟨HOK.out, HN.out.2⟩] at hfin
            have he : acc ++ recB (r.f0 - base).toNat r = s9 := by
              rw [HDD.out]
              unfold recB
              rw [if_neg (by rw [HGo.out]; decide)]
              rw [← HE9.out, ← HE8.out, ← HE6.out, ← HE5.out, ← HE4.out]
              simp only [← ByteArray.append_assoc]
              rfl
            rw [he] at hfin
            have HH2 := Aside0.mk hfin
            clear hfin he
            clear d0 d1 d2 d3
            go_wp2_with fail
            rw [HW.out.1]
            go_roundw
            case rel => exact ⟨i + 1, s9, r.f0 + 1, rfl, by simp, hlt, by have := HN.out; omega, by have := HOK.out; have := ((okRec_iff r).1 HOK.out).2.1; omega, by have := HN.out; omega, ⟨by have := HS9.out; omega⟩, HH2, HI9, HB9⟩
            case measure =>
              simp only [intOf, Int.toNat_natCast]
              omega
          · rw [hgo] at d3
            have HGo := Aside0.mk hgo
            clear hgo
            go_wp2_with fail
            refine (number_any g g s6 0 _ HI6.out (Nat.le_of_lt HI6.out.lt) (by decide) (by have := HS6.out; have := HI0.out; omega)).mono ?_
            rintro e w8 ⟨rfl, hI, hb, hk⟩
            obtain ⟨s8, hs⟩ : ∃ x, s6 ++ strOfNums (pv 0) = x := ⟨_, rfl⟩
            rw [hs] at hI
            have HA8 := Aside0.mk (HA6.out.keepT hk)
            have HI8 := Aside0.mk hI
            have HB8 := Aside0.mk (HB6.out.trans hb)
            have HS8 := Aside0.mk (show s8.size ≤ 4200 * i + 91 by
              rw [← hs, ByteArray.size_append]
              have := HS6.out
              have := HM.out
              have : (strOfNums (pv d)).size ≤ 9 := vs_size d HV.out.1
              have : (strOfNums (pv r.f1.size)).size ≤ 9 := vs_size r.f1.size HV.out.2.1
              have : (strOfNums (pv (r.f2.size + 1))).size ≤ 9 := vs_size (r.f2.size + 1) HV.out.2.2
              have : (strOfNums (pv 0)).size ≤ 9 := vs_size 0 (by decide)
              omega)
            have HE8 := Aside0.mk hs
            clear hI hb hk hs HA6 HI6 HB6
            clear d0 d1 d2 d3
            have d0 := HA8.out.c0
            have d1 := HA8.out.c1
            have d2 := HA8.out.c2
            have d3 := HA8.out.c3
            have hfin := HH.out
            rw [HD.out, rgo, if_pos ⟨HOK.out, HN.out.2⟩] at hfin
            have he : acc ++ recB (r.f0 - base).toNat r = s8 := by
              rw [HDD.out]
              unfold recB
              rw [if_pos HGo.out]
              rw [← HE8.out, ← HE6.out, ← HE5.out, ← HE4.out]
              simp only [← ByteArray.append_assoc]
              rfl
            rw [he] at hfin
            have HH2 := Aside0.mk hfin
            clear hfin he
            clear d0 d1 d2 d3
            go_wp2_with fail
            rw [HW.out.1]
            go_roundw
            case rel => exact ⟨i + 1, s8, r.f0 + 1, rfl, by simp, hlt, by have := HN.out; omega, by have := HOK.out; have := ((okRec_iff r).1 HOK.out).2.1; omega, by have := HN.out; omega, ⟨by have := HS8.out; omega⟩, HH2, HI8, HB8⟩
            case measure =>
              simp only [intOf, Int.toNat_natCast]
              omega
        · have hb2 : decide (r.f0 < next) = true := by simp; omega
          have hfin := HH.out
          rw [HD.out, rgo, if_neg (fun hh => hnx hh.2)] at hfin
          obtain ⟨rfl, rfl⟩ := Prod.mk.inj hfin
          clear hfin m1 m2 m3 m4 m5 hok hnx
          go_wp2_with fail
          go_ret2
          exact ⟨rfl, by rw [HG.out]; exact HB3.out⟩
      · rw [if_neg hok]
        have hfin := HH.out
        rw [HD.out, rgo, if_neg (fun hh => hok hh.1)] at hfin
        obtain ⟨rfl, rfl⟩ := Prod.mk.inj hfin
        clear hfin hok
        go_wp2_with fail
        go_ret2
        exact ⟨rfl, by rw [HG.out]; exact HB3.out⟩
    · have hie : i = l.length := by omega
      subst hie
      have hfin := HH.out
      rw [List.drop_length, rgo] at hfin
      obtain ⟨rfl, rfl⟩ := Prod.mk.inj hfin
      clear hfin
      go_wp2_with fail
      refine (string_any g g acc _ HI.out (Nat.le_of_lt HI.out.lt)).mono ?_
      rintro e w3 ⟨rfl, hb⟩
      have HB3 := Aside0.mk (HB.out.trans hb)
      clear hb
      go_wp2_with fail
      go_ret2
      exact ⟨rfl, by rw [HG.out]; exact HB3.out⟩
theorem bytes_any (A0 : Option Addr) (c0 : Nat) (l : List S63) (base : Int) (r1 : ByteArray) (r2 : Int) (w : World) (hr0 : Kd.C k63 w A0 l.length l) (hc0 : l.length ≤ c0) (h : recBytes l base = some (r1, r2)) :
    Calls Try.prog 22 #[.slice A0 l.length c0, .int .i64 base] w fun e w' => e = .returned (.tuple #[.string r1, .int .i64 r2]) ∧ Below w.heap.size w w' := by
  unfold recBytes at h
  by_cases hb : base < 0 ∨ 1099511627776 ≤ base
  · rw [if_pos hb] at h
    injection h with h
    obtain ⟨rfl, rfl⟩ := Prod.mk.inj h
    exact bytes_bad A0 c0 l.length base w hb
  · rw [if_neg hb] at h
    by_cases hl : l.length ≤ 1000000000
    · rw [if_pos hl] at h
      injection h with h
      exact bytes_good A0 c0 l base r1 r2 w hr0 (by omega) (by omega) hl h
    · rw [if_neg hl] at h
      injection h
end Go.Proofs.Ytojnhklgfdfkcaa.RB
namespace Go.Proofs.Ytojnhklgfdfkcaa.RO
open Go.RowKit Go.Proofs.YtojnhklgfdfkcaaW.PrintWords Go.Proofs.YtojnhklgfdfkcaaW.PrintLast Go.Proofs.YtojnhklgfdfkcaaW.PrintMore Go.Proofs.Ytojnhklgfdfkcaa.MB Go.Proofs.Ytojnhklgfdfkcaa.HW Go.Proofs.Ytojnhklgfdfkcaa.Fn Go.Proofs.Ytojnhklgfdfkcaa.PV Go.Proofs.Ytojnhklgfdfkcaa.RB
attribute [local go_sem] max2_int min2_int max_two min_two max_three min_three max_four min_four   -- for this text's walks alone
theorem vr_ok (b : Nat → Nat) (sz : Nat) : ∀ (d i a : Nat), i ≤ sz → (vr b sz d i a).2.2 = 0 → 0 ≤ (vr b sz d i a).1 ∧ (i : Int) < (vr b sz d i a).2.1 ∧ (vr b sz d i a).2.1 ≤ sz := by
  intro d
  induction d with
  | zero => intro i a hi h; simp [vr] at h
  | succ d ih =>
    intro i a hi h
    rw [vr] at h ⊢
    by_cases h1 : sz ≤ i
    · rw [if_pos h1] at h; simp at h
    · rw [if_neg h1] at h ⊢
      by_cases h2 : b i < 128
      · rw [if_pos h2] at h ⊢
        by_cases h3 : b i = 0 ∧ 0 < i
        · rw [if_pos h3] at h; simp at h
        · rw [if_neg h3] at h ⊢
          exact ⟨Int.natCast_nonneg _, by show (i : Int) < ((i + 1 : Nat) : Int); omega, by show ((i + 1 : Nat) : Int) ≤ _; omega⟩
      · rw [if_neg h2] at h ⊢
        obtain ⟨q1, q2, q3⟩ := ih (i + 1) _ (by omega) h
        exact ⟨q1, by omega, q3⟩
theorem var_ok (s : ByteArray) (h : (var_ s).2.2 = 0) : 0 ≤ (var_ s).1 ∧ 0 < (var_ s).2.1 ∧ (var_ s).2.1 ≤ s.size := vr_ok _ s.size 9 0 0 (Nat.zero_le _) h
/-- A number of the bytes: it, what is behind, and whether. -/
def nm (s : ByteArray) (ok : Bool) (most : Int) : Int × ByteArray × Bool := if (var_ s).2.2 ≠ 0 ∨ most < (var_ s).1 then (0, s, false) else ((var_ s).1, s.extract (var_ s).2.1.toNat s.size, ok)
def tx (s : ByteArray) (ok : Bool) (size : Int) : ByteArray × ByteArray × Bool := if ok = false ∨ (s.size : Int) < size then (⟨#[]⟩, s, false) else (s.extract 0 size.toNat, s.extract size.toNat s.size, ok)
theorem extract_size (s : ByteArray) (a b : Nat) (h : b ≤ s.size) : (s.extract a b).size = b - a := by rw [ByteArray.size_extract]; omega
theorem nm_bd (s : ByteArray) (ok : Bool) (most : Int) (hm : 0 ≤ most) : 0 ≤ (nm s ok most).1 ∧ (nm s ok most).1 ≤ most ∧ (nm s ok most).2.1.size ≤ s.size ∧ ((nm s ok most).2.2 = true → (nm s ok most).2.1.size < s.size ∧ ok = true) := by
  unfold nm
  by_cases h : (var_ s).2.2 ≠ 0 ∨ most < (var_ s).1
  · rw [if_pos h]; exact ⟨Int.le_refl _, hm, Nat.le_refl _, fun h => by simp at h⟩
  · rw [if_neg h]
    have h0 : (var_ s).2.2 = 0 := Classical.not_not.1 (fun e => h (Or.inl e))
    obtain ⟨q1, q2, q3⟩ := var_ok s h0
    have h1 : ¬ most < (var_ s).1 := fun e => h (Or.inr e)
    have e := extract_size s (var_ s).2.1.toNat s.size (Nat.le_refl _)
    exact ⟨q1, by show (var_ s).1 ≤ most; omega, by show (s.extract _ _).size ≤ _; omega, fun hh => ⟨by show (s.extract _ _).size < _; omega, hh⟩⟩
theorem tx_bd (s : ByteArray) (ok : Bool) (size : Int) : (tx s ok size).1.size ≤ s.size ∧ (tx s ok size).2.1.size ≤ s.size ∧ ((tx s ok size).2.2 = true → ok = true) := by
  unfold tx
  by_cases h : ok = false ∨ (s.size : Int) < size
  · rw [if_pos h]; exact ⟨Nat.zero_le _, Nat.le_refl _, fun h => by simp at h⟩
  · rw [if_neg h]
    have h1 : ¬ (s.size : Int) < size := fun e => h (Or.inr e)
    have e := extract_size s size.toNat s.size (Nat.le_refl _)
    have e2 := extract_size s 0 size.toNat (by omega)
    exact ⟨by show (s.extract _ _).size ≤ _; omega, by show (s.extract _ _).size ≤ _; omega, fun hh => hh⟩
/-- What the two closures turn. -/
structure St (W : World) (gs go : Nat) (s : ByteArray) (ok : Bool) : Prop where
  bs : W.heap[gs]? = some (.cells #[.string s] 9 (0, 0))
  bo : W.heap[go]? = some (.cells #[.bool ok] 4 (0, 0))
def SS (gs go : Nat) (k : Nat) : Prop := k = gs ∨ k = go
theorem St.ne {W : World} {gs go : Nat} {s : ByteArray} {ok : Bool} (h : St W gs go s ok) : gs ≠ go := fun e => by
  have h1 := h.bs
  rw [e, h.bo] at h1
  injection h1 with h1
  injection h1 with h1 h2
  exact absurd h2 (by decide)
theorem St.c0 {W : World} {gs go : Nat} {s : ByteArray} {ok : Bool} (h : St W gs go s ok) : W.cell? ⟨gs, 0, none⟩ = some (.string s) := (blk_cell h.bs 0).trans rfl
theorem St.c1 {W : World} {gs go : Nat} {s : ByteArray} {ok : Bool} (h : St W gs go s ok) : W.cell? ⟨go, 0, none⟩ = some (.bool ok) := (blk_cell h.bo 0).trans rfl
theorem St.sets {W : World} {gs go : Nat} {s : ByteArray} {ok : Bool} (h : St W gs go s ok) (t : ByteArray) : St (W.setCell ⟨gs, 0, none⟩ (.string t)) gs go t ok :=
  ⟨by have := blk_set h.bs 0 (.string t); simpa using this, blk_far h.bo (p := ⟨gs, 0, none⟩) (fun e => h.ne e.symm) _⟩
theorem St.seto {W : World} {gs go : Nat} {s : ByteArray} {ok : Bool} (h : St W gs go s ok) (b : Bool) : St (W.setCell ⟨go, 0, none⟩ (.bool b)) gs go s b :=
  ⟨blk_far h.bs (p := ⟨go, 0, none⟩) h.ne _, by have := blk_set h.bo 0 (.bool b); simpa using this⟩
theorem St.below {W W1 : World} {gs go : Nat} {s : ByteArray} {ok : Bool} (h : St W gs go s ok) (hb : Below W.heap.size W W1) : St W1 gs go s ok :=
  ⟨(hb.block _ (blk_lt h.bs)).trans h.bs, (hb.block _ (blk_lt h.bo)).trans h.bo⟩
set_option maxHeartbeats 1000000 in
set_option maxRecDepth 100000 in
theorem num_any (gs go : Nat) (s : ByteArray) (ok : Bool) (most : Int) (w : World) (h : St w gs go s ok) (hs : s.size ≤ 1000000000) :
    Calls Try.prog 41 #[.int .i64 most, .pointer (some ⟨gs, 0, none⟩), .pointer (some ⟨go, 0, none⟩)] w fun e w' => e = .returned (.int .i64 (nm s ok most).1) ∧ St w' gs go (nm s ok most).2.1 (nm s ok most).2.2 ∧ Fr (SS gs go) w w' := by
  obtain ⟨⟨x, k, er⟩, hv⟩ : ∃ v, var_ s = v := ⟨_, rfl⟩
  have hf := var_f s (by omega)
  rw [hv] at hf
  have hok := var_ok s
  rw [hv] at hok
  obtain ⟨⟨rv, rs, ro⟩, hR⟩ : ∃ v, nm s ok most = v := ⟨_, rfl⟩
  rw [hR]
  unfold nm at hR
  rw [hv] at hR
  have HF := Aside0.mk hf
  have H := Aside0.mk h
  have c0 := h.c0
  clear hf h hv
  go_enter Try.func41, Try.ntmps41
  go_wp2_with fail
  refine (bits_Var.calls 10 s x k er _ HF.out).mono ?_
  rintro e w1 ⟨rfl, ⟨nd, rfl⟩⟩
  have hb : Below w.heap.size w (w.drewN nd) := pw_below_drewN (Below.refl _ _) nd
  have H1 := Aside0.mk (H.out.below hb)
  have F1 := Aside0.mk (Fr.of_below_all hb (SS gs go))
  clear hb c0
  generalize w.drewN nd = w1 at H1 F1 ⊢
  have c0 := H1.out.c0
  have c1 := H1.out.c1
  have z0 := blk_frozen H1.out.bs 0
  have z1 := blk_frozen H1.out.bo 0
  by_cases he : er = 0
  · subst he
    obtain ⟨q1, q2, q3⟩ := hok rfl
    by_cases hx : most < x
    · rw [if_pos (Or.inr hx)] at hR
      simp only [Prod.mk.injEq] at hR
      obtain ⟨rfl, rfl, rfl⟩ := hR
      have b1 : decide (most < x) = true := by simpa using hx
      clear hx hok
      go_wp2_with fail
      go_ret
      exact ⟨rfl, H1.out.seto false, F1.out.setCell (Or.inl (Or.inr rfl)) _⟩
    · rw [if_neg (by simp; omega)] at hR
      simp only [Prod.mk.injEq] at hR
      obtain ⟨rfl, rfl, rfl⟩ := hR
      have b1 : decide (most < x) = false := by simp; omega
      have p1 : 0 ≤ k := by show (0 : Int) ≤ k; have : (0:Int) < k := q2; omega
      have p2 : k ≤ (s.size : Int) := q3
      have p1b := decide_eq_true p1
      have p2b := decide_eq_true p2
      clear hx hok q1 q2 q3
      go_wp2_with fail
      go_ret
      exact ⟨rfl, H1.out.sets _, F1.out.setCell (Or.inl (Or.inl rfl)) _⟩
  · rw [if_pos (Or.inl he)] at hR
    simp only [Prod.mk.injEq] at hR
    obtain ⟨rfl, rfl, rfl⟩ := hR
    have b2 : (er != 0) = true := by simpa using he
    clear he hok
    go_wp2_with fail
    go_ret
    exact ⟨rfl, H1.out.seto false, F1.out.setCell (Or.inl (Or.inr rfl)) _⟩
set_option maxHeartbeats 1000000 in
set_option maxRecDepth 100000 in
theorem txt_any (gs go : Nat) (s : ByteArray) (ok : Bool) (size : Int) (w : World) (h : St w gs go s ok) (hs : s.size ≤ 1000000000) (h0 : 0 ≤ size) :
    Calls Try.prog 42 #[.int .i64 size, .pointer (some ⟨go, 0, none⟩), .pointer (some ⟨gs, 0, none⟩)] w fun e w' => e = .returned (.string (tx s ok size).1) ∧ St w' gs go (tx s ok size).2.1 (tx s ok size).2.2 ∧ Fr (SS gs go) w w' := by
  have H := Aside0.mk h
  have c0 := h.c0
  have c1 := h.c1
  have z0 := blk_frozen h.bs 0
  have z1 := blk_frozen h.bo 0
  obtain ⟨⟨rv, rs, ro⟩, hR⟩ : ∃ v, tx s ok size = v := ⟨_, rfl⟩
  rw [hR]
  unfold tx at hR
  clear h
  cases ok with
  | false =>
    rw [if_pos (Or.inl rfl)] at hR
    simp only [Prod.mk.injEq] at hR
    obtain ⟨rfl, rfl, rfl⟩ := hR
    go_enter Try.func42, Try.ntmps42
    go_wp2_with fail
    go_ret
    exact ⟨rfl, H.out.seto false, (Fr.refl _ _).setCell (Or.inl (Or.inr rfl)) _⟩
  | true =>
    by_cases hx : (s.size : Int) < size
    · rw [if_pos (Or.inr hx)] at hR
      simp only [Prod.mk.injEq] at hR
      obtain ⟨rfl, rfl, rfl⟩ := hR
      have b1 : decide ((s.size : Int) < size) = true := by simpa using hx
      clear hx
      go_enter Try.func42, Try.ntmps42
      go_wp2_with fail
      go_ret
      exact ⟨rfl, H.out.seto false, (Fr.refl _ _).setCell (Or.inl (Or.inr rfl)) _⟩
    · rw [if_neg (by simp; omega)] at hR
      simp only [Prod.mk.injEq] at hR
      obtain ⟨rfl, rfl, rfl⟩ := hR
      have b1 : decide ((s.size : Int) < size) = false := by simp; omega
      have p2 : size ≤ (s.size : Int) := by omega
      have p1b := decide_eq_true h0
      have p2b := decide_eq_true p2
      clear hx
      go_enter Try.func42, Try.ntmps42
      go_wp2_with fail
      go_ret
      exact ⟨rfl, H.out.sets _, (Fr.refl _ _).setCell (Or.inl (Or.inl rfl)) _⟩
/-- One record of the bytes: the numbers and texts (d, key, size, value), what is behind, and whether. -/
inductive Steps (base : Int) (s : ByteArray) : S63 → ByteArray → Bool → Prop
  | gone {d n v : Int} {s1 s2 s3 s4 key : ByteArray} {o1 o2 o3 o4 : Bool} (h1 : nm s true 1099511627776 = (d, s1, o1)) (h2 : nm s1 o1 64 = (n, s2, o2)) (h3 : tx s2 o2 n = (key, s3, o3)) (h4 : nm s3 o3 4097 = (v, s4, o4)) (h5 : v = 0) : Steps base s ⟨base + d, key, ⟨#[]⟩, true⟩ s4 o4
  | here {d n v : Int} {s1 s2 s3 s4 s5 key val : ByteArray} {o1 o2 o3 o4 o5 : Bool} (h1 : nm s true 1099511627776 = (d, s1, o1)) (h2 : nm s1 o1 64 = (n, s2, o2)) (h3 : tx s2 o2 n = (key, s3, o3)) (h4 : nm s3 o3 4097 = (v, s4, o4)) (h5 : v ≠ 0) (h6 : tx s4 o4 (v - 1) = (val, s5, o5)) : Steps base s ⟨base + d, key, val, false⟩ s5 o5
def one (base : Int) (s : ByteArray) : S63 × ByteArray × Bool :=
  match nm s true 1099511627776 with
  | (d, s1, o1) => match nm s1 o1 64 with
    | (n, s2, o2) => match tx s2 o2 n with
      | (key, s3, o3) => match nm s3 o3 4097 with
        | (v, s4, o4) => if v = 0 then (⟨base + d, key, ⟨#[]⟩, true⟩, s4, o4) else
          match tx s4 o4 (v - 1) with
          | (val, s5, o5) => (⟨base + d, key, val, false⟩, s5, o5)
theorem one_steps (base : Int) (s : ByteArray) : Steps base s (one base s).1 (one base s).2.1 (one base s).2.2 := by
  unfold one
  obtain ⟨⟨d, s1, o1⟩, h1⟩ : ∃ v, nm s true 1099511627776 = v := ⟨_, rfl⟩
  rw [h1]
  simp only
  obtain ⟨⟨n, s2, o2⟩, h2⟩ : ∃ v, nm s1 o1 64 = v := ⟨_, rfl⟩
  rw [h2]
  simp only
  obtain ⟨⟨key, s3, o3⟩, h3⟩ : ∃ v, tx s2 o2 n = v := ⟨_, rfl⟩
  rw [h3]
  simp only
  obtain ⟨⟨v, s4, o4⟩, h4⟩ : ∃ v, nm s3 o3 4097 = v := ⟨_, rfl⟩
  rw [h4]
  simp only
  by_cases h5 : v = 0
  · rw [if_pos h5]
    exact .gone h1 h2 h3 h4 h5
  · rw [if_neg h5]
    obtain ⟨⟨val, s5, o5⟩, h6⟩ : ∃ x, tx s4 o4 (v - 1) = x := ⟨_, rfl⟩
    rw [h6]
    exact .here h1 h2 h3 h4 h5 h6
def ofl (base n : Int) : Nat → Int → List S63 → ByteArray → List S63 × Int
  | 0, _, _, _ => ([], 90)
  | k + 1, next, out, s =>
    if (out.length : Int) < n then
      if (one base s).2.2 = true ∧ okRec (one base s).1 = true ∧ next ≤ (one base s).1.f0 then ofl base n k ((one base s).1.f0 + 1) (out ++ [(one base s).1]) (one base s).2.1 else ([], 90)
    else if s.size = 0 then (out, 0) else ([], 90)
def recOf (s : ByteArray) (base n : Int) : Option (List S63 × Int) :=
  if base < 0 ∨ 1099511627776 ≤ base ∨ n < 0 then some ([], 90) else if s.size ≤ 1000000000 then some (ofl base n (s.size + 1) base [] s) else none
theorem of_bad (s : ByteArray) (base n : Int) (w : World) (hb : base < 0 ∨ 1099511627776 ≤ base ∨ n < 0) :
    Calls Try.prog 31 #[.string s, .int .i64 base, .int .i64 n] w fun e w' => ∃ v0_ : Value, e = .returned (.tuple #[v0_, .int .i64 90]) ∧ Kd.R k63 63 w' w.heap.size (fun _ => True) v0_ [] ∧ Below w.heap.size w w' := by
  have hB := below_alloc (Below.refl w.heap.size w) (.cells #[.string s] 9)
  by_cases c1 : base < 0
  · have b1 : decide (base < 0) = true := by simpa using c1
    clear c1 hb
    go_enter Try.func31, Try.ntmps31
    go_wp2
    go_ret2
    exact ⟨_, rfl, Kd.R_nil _ _ _ _ _, hB⟩
  · have b1 : decide (base < 0) = false := by simp; omega
    by_cases c2 : 1099511627776 ≤ base
    · have b2 : decide (1099511627776 ≤ base) = true := by simp; omega
      clear c1 c2 hb
      go_enter Try.func31, Try.ntmps31
      go_wp2
      go_ret2
      exact ⟨_, rfl, Kd.R_nil _ _ _ _ _, hB⟩
    · have b2 : decide (1099511627776 ≤ base) = false := by simp; omega
      have b3 : decide (n < 0) = true := by simp; omega
      clear c1 c2 hb
      go_enter Try.func31, Try.ntmps31
      go_wp2
      go_ret2
      exact ⟨_, rfl, Kd.R_nil _ _ _ _ _, hB⟩
theorem num_eq {gs go : Nat} {s : ByteArray} {ok : Bool} {most : Int} {rv : Int} {rs : ByteArray} {ro : Bool} (hR : nm s ok most = (rv, rs, ro)) {w : World} (h : St w gs go s ok) (hs : s.size ≤ 1000000000) :
    Calls Try.prog 41 #[.int .i64 most, .pointer (some ⟨gs, 0, none⟩), .pointer (some ⟨go, 0, none⟩)] w fun e w' => e = .returned (.int .i64 rv) ∧ St w' gs go rs ro ∧ Fr (SS gs go) w w' := by
  have h2 := num_any gs go s ok most w h hs
  rw [hR] at h2
  exact h2
theorem txt_eq {gs go : Nat} {s : ByteArray} {ok : Bool} {size : Int} {rv rs : ByteArray} {ro : Bool} (hR : tx s ok size = (rv, rs, ro)) {w : World} (h : St w gs go s ok) (hs : s.size ≤ 1000000000) (h0 : 0 ≤ size) :
    Calls Try.prog 42 #[.int .i64 size, .pointer (some ⟨go, 0, none⟩), .pointer (some ⟨gs, 0, none⟩)] w fun e w' => e = .returned (.string rv) ∧ St w' gs go rs ro ∧ Fr (SS gs go) w w' := by
  have h2 := txt_any gs go s ok size w h hs h0
  rw [hR] at h2
  exact h2
/-- Inside a round: the closures' cells, the new record's block, the row. -/
structure LS (w W : World) (g q : Nat) (s : ByteArray) (ok : Bool) (r : S63) (v : Value) (xs : List S63) : Prop where
  st : St W g (g + 1) s ok
  rb : RBlk W q r
  ro : Kd.R k63 63 W g (fun k => (k ≠ g ∧ k ≠ g + 1) ∧ k ≠ q) v xs
  be : Below g w W
  hq : g + 1 < q
theorem LS.step {w W W' : World} {g q : Nat} {s s' : ByteArray} {ok ok' : Bool} {r : S63} {v : Value} {xs : List S63} (h : LS w W g q s ok r v xs) (hs : St W' g (g + 1) s' ok') (hf : Fr (SS g (g + 1)) W W') : LS w W' g q s' ok' r v xs where
  st := hs
  rb := hf.blk h.rb (fun e => by have := h.hq; rcases e with e | e <;> omega)
  ro := Kd.R_step h.ro (fun k hk hlt => hf.block k hlt (fun e => e.elim hk.1.1 hk.1.2))
  be := h.be.trans (hf.below (Nat.le_of_lt (blk_lt h.st.bs)) (fun k hk => by rcases hk with e | e <;> omega))
  hq := h.hq
theorem LS.below {w W W' : World} {g q : Nat} {s : ByteArray} {ok : Bool} {r : S63} {v : Value} {xs : List S63} (h : LS w W g q s ok r v xs) (hb : Below W.heap.size W W') : LS w W' g q s ok r v xs :=
  h.step (h.st.below hb) (Fr.of_below_all hb _)
theorem LS.set {w W : World} {g q : Nat} {s : ByteArray} {ok : Bool} {r r' : S63} {v : Value} {xs : List S63} (h : LS w W g q s ok r v xs) (j : Nat) (u : Value) (hr : RBlk (W.setCell ⟨q, j, none⟩ u) q r') : LS w (W.setCell ⟨q, j, none⟩ u) g q s ok r' v xs where
  st := ⟨blk_far h.st.bs (p := ⟨q, j, none⟩) (fun e => by have := h.hq; have e : g = q := e; omega) u, blk_far h.st.bo (p := ⟨q, j, none⟩) (fun e => by have := h.hq; have e : g + 1 = q := e; omega) u⟩
  rb := hr
  ro := Kd.R_far h.ro (p := ⟨q, j, none⟩) (fun k hk => hk.2) u
  be := h.be.setCell (p := ⟨q, j, none⟩) (by have := h.hq; show g ≤ q; omega) u
  hq := h.hq
theorem LS.set1 {w W : World} {g q : Nat} {s : ByteArray} {ok : Bool} {r : S63} {v : Value} {xs : List S63} (h : LS w W g q s ok r v xs) (t : ByteArray) : LS w (W.setCell ⟨q, 1, none⟩ (.string t)) g q s ok ⟨r.f0, t, r.f2, r.f3⟩ v xs :=
  h.set 1 _ (by have := blk_set h.rb 1 (.string t); unfold RBlk; simpa using this)
theorem LS.set2 {w W : World} {g q : Nat} {s : ByteArray} {ok : Bool} {r : S63} {v : Value} {xs : List S63} (h : LS w W g q s ok r v xs) (t : ByteArray) : LS w (W.setCell ⟨q, 2, none⟩ (.string t)) g q s ok ⟨r.f0, r.f1, t, r.f3⟩ v xs :=
  h.set 2 _ (by have := blk_set h.rb 2 (.string t); unfold RBlk; simpa using this)
theorem LS.set3 {w W : World} {g q : Nat} {s : ByteArray} {ok : Bool} {r : S63} {v : Value} {xs : List S63} (h : LS w W g q s ok r v xs) (t : Bool) : LS w (W.setCell ⟨q, 3, none⟩ (.bool t)) g q s ok ⟨r.f0, r.f1, r.f2, t⟩ v xs :=
  h.set 3 _ (by have := blk_set h.rb 3 (.bool t); unfold RBlk; simpa using this)
theorem LS.new {w W : World} {g : Nat} {s : ByteArray} {ok : Bool} {v : Value} {xs : List S63} (hs : St W g (g + 1) s ok) (ho : Kd.R k63 63 W g (fun k => k ≠ g ∧ k ≠ g + 1) v xs) (hb : Below g w W) (r : S63) :
    LS w (W.alloc (.cells #[.int .i64 r.f0, .string r.f1, .string r.f2, .bool r.f3] 63)) g W.heap.size s ok r v xs where
  st := hs.below (below_alloc (Below.refl _ _) _)
  rb := heap_alloc_new W _
  ro := Kd.R_alloc (Kd.R_elderB ho _ (Nat.le_refl _)) _
  be := hb.trans ((below_alloc (Below.refl _ _) _).mono (Nat.le_of_lt (blk_lt hs.bs)))
  hq := blk_lt hs.bo
set_option maxHeartbeats 4000000 in
set_option maxRecDepth 100000 in
theorem of_good (s : ByteArray) (base n : Int) (r1 : List S63) (r2 : Int) (w : World) (hb0 : 0 ≤ base) (hb1 : base < 1099511627776) (hn : 0 ≤ n) (hs : s.size ≤ 1000000000) (h : ofl base n (s.size + 1) base [] s = (r1, r2)) :
    Calls Try.prog 31 #[.string s, .int .i64 base, .int .i64 n] w fun e w' => ∃ v0_ : Value, e = .returned (.tuple #[v0_, .int .i64 r2]) ∧ Kd.R k63 63 w' w.heap.size (fun _ => True) v0_ r1 ∧ Below w.heap.size w w' := by
  have hu2 := Try.underlying63
  have b1 : decide (base < 0) = false := by simp; omega
  have b2 : decide (1099511627776 ≤ base) = false := by simp; omega
  have b3 : decide (n < 0) = false := by simp; omega
  have hmf : ∀ (fn : Fn) (first cap : Array Value) (w : World), (Instr.makeFunc fn first cap).run Try.prog w = .ok (.func fn first cap) w := fun _ _ _ _ => rfl
  have HH := Aside0.mk h
  have HSZ := Aside0.mk hs
  have HBN := Aside0.mk (And.intro hb0 hb1)
  clear h hs hb0 hb1 hn
  go_enter Try.func31, Try.ntmps31
  go_wp2_with fail
  clear b1 b2 b3 hmf
  have HB := Aside0.mk (below_alloc (below_alloc (Below.refl w.heap.size w) (.cells #[.string s] 9)) (.cells #[.bool true] 4))
  have HS := Aside0.mk (show St ((w.alloc (.cells #[.string s] 9)).alloc (.cells #[.bool true] 4)) w.heap.size (w.heap.size + 1) s true from
    ⟨((below_alloc (Below.refl _ _) _).block _ (Nat.lt_of_lt_of_le (Nat.lt_succ_self _) (Nat.le_of_eq (Array.size_push _).symm))).trans (heap_alloc_new w _), by have := heap_alloc_new (w.alloc (.cells #[.string s] 9)) (.cells #[.bool true] 4); rwa [show (w.alloc (.cells #[.string s] 9)).heap.size = w.heap.size + 1 from Array.size_push _] at this⟩)
  generalize ((w.alloc (.cells #[.string s] 9)).alloc (.cells #[.bool true] 4)) = w1 at HB HS ⊢
  obtain ⟨g, hg⟩ : ∃ g, w.heap.size = g := ⟨_, rfl⟩
  rw [hg] at HB HS
  rw [hg]
  have HG := Aside0.mk hg
  clear hg
  have HO := Aside0.mk (Kd.R_nil k63 63 w1 g (fun k => k ≠ g ∧ k ≠ g + 1))
  go_loopg [11, 12] (s.size + 1) (fun kq v11 v12 wr => ∃ (xs : List S63) (cur : ByteArray) (next : Int), v12 = .int .i64 next ∧ 0 ≤ next ∧ next ≤ 1099511627776 ∧ Aside0 (ofl base n kq next xs cur = (r1, r2)) ∧ Aside0 (cur.size < kq) ∧ Aside0 (xs.length + cur.size ≤ s.size) ∧ Aside0 (St wr g (g + 1) cur true) ∧ Aside0 (Kd.R k63 63 wr g (fun k => k ≠ g ∧ k ≠ g + 1) v11 xs) ∧ Aside0 (Below g w wr))
  case atStart => exact ⟨[], s, base, rfl, HBN.out.1, Int.le_of_lt HBN.out.2, HH, ⟨Nat.lt_succ_self _⟩, ⟨by simp⟩, HS, HO, HB⟩
  case round =>
    clear HH HS HO HB
    obtain ⟨xs, cur, next, rfl, hx0, hx1, HH, HK, HL, HS, HO, HB⟩ := hrel
    obtain ⟨A1, c1, rfl⟩ := Kd.R_slice HO.out
    cases gk with
    | zero => exact absurd HK.out (Nat.not_lt_zero _)
    | succ k =>
      have hC := HS.out.c0
      have hfin := HH.out
      rw [ofl] at hfin
      by_cases hlt : (xs.length : Int) < n
      · rw [if_pos hlt] at hfin
        have b1 : decide ((xs.length : Int) < n) = true := by simpa using hlt
        have hst := one_steps base cur
        obtain ⟨⟨r, s', o'⟩, hone⟩ : ∃ v, one base cur = v := ⟨_, rfl⟩
        rw [hone] at hst hfin
        simp only at hst hfin
        have HH2 := Aside0.mk hfin
        clear hfin hone hlt HH
        cases hst with
        | @gone d nk v s1 s2 s3 s4 key o1 o2 o3 o4 h1 h2 h3 h4 h5 =>
          have e1 := nm_bd cur true 1099511627776 (by decide)
          rw [h1] at e1
          have e2 := nm_bd s1 o1 64 (by decide)
          rw [h2] at e2
          have e3 := tx_bd s2 o2 nk
          rw [h3] at e3
          have e4 := nm_bd s3 o3 4097 (by decide)
          rw [h4] at e4
          simp only at e1 e2 e3 e4
          have hw1 : wrap64 (base + d) = base + d := wrap64_id _ (by have := HBN.out; omega) (by have := HBN.out; omega)
          have HW := Aside0.mk hw1
          have HE := Aside0.mk (And.intro e1 (And.intro e2 (And.intro e3 e4)))
          have HZ := Aside0.mk (show cur.size ≤ 1000000000 by have := HL.out; have := HSZ.out; omega)
          have H1 := Aside0.mk h1
          have H2 := Aside0.mk h2
          have H3 := Aside0.mk h3
          have H4 := Aside0.mk h4
          clear h1 h2 h3 h4 e1 e2 e3 e4 hw1
          go_wp2_with fail
          refine (num_eq H1.out HS.out HZ.out).mono ?_
          rintro e w1 ⟨rfl, hS, hF⟩
          have HN := Aside0.mk (LS.new hS (Kd.R_step HO.out (fun k hk hlt => hF.block k hlt (fun e => e.elim hk.1 hk.2))) (HB.out.trans (hF.below (Nat.le_of_lt (blk_lt HS.out.bs)) (fun k hk => by rcases hk with e | e <;> omega))) ⟨base + d, ⟨#[]⟩, ⟨#[]⟩, false⟩)
          clear hS hF hC
          go_wp2_with fail
          rw [HW.out]
          obtain ⟨q, hq⟩ : ∃ q, w1.heap.size = q := ⟨_, rfl⟩
          rw [hq] at HN
          rw [hq]
          clear hq
          generalize w1.alloc (.cells #[.int .i64 (base + d), .string ⟨#[]⟩, .string ⟨#[]⟩, .bool false] 63) = w2 at HN ⊢
          refine (num_eq H2.out HN.out.st (by have := HE.out; have := HZ.out; omega)).mono ?_
          rintro e w3 ⟨rfl, hS, hF⟩
          have HN3 := Aside0.mk (HN.out.step hS hF)
          clear hS hF HN
          go_wp2_with fail
          refine (txt_eq H3.out HN3.out.st (by have := HE.out; have := HZ.out; omega) (by have := HE.out; omega)).mono ?_
          rintro e w4 ⟨rfl, hS, hF⟩
          have HN4 := Aside0.mk (HN3.out.step hS hF)
          clear hS hF HN3
          have d1 := HN4.out.rb.c1
          have z1 := blk_frozen HN4.out.rb 1
          go_wp2_with fail
          have HN5 := Aside0.mk (HN4.out.set1 key)
          clear d1 z1 HN4
          generalize w4.setCell ⟨q, 1, none⟩ (.string key) = w5 at HN5 ⊢
          refine (num_eq H4.out HN5.out.st (by have := HE.out; have := HZ.out; omega)).mono ?_
          rintro e w6 ⟨rfl, hS, hF⟩
          have HN6 := Aside0.mk (HN5.out.step hS hF)
          clear hS hF HN5
          subst h5
          have HEa := Aside0.mk (show s'.size < cur.size ∨ o' = false by
            have a1 := HE.out
            cases o' with
            | false => exact Or.inr rfl
            | true =>
              left
              have b4 := a1.2.2.2.2.2.2 rfl
              omega)
          have d3 := HN6.out.rb.c3
          have z3 := blk_frozen HN6.out.rb 3
          go_upto_region 15 with (fail)
          have HN7 := Aside0.mk (HN6.out.set3 true)
          clear HN6 d3 z3
          generalize w6.setCell ⟨q, 3, none⟩ (.bool true) = w7 at HN7 ⊢
          have HN7 : Aside0 (LS w w7 g q s' o' (⟨base + d, key, (⟨#[]⟩ : ByteArray), true⟩ : S63) (.slice A1 xs.length c1) xs) := HN7
          have co := HN7.out.st.c1
          have d0 : w7.cell? ⟨q, 0, none⟩ = some (.int .i64 (base + d)) := HN7.out.rb.c0
          have d1 : w7.cell? ⟨q, 1, none⟩ = some (.string key) := HN7.out.rb.c1
          have d2 : w7.cell? ⟨q, 2, none⟩ = some (.string (⟨#[]⟩ : ByteArray)) := HN7.out.rb.c2
          have d3 : w7.cell? ⟨q, 3, none⟩ = some (.bool true) := HN7.out.rb.c3
          cases o' with
          | false =>
            have hfin := HH2.out
            rw [if_neg (fun hh => absurd hh.1 (by decide))] at hfin
            obtain ⟨rfl, rfl⟩ := Prod.mk.inj hfin
            clear hfin HH2
            go_wp2_with fail
            go_ret2
            exact ⟨_, rfl, Kd.R_nil _ _ _ _ _, by rw [HG.out]; exact HN7.out.be⟩
          | true =>
            go_wp2_with fail
            refine (record_Check.calls _ _ _ _ _ _ (check_ok (⟨base + d, key, (⟨#[]⟩ : ByteArray), true⟩ : S63))).mono ?_
            rintro e w8 ⟨rfl, hb⟩
            have HN8 := Aside0.mk (HN7.out.below hb)
            clear hb HN7 co d0 d1 d2 d3
            have d0 : w8.cell? ⟨q, 0, none⟩ = some (.int .i64 (base + d)) := HN8.out.rb.c0
            have d1 : w8.cell? ⟨q, 1, none⟩ = some (.string key) := HN8.out.rb.c1
            have d2 : w8.cell? ⟨q, 2, none⟩ = some (.string (⟨#[]⟩ : ByteArray)) := HN8.out.rb.c2
            have d3 : w8.cell? ⟨q, 3, none⟩ = some (.bool true) := HN8.out.rb.c3
            by_cases hok : okRec (⟨base + d, key, (⟨#[]⟩ : ByteArray), true⟩ : S63) = true
            · rw [if_pos hok]
              by_cases hnx : next ≤ base + d
              · have hfin := HH2.out
                rw [if_pos ⟨by first | rfl | trivial, hok, hnx⟩] at hfin
                have HH3 := Aside0.mk hfin
                have hbn : decide (base + d < next) = false := by simp; omega
                have hw2 : wrap64 (base + d + 1) = base + d + 1 := wrap64_id _ (by have := HBN.out; have := HE.out; omega) (by have := HBN.out; have := HE.out; omega)
                have HW2 := Aside0.mk hw2
                have HOK := Aside0.mk hok
                have HNX := Aside0.mk hnx
                clear hw2 hfin HH2 hok hnx
                go_wp2_with ((with_reducible refine gate_builtin (b := .append) (xs := #[.tmp 68, .tmp 70]) rfl ?_); at_builtin; refine Kd.R_append k63 (w0 := w) g rfl (.tmp 68) (.tmp 70) 26 63 (.agg #[(.int .i64 0), (.string ⟨#[]⟩), (.string ⟨#[]⟩), (.bool false)]) 48 rfl Try.underlying26 info63 rfl (by decide) (by omega) (.slice A1 xs.length c1) xs (⟨base + d, key, (⟨#[]⟩ : ByteArray), true⟩ : S63) [.int .i64 (base + d), .string key, .string (⟨#[]⟩ : ByteArray), .bool true] (fun k_ => (k_ ≠ g ∧ k_ ≠ g + 1) ∧ k_ ≠ q) (fun _ => False) rfl (by first | (go_simp; done) | (go_simp; rfl)) ?aP (fun _ hk => hk.elim) ?aF ?aO ?aB ?aS ?aL ?_; (case aP => exact k63_mkM _ _ _ (⟨base + d, key, (⟨#[]⟩ : ByteArray), true⟩ : S63)); (case aB => exact HN8.out.be); (case aF => exact (fun k_ hk => by have := blk_lt HN8.out.rb; have := HN8.out.hq; omega)); (case aO => exact HN8.out.ro); (case aS => exact Nat.le_of_lt (blk_lt HN8.out.st.bs)); (case aL => have := HL.out; have := HSZ.out; omega); intro v9 w9 ho hb hg hat; have HS9 := Aside0.mk (show St w9 g (g + 1) s' true from ⟨blk_grown HN8.out.st.bs hg (Kd.R_away HN8.out.ro (fun _ hk => hk.1.1)), blk_grown HN8.out.st.bo hg (Kd.R_away HN8.out.ro (fun _ hk => hk.1.2))⟩); have HB9 := Aside0.mk hb; have HO9 := Aside0.mk ho; clear ho hb hg hat; obtain ⟨Ao, co, eo⟩ := Kd.R_slice HO9.out; subst eo)
                rw [HW2.out]
                go_roundg k
                case measure => omega
                case rel => exact ⟨xs ++ [(⟨base + d, key, (⟨#[]⟩ : ByteArray), true⟩ : S63)], s', base + d + 1, rfl, by have := HBN.out; have := HE.out; omega, by have := ((okRec_iff _).1 HOK.out).2.1; simp only at this; omega, HH3, ⟨by have := HK.out; have h7 := HEa.out; rcases h7 with h7 | h7; omega; exact absurd h7 (by decide)⟩, ⟨by have := HL.out; have h7 := HEa.out; simp; rcases h7 with h7 | h7; omega; exact absurd h7 (by decide)⟩, HS9, ⟨by have h8 := Kd.R_mono (ok' := fun k => k ≠ g ∧ k ≠ g + 1) HO9.out (fun _ hk => hk.1); rw [List.length_append] at h8; exact h8⟩, HB9⟩
              · have hfin := HH2.out
                rw [if_neg (fun hh => hnx hh.2.2)] at hfin
                obtain ⟨rfl, rfl⟩ := Prod.mk.inj hfin
                have hbn : decide (base + d < next) = true := by simp; omega
                clear hfin HH2 hok hnx
                go_wp2_with fail
                go_ret2
                exact ⟨_, rfl, Kd.R_nil _ _ _ _ _, by rw [HG.out]; exact HN8.out.be⟩
            · rw [if_neg hok]
              have hfin := HH2.out
              rw [if_neg (fun hh => hok hh.2.1)] at hfin
              obtain ⟨rfl, rfl⟩ := Prod.mk.inj hfin
              clear hfin HH2 hok
              go_wp2_with fail
              go_ret2
              exact ⟨_, rfl, Kd.R_nil _ _ _ _ _, by rw [HG.out]; exact HN8.out.be⟩
        | @here d nk v s1 s2 s3 s4 s5 key val o1 o2 o3 o4 o5 h1 h2 h3 h4 h5 h6 =>
          have e1 := nm_bd cur true 1099511627776 (by decide)
          rw [h1] at e1
          have e2 := nm_bd s1 o1 64 (by decide)
          rw [h2] at e2
          have e3 := tx_bd s2 o2 nk
          rw [h3] at e3
          have e4 := nm_bd s3 o3 4097 (by decide)
          rw [h4] at e4
          simp only at e1 e2 e3 e4
          have hw1 : wrap64 (base + d) = base + d := wrap64_id _ (by have := HBN.out; omega) (by have := HBN.out; omega)
          have HW := Aside0.mk hw1
          have HE := Aside0.mk (And.intro e1 (And.intro e2 (And.intro e3 e4)))
          have HZ := Aside0.mk (show cur.size ≤ 1000000000 by have := HL.out; have := HSZ.out; omega)
          have H1 := Aside0.mk h1
          have H2 := Aside0.mk h2
          have H3 := Aside0.mk h3
          have H4 := Aside0.mk h4
          clear h1 h2 h3 h4 e1 e2 e3 e4 hw1
          go_wp2_with fail
          refine (num_eq H1.out HS.out HZ.out).mono ?_
          rintro e w1 ⟨rfl, hS, hF⟩
          have HN := Aside0.mk (LS.new hS (Kd.R_step HO.out (fun k hk hlt => hF.block k hlt (fun e => e.elim hk.1 hk.2))) (HB.out.trans (hF.below (Nat.le_of_lt (blk_lt HS.out.bs)) (fun k hk => by rcases hk with e | e <;> omega))) ⟨base + d, ⟨#[]⟩, ⟨#[]⟩, false⟩)
          clear hS hF hC
          go_wp2_with fail
          rw [HW.out]
          obtain ⟨q, hq⟩ : ∃ q, w1.heap.size = q := ⟨_, rfl⟩
          rw [hq] at HN
          rw [hq]
          clear hq
          generalize w1.alloc (.cells #[.int .i64 (base + d), .string ⟨#[]⟩, .string ⟨#[]⟩, .bool false] 63) = w2 at HN ⊢
          refine (num_eq H2.out HN.out.st (by have := HE.out; have := HZ.out; omega)).mono ?_
          rintro e w3 ⟨rfl, hS, hF⟩
          have HN3 := Aside0.mk (HN.out.step hS hF)
          clear hS hF HN
          go_wp2_with fail
          refine (txt_eq H3.out HN3.out.st (by have := HE.out; have := HZ.out; omega) (by have := HE.out; omega)).mono ?_
          rintro e w4 ⟨rfl, hS, hF⟩
          have HN4 := Aside0.mk (HN3.out.step hS hF)
          clear hS hF HN3
          have d1 := HN4.out.rb.c1
          have z1 := blk_frozen HN4.out.rb 1
          go_wp2_with fail
          have HN5 := Aside0.mk (HN4.out.set1 key)
          clear d1 z1 HN4
          generalize w4.setCell ⟨q, 1, none⟩ (.string key) = w5 at HN5 ⊢
          refine (num_eq H4.out HN5.out.st (by have := HE.out; have := HZ.out; omega)).mono ?_
          rintro e w6 ⟨rfl, hS, hF⟩
          have HN6 := Aside0.mk (HN5.out.step hS hF)
          clear hS hF HN5
          have bv : (v == 0) = false := by simpa using h5
          have e6 := tx_bd s4 o4 (v - 1)
          rw [h6] at e6
          simp only at e6
          have hw3 : wrap64 (v - 1) = v - 1 := wrap64_id _ (by have := HE.out; omega) (by have := HE.out; omega)
          have HW3 := Aside0.mk hw3
          have H6 := Aside0.mk h6
          have HV := Aside0.mk h5
          have HE6 := Aside0.mk e6
          clear h6 hw3 h5 e6
          go_wp2_with fail
          rw [HW3.out]
          refine (txt_eq H6.out HN6.out.st (by have := HE.out; have := HZ.out; omega) (by have := HE.out; have := HV.out; omega)).mono ?_
          rintro e w6' ⟨rfl, hS, hF⟩
          have HN6' := Aside0.mk (HN6.out.step hS hF)
          clear hS hF HN6
          have HN6 := HN6'
          clear HN6'
          have HEa := Aside0.mk (show s'.size < cur.size ∨ o' = false by
            have a1 := HE.out
            have a2 := HE6.out
            cases o' with
            | false => exact Or.inr rfl
            | true =>
              left
              have b4 := a1.2.2.2.2.2.2 (a2.2.2 rfl)
              omega)
          have d2 := HN6.out.rb.c2
          have z2 := blk_frozen HN6.out.rb 2
          go_upto_region 15 with (fail)
          have HN7 := Aside0.mk (HN6.out.set2 val)
          clear HN6 d2 z2
          generalize w6'.setCell ⟨q, 2, none⟩ (.string val) = w7 at HN7 ⊢
          have HN7 : Aside0 (LS w w7 g q s' o' (⟨base + d, key, val, false⟩ : S63) (.slice A1 xs.length c1) xs) := HN7
          have co := HN7.out.st.c1
          have d0 : w7.cell? ⟨q, 0, none⟩ = some (.int .i64 (base + d)) := HN7.out.rb.c0
          have d1 : w7.cell? ⟨q, 1, none⟩ = some (.string key) := HN7.out.rb.c1
          have d2 : w7.cell? ⟨q, 2, none⟩ = some (.string val) := HN7.out.rb.c2
          have d3 : w7.cell? ⟨q, 3, none⟩ = some (.bool false) := HN7.out.rb.c3
          cases o' with
          | false =>
            have hfin := HH2.out
            rw [if_neg (fun hh => absurd hh.1 (by decide))] at hfin
            obtain ⟨rfl, rfl⟩ := Prod.mk.inj hfin
            clear hfin HH2
            go_wp2_with fail
            go_ret2
            exact ⟨_, rfl, Kd.R_nil _ _ _ _ _, by rw [HG.out]; exact HN7.out.be⟩
          | true =>
            go_wp2_with fail
            refine (record_Check.calls _ _ _ _ _ _ (check_ok (⟨base + d, key, val, false⟩ : S63))).mono ?_
            rintro e w8 ⟨rfl, hb⟩
            have HN8 := Aside0.mk (HN7.out.below hb)
            clear hb HN7 co d0 d1 d2 d3
            have d0 : w8.cell? ⟨q, 0, none⟩ = some (.int .i64 (base + d)) := HN8.out.rb.c0
            have d1 : w8.cell? ⟨q, 1, none⟩ = some (.string key) := HN8.out.rb.c1
            have d2 : w8.cell? ⟨q, 2, none⟩ = some (.string val) := HN8.out.rb.c2
            have d3 : w8.cell? ⟨q, 3, none⟩ = some (.bool false) := HN8.out.rb.c3
            by_cases hok : okRec (⟨base + d, key, val, false⟩ : S63) = true
            · rw [if_pos hok]
              by_cases hnx : next ≤ base + d
              · have hfin := HH2.out
                rw [if_pos ⟨by first | rfl | trivial, hok, hnx⟩] at hfin
                have HH3 := Aside0.mk hfin
                have hbn : decide (base + d < next) = false := by simp; omega
                have hw2 : wrap64 (base + d + 1) = base + d + 1 := wrap64_id _ (by have := HBN.out; have := HE.out; omega) (by have := HBN.out; have := HE.out; omega)
                have HW2 := Aside0.mk hw2
                have HOK := Aside0.mk hok
                have HNX := Aside0.mk hnx
                clear hw2 hfin HH2 hok hnx
                go_wp2_with ((with_reducible refine gate_builtin (b := .append) (xs := #[.tmp 68, .tmp 70]) rfl ?_); at_builtin; refine Kd.R_append k63 (w0 := w) g rfl (.tmp 68) (.tmp 70) 26 63 (.agg #[(.int .i64 0), (.string ⟨#[]⟩), (.string ⟨#[]⟩), (.bool false)]) 48 rfl Try.underlying26 info63 rfl (by decide) (by omega) (.slice A1 xs.length c1) xs (⟨base + d, key, val, false⟩ : S63) [.int .i64 (base + d), .string key, .string val, .bool false] (fun k_ => (k_ ≠ g ∧ k_ ≠ g + 1) ∧ k_ ≠ q) (fun _ => False) rfl (by first | (go_simp; done) | (go_simp; rfl)) ?aP (fun _ hk => hk.elim) ?aF ?aO ?aB ?aS ?aL ?_; (case aP => exact k63_mkM _ _ _ (⟨base + d, key, val, false⟩ : S63)); (case aB => exact HN8.out.be); (case aF => exact (fun k_ hk => by have := blk_lt HN8.out.rb; have := HN8.out.hq; omega)); (case aO => exact HN8.out.ro); (case aS => exact Nat.le_of_lt (blk_lt HN8.out.st.bs)); (case aL => have := HL.out; have := HSZ.out; omega); intro v9 w9 ho hb hg hat; have HS9 := Aside0.mk (show St w9 g (g + 1) s' true from ⟨blk_grown HN8.out.st.bs hg (Kd.R_away HN8.out.ro (fun _ hk => hk.1.1)), blk_grown HN8.out.st.bo hg (Kd.R_away HN8.out.ro (fun _ hk => hk.1.2))⟩); have HB9 := Aside0.mk hb; have HO9 := Aside0.mk ho; clear ho hb hg hat; obtain ⟨Ao, co, eo⟩ := Kd.R_slice HO9.out; subst eo)
                rw [HW2.out]
                go_roundg k
                case measure => omega
                case rel => exact ⟨xs ++ [(⟨base + d, key, val, false⟩ : S63)], s', base + d + 1, rfl, by have := HBN.out; have := HE.out; omega, by have := ((okRec_iff _).1 HOK.out).2.1; simp only at this; omega, HH3, ⟨by have := HK.out; have h7 := HEa.out; rcases h7 with h7 | h7; omega; exact absurd h7 (by decide)⟩, ⟨by have := HL.out; have h7 := HEa.out; simp; rcases h7 with h7 | h7; omega; exact absurd h7 (by decide)⟩, HS9, ⟨by have h8 := Kd.R_mono (ok' := fun k => k ≠ g ∧ k ≠ g + 1) HO9.out (fun _ hk => hk.1); rw [List.length_append] at h8; exact h8⟩, HB9⟩
              · have hfin := HH2.out
                rw [if_neg (fun hh => hnx hh.2.2)] at hfin
                obtain ⟨rfl, rfl⟩ := Prod.mk.inj hfin
                have hbn : decide (base + d < next) = true := by simp; omega
                clear hfin HH2 hok hnx
                go_wp2_with fail
                go_ret2
                exact ⟨_, rfl, Kd.R_nil _ _ _ _ _, by rw [HG.out]; exact HN8.out.be⟩
            · rw [if_neg hok]
              have hfin := HH2.out
              rw [if_neg (fun hh => hok hh.2.1)] at hfin
              obtain ⟨rfl, rfl⟩ := Prod.mk.inj hfin
              clear hfin HH2 hok
              go_wp2_with fail
              go_ret2
              exact ⟨_, rfl, Kd.R_nil _ _ _ _ _, by rw [HG.out]; exact HN8.out.be⟩
      · rw [if_neg hlt] at hfin
        have b1 : decide ((xs.length : Int) < n) = false := by simpa using hlt
        by_cases hz : cur.size = 0
        · rw [if_pos hz] at hfin
          obtain ⟨rfl, rfl⟩ := Prod.mk.inj hfin
          obtain rfl : cur = ⟨#[]⟩ := by
            cases cur with | mk a => exact congrArg ByteArray.mk (Array.eq_empty_of_size_eq_zero hz)
          clear hfin hlt
          go_wp2_with fail
          go_ret2
          exact ⟨_, rfl, by rw [HG.out]; exact Kd.R_mono HO.out (fun _ _ => trivial), by rw [HG.out]; exact HB.out⟩
        · rw [if_neg hz] at hfin
          obtain ⟨rfl, rfl⟩ := Prod.mk.inj hfin
          have b2 : (cur.toList != ([] : List UInt8)) = true := bne_iff_ne.mpr (fun e => hz ((toList_nil_iff _).1 e))
          have b3 : (cur.toList == ([] : List UInt8)) = false := beq_eq_false_iff_ne.mpr (fun e => hz ((toList_nil_iff _).1 e))
          clear hfin hlt
          go_wp2_with fail
          go_ret2
          exact ⟨_, rfl, Kd.R_nil _ _ _ _ _, by rw [HG.out]; exact HB.out⟩
theorem of_any (a0 : ByteArray) (a1 : Int) (a2 : Int) (r1 : List S63) (r2 : Int) (w : World) (h : recOf a0 a1 a2 = some (r1, r2)) :
    Calls Try.prog 31 #[.string a0, .int .i64 a1, .int .i64 a2] w fun e w' => ∃ v0_ : Value, e = .returned (.tuple #[v0_, .int .i64 r2]) ∧ Kd.R k63 63 w' w.heap.size (fun _ => True) v0_ r1 ∧ Below w.heap.size w w' := by
  unfold recOf at h
  by_cases hb : a1 < 0 ∨ 1099511627776 ≤ a1 ∨ a2 < 0
  · rw [if_pos hb] at h
    injection h with h
    obtain ⟨rfl, rfl⟩ := Prod.mk.inj h
    exact of_bad a0 a1 a2 w hb
  · rw [if_neg hb] at h
    by_cases hl : a0.size ≤ 1000000000
    · rw [if_pos hl] at h
      injection h with h
      exact of_good a0 a1 a2 r1 r2 w (by omega) (by omega) (by omega) hl h
    · rw [if_neg hl] at h
      injection h
end Go.Proofs.Ytojnhklgfdfkcaa.RO
