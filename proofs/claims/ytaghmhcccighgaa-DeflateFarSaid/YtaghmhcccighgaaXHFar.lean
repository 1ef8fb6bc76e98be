/- A text that begins as the bytes of a string, and grows by bytes and by a string (DeflateFar). -/
import Derived.Test.YtaghmhcccighgaaXHBkD
import Derived.ArgAppend
import Derived.Lib.ConvBytes
namespace Go.Proofs.Ytaghmhcccighgaa.DF
open Go.RowKit Go.Proofs.YtaghmhcccighgaaW.PrintWords Go.Proofs.YtaghmhcccighgaaW.PrintLast Go.Proofs.YtaghmhcccighgaaW.PrintMore Go.Proofs.Ytaghmhcccighgaa.HW Go.Proofs.Ytaghmhcccighgaa.MB Go.Proofs.Ytaghmhcccighgaa.Fn Go.Proofs.Ytaghmhcccighgaa.HF Go.Proofs.Ytaghmhcccighgaa.RT Go.Proofs.Ytaghmhcccighgaa.RT.Rd Go.Proofs.Ytaghmhcccighgaa.HP Go.Proofs.Ytaghmhcccighgaa.HI Go.Proofs.Ytaghmhcccighgaa.IW
/-- A text, in a block of the call's own, wherever its row ends. -/
structure FarR (W w : World) (v : Value) (xs : List Int) : Prop where
  row : ∃ g cap, v = .slice (some ⟨g, 0, none⟩) xs.length cap ∧ W.heap.size ≤ g ∧ xs.length ≤ cap ∧ (∀ j u, (nums .u8 xs)[j]? = some u → w.cell? ⟨g, 0 + j, none⟩ = some u) ∧ (∀ j, j < cap → (w.cell? ⟨g, j, none⟩).isSome = true ∧ w.frozen? ⟨g, j, none⟩ = false)
  be : Below W.heap.size W w
theorem far_block {W w : World} {v : Value} {xs : List Int} {g cap : Nat} {cur : Array Value} {e : TypeId} {fz : Nat × Nat} (hb : Below W.heap.size W w) (hv : v = .slice (some ⟨g, 0, none⟩) xs.length cap) (hg : W.heap.size ≤ g) (hx : w.heap[g]? = some (.cells cur e fz)) (hn : xs.length ≤ cap) (hs : cur.size = cap) (hz : fz = (0, 0) ∨ fz.1 = cap)
    (ht : cur.toList.take xs.length = nums .u8 xs) : FarR W w v xs := by
  refine ⟨⟨g, cap, hv, hg, hn, fun j u hu => ?_, fun j hj => ⟨?_, ?_⟩⟩, hb⟩
  · rw [Nat.zero_add]
    rw [← ht] at hu
    have hj : j < xs.length := by
      obtain ⟨h1, _⟩ := List.getElem?_eq_some_iff.1 hu
      rw [List.length_take] at h1
      omega
    rw [List.getElem?_take_of_lt hj, Array.getElem?_toList] at hu
    simp [World.cell?, hx, hu]
  · have : j < cur.size := by omega
    simp [World.cell?, hx, this]
  · rcases hz with rfl | h1
    · simp [World.frozen?, hx]
    · have : ¬ fz.1 ≤ j := by omega
      simp [World.frozen?, hx, this]
theorem FarR.lt {W w : World} {v : Value} {xs : List Int} {g cap : Nat} (h : (∀ j, j < cap → (w.cell? ⟨g, j, none⟩).isSome = true ∧ w.frozen? ⟨g, j, none⟩ = false)) (h0 : 0 < cap) : g < w.heap.size := by
  obtain ⟨u, hu⟩ := Option.isSome_iff_exists.1 (h 0 h0).1
  exact World.block_lt_of_cell? w _ hu
/-- What was there when a call began is there; so a text is kept. -/
theorem FarR.below {W w w1 : World} {v : Value} {xs : List Int} (h : FarR W w v xs) (hb : Below w.heap.size w w1) : FarR W w1 v xs := by
  obtain ⟨⟨g, cap, e, hg, hn, hc, hf⟩, hbe⟩ := h
  refine ⟨⟨g, cap, e, hg, hn, fun j u hu => pw_cell_below hb (hc j u hu), fun j hj => ?_⟩, hbe.trans (hb.mono hbe.size)⟩
  have hl : g < w.heap.size := FarR.lt (W := W) (v := v) (xs := xs) hf (by omega)
  have hh := hb.block g hl
  obtain ⟨h1, h2⟩ := hf j hj
  exact ⟨by rw [World.cell?_of_block (a := ⟨g, j, none⟩) hh]; exact h1, by rw [World.frozen?_of_block (a := ⟨g, j, none⟩) hh]; exact h2⟩
theorem bytes_below (w : World) (e : TypeId) (s : ByteArray) : Below w.heap.size w (Lib.bytesWorld w e s) :=
  ⟨rfl, rfl, rfl, by rw [Lib.bytesWorld_size]; omega, fun k hk => Lib.bytesWorld_at_old w e s k hk⟩
theorem far_begin {W w : World} (s : ByteArray) (e : TypeId) (hb : Below W.heap.size W w) : FarR W (Lib.bytesWorld w e s) (.slice (some ⟨w.heap.size, 0, none⟩) s.size (grownCap w s.size 0 e)) (bytesOf s) := by
  have hl := bytesOf_length s
  have hc : (Lib.bytesCells w e s).size = grownCap w s.size 0 e := by
    have := grownCap_ge w s.size 0 e
    unfold Lib.bytesCells
    rw [Array.size_append, Array.size_map, Array.size_replicate]
    show s.size + _ = _
    omega
  refine far_block (hb.trans ((bytes_below w e s).mono hb.size)) (by rw [hl]) hb.size (Lib.bytesWorld_at_new w e s) (by rw [hl]; exact grownCap_ge w s.size 0 e) hc (Or.inr hc) ?_
  unfold Lib.bytesCells
  rw [hl, Array.toList_append, List.take_append_of_le_length (by simp), List.take_of_length_le (by simp)]
  simp [nums, bytesOf]
theorem far_reads {W w : World} {v : Value} {xs : List Int} (h : FarR W w v xs) (hm : xs.length ≤ 1000000) : ∃ A c, v = .slice A xs.length c ∧ ReadsInt w .u8 A xs.length xs := by
  obtain ⟨⟨g, cap, e, hg, hn, hc, hf⟩, hbe⟩ := h
  refine ⟨_, _, e, rfl, by omega, fun _ => ⟨_, rfl, fun j hj => ?_⟩⟩
  rw [add_plain]
  have := hc j (.int .u8 (xs.getD j 0)) (by unfold nums; rw [List.getElem?_map, List.getElem?_eq_getElem hj, List.getD_eq_getElem?_getD, List.getElem?_eq_getElem hj]; rfl)
  rw [Nat.zero_add] at this
  exact this
theorem far_room {W w : World} {xs ys : List Int} {g cap : Nat} (hbe : Below W.heap.size W w) (hg : W.heap.size ≤ g) (hr : xs.length + ys.length ≤ cap) (hc : ∀ j u, (nums .u8 xs)[j]? = some u → w.cell? ⟨g, 0 + j, none⟩ = some u)
    (hf : ∀ j, j < cap → (w.cell? ⟨g, j, none⟩).isSome = true ∧ w.frozen? ⟨g, j, none⟩ = false) : FarR W (w.setCells g (0 + xs.length * 1) (nums .u8 ys)) (.slice (some ⟨g, 0, none⟩) (xs.length + ys.length) cap) (xs ++ ys) := by
  rw [Nat.mul_one]
  have hb : Below W.heap.size w (w.setCells g (0 + xs.length) (nums .u8 ys)) := by
    obtain ⟨h1, h2, h3, h4⟩ := setCells_same g (nums .u8 ys) (0 + xs.length) w
    exact ⟨h1, h2, h3, by omega, fun k hk => setCells_far (nums .u8 ys) (0 + xs.length) k (by omega)⟩
  refine ⟨⟨g, cap, by rw [List.length_append], hg, by rw [List.length_append]; exact hr, fun j u hu => ?_, fun j hj => ⟨?_, ?_⟩⟩, hbe.trans hb⟩
  · rw [nums_append] at hu
    by_cases hj : j < xs.length
    · rw [List.getElem?_append_left (by rw [nums_length]; exact hj)] at hu
      rw [World.cell?_setCells_out g _ _ w _ (fun _ _ => Or.inl (by show 0 + j < 0 + xs.length; omega))]
      exact hc j u hu
    · rw [List.getElem?_append_right (by rw [nums_length]; omega), nums_length] at hu
      obtain ⟨h1, h2⟩ := List.getElem?_eq_some_iff.1 hu
      have := World.cell?_setCells_in g (nums .u8 ys) (0 + xs.length) w (fun i hi => by rw [nums_length] at hi; exact (hf (0 + xs.length + i) (by omega)).1) (j - xs.length) h1
      rw [h2, show 0 + xs.length + (j - xs.length) = 0 + j by omega] at this
      exact this
  · exact World.isSome_setCells g _ _ w _ (hf j hj).1
  · rw [World.frozen?_setCells]
    exact (hf j hj).2
theorem far_grow {W w w1 : World} {e : TypeId} {v1 : Value} {zs : List Int} (hbe : Below W.heap.size W w) (ho : w1.ownsRow w.heap.size e 1 v1 zs.length (nums .u8 zs)) (hg : w.grownBy w1 none) (hz : 0 < zs.length) : FarR W w1 v1 zs := by
  have hb : Below w.heap.size w w1 := ⟨hg.os, hg.tape, hg.output, hg.size, fun k hk => hg.block k hk (by simp)⟩
  rcases ho.2 with ⟨_, h0⟩ | ⟨g, cap, cur, hv, h1, h2, h3, h4, h5, h6⟩
  · omega
  · exact far_block (hbe.trans (hb.mono hbe.size)) hv (Nat.le_trans hbe.size h1) h2 h3 (by omega) (Or.inl rfl) (by rw [Nat.mul_one] at h6; exact h6)
section
variable {P : Program} {W w : World}
/-- More of a text: a row of bytes. -/
theorem far_app {ops : Array Oper} {rest : List Oper} {o : Oper} {a : Act} {Q : Exit → Act → World → Prop} (hgd : o.guard = none) (s x : Operand) (t e : TypeId)
    (ho : o.op = .call { callee := .builtin .append, args := #[s, x], argTypes := #[t, t] })
    (ht : P.underlying t = some (.slice e)) (hinfo : (P.info? e).map (fun i => (i.zero, i.size, i.bytes)) = some (some (.int .u8 0), 1, 1))
    (v : Value) (xs ys : List Int) (ad : Addr) (m c : Nat) (hs : a.eval s = v) (hx : a.eval x = .slice (some ad) m c) (hm : ys.length = m) (hy : ∀ j u, (nums .u8 ys)[j]? = some u → w.cell? (ad.add j) = some u)
    (HR : FarR W w v xs) (h0 : 0 < m) (hl : xs.length + m ≤ 100000000)
    (h : ∀ v1 w1, FarR W w1 v1 (xs ++ ys) → wpList P ops Q rest (a.put o.dst v1) w1) : wpList P ops Q (o :: rest) a w := by
  obtain ⟨i0, hi, hzz⟩ := Option.map_eq_some_iff.1 hinfo
  simp only [Prod.mk.injEq] at hzz
  obtain ⟨hz0, hz1, hz2⟩ := hzz
  obtain ⟨⟨g, cap, hv, hg, hn, hc, hf⟩, hbe⟩ := HR
  subst hm
  refine wpList_append_arg w hgd s x t ho e i0 (.int .u8 0) 1 1 ht hi hz0 hz1 hz2 rfl (by decide) g 0 xs.length cap (nums .u8 xs) (hs.trans hv) (by rw [nums_length, Nat.mul_one]) (by simpa using hc) ad ys.length c (nums .u8 ys) hx (by rw [nums_length, Nat.mul_one]) hy ?_ ?_ (by simp only [maxLen]; omega) (by omega) (fun hr => ?_) (fun hgr v1 w1 ho1 hg1 => ?_)
  · intro u hu
    obtain ⟨z, _, rfl⟩ := List.mem_map.1 hu
    rfl
  · intro hr j hj
    rw [nums_length] at hj
    exact hf (0 + xs.length * 1 + j) (by omega)
  · exact h _ _ (far_room hbe hg hr hc hf)
  · refine h _ _ (far_grow (e := e) hbe ?_ hg1 (by rw [List.length_append]; omega))
    rw [List.length_append, nums_append]
    exact ho1
/-- More of a text: a string. -/
theorem far_str {ops : Array Oper} {rest : List Oper} {o : Oper} {a : Act} {Q : Exit → Act → World → Prop} (hgd : o.guard = none) (sl x : Operand) (t u e : TypeId)
    (ho : o.op = .call { callee := .builtin .append, args := #[sl, x], argTypes := #[t, u] })
    (ht : P.underlying t = some (.slice e)) (hu : P.underlying u = some .string) (hinfo : (P.info? e).map (fun i => (i.zero, i.size, i.bytes)) = some (some (.int .u8 0), 1, 1))
    (v : Value) (xs : List Int) (s : ByteArray) (hs : a.eval sl = v) (hx : a.eval x = .string s) (HR : FarR W w v xs) (h0 : 0 < s.size) (hl : xs.length + s.size ≤ 100000000)
    (h : ∀ v1 w1, FarR W w1 v1 (xs ++ bytesOf s) → wpList P ops Q rest (a.put o.dst v1) w1) : wpList P ops Q (o :: rest) a w := by
  obtain ⟨i0, hi, hzz⟩ := Option.map_eq_some_iff.1 hinfo
  simp only [Prod.mk.injEq] at hzz
  obtain ⟨hz0, hz1, hz2⟩ := hzz
  obtain ⟨⟨g, cap, hv, hg, hn, hc, hf⟩, hbe⟩ := HR
  have hsc : Lib.strCells s = nums .u8 (bytesOf s) := by simp [nums, bytesOf, Lib.strCells]
  have hbl := bytesOf_length s
  refine wpList_plain hgd fun K hK => ?_
  by_cases hr : xs.length + s.size ≤ cap
  · have hfc := Lib.run_firstCells_string (P := P) w 1 s
    have hst := run_storeCells_cells (P := P) g (0 + xs.length * 1) (Lib.strCells s) 0 w (fun j hj => by rw [Lib.strCells_length] at hj; exact (hf (0 + xs.length * 1 + 0 + j) (by omega)).1) (fun j hj => by rw [Lib.strCells_length] at hj; exact (hf (0 + xs.length * 1 + 0 + j) (by omega)).2) (Lib.strCells_oneCell s)
    have hrun : (Builtin.append_ #[t, u] o.type #[.slice (some ⟨g, 0, none⟩) xs.length cap, .string s]).run P w = .ok (.slice (some ⟨g, 0, none⟩) (xs.length + s.size) cap) (w.setCells g (0 + xs.length * 1) (Lib.strCells s)) := by
      simp only [Nat.add_zero] at hst
      simp only [Nat.zero_add, Nat.mul_one] at hst ⊢
      simp [Builtin.append_, run_underlying ht, run_underlying hu, sizeOf, typeInfo, hi, hz1, Builtin.lenOf, hr, hfc, Addr.add_lit, hst]
    unfold Oper.wp execOp
    simp only [ho, resolve, invoke, builtin, Sem.run_bind, Sem.run_pure, Result.andThen_ok, List.map_toArray, List.map_cons, List.map_nil, hs, hx, hv, hrun]
    refine hK _ _ (h _ _ ?_)
    rw [hsc, ← hbl]
    exact far_room hbe hg (by rw [hbl]; exact hr) hc hf
  · have hgc := grownCap_ge w (xs.length + s.size) cap e
    have hrun := Lib.run_append_grow_string (P := P) w t u o.type e i0 (.int .u8 0) ht hu hi hz0 ⟨g, 0, none⟩ xs.length cap (nums .u8 xs) (by rw [nums_length, hz1, Nat.mul_one]) (fun j u hu => by rw [Addr.add_lit]; exact hc j u hu) s (by omega) (by omega) (by rw [hz2]; exact growslice_fits (by omega) (by omega))
    unfold Oper.wp execOp
    simp only [ho, resolve, invoke, builtin, Sem.run_bind, Sem.run_pure, Result.andThen_ok, List.map_toArray, List.map_cons, List.map_nil, hs, hx, hv, hrun]
    refine hK _ _ (h _ _ ?_)
    rw [hsc]
    have hlen : (xs ++ bytesOf s).length = xs.length + s.size := by rw [List.length_append, hbl]
    refine far_block (g := w.heap.size) (fz := (0, 0)) ?_ (by rw [hlen]) hbe.size (heap_alloc_new w.drew _) (by rw [hlen]; exact hgc) ?_ (Or.inl rfl) ?_
    · exact hbe.trans ((below_drew (Below.refl _ w)).trans ((Below.refl W.heap.size w.drew).alloc hbe.size _))
    · have hz1 : (Value.int IntKind.u8 0).cells.size = 1 := rfl
      simp only [Array.size_append, List.size_toArray, size_zeroCells, hz1, nums_length, hbl]
      omega
    · simp only [Array.toList_append, List.append_assoc]
      rw [← List.append_assoc, ← nums_append, ← nums_length .u8 (xs ++ bytesOf s)]
      exact List.take_left
end
end Go.Proofs.Ytaghmhcccighgaa.DF
