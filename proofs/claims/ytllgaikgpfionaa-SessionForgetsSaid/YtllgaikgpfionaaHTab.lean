/- The table of producers: how it lies. -/
import Derived.Test.YtllgaikgpfionaaHMap
import Derived.Test.YtllgaikgpfionaaHMem
namespace Go.Proofs.Ytllgaikgpfionaa.SM
open Go.RowKit Go.Proofs.YtllgaikgpfionaaW.PrintWords Go.Proofs.YtllgaikgpfionaaW.PrintLast Go.Proofs.YtllgaikgpfionaaW.PrintMore Go.Proofs.Ytllgaikgpfionaa.HW
/-- Who waits for a batch. -/
structure Wt where
  prod : Int
  seq : Int
  who : Int
def zWt : Wt := ⟨0, 0, 0⟩
def kWt : Kd Wt := Kd.iso (Kd.pair (Kd.int .i64) (Kd.pair (Kd.int .i64) (Kd.int .i64))) (fun x : Wt => (x.prod, x.seq, x.who))
theorem kWt_open {w : World} {x : Wt} {cs : List Value} (h : kWt.K w x cs) : cs = [.int .i64 x.prod, .int .i64 x.seq, .int .i64 x.who] := by
  obtain ⟨_, _, rfl, rfl, ⟨_, _, rfl, rfl, rfl⟩⟩ := h
  exact rfl
theorem kWt_openM {w : World} {base : Nat} {ok : Nat → Prop} {x : Wt} {cs : List Value} (h : kWt.M w base ok x cs) : cs = [.int .i64 x.prod, .int .i64 x.seq, .int .i64 x.who] := by
  obtain ⟨_, _, rfl, rfl, ⟨_, _, rfl, rfl, rfl⟩⟩ := h
  exact rfl
theorem kWt_mk (w : World) (x : Wt) : kWt.K w x [.int .i64 x.prod, .int .i64 x.seq, .int .i64 x.who] := ⟨[.int .i64 x.prod], [.int .i64 x.seq, .int .i64 x.who], rfl, rfl, ⟨[.int .i64 x.seq], [.int .i64 x.who], rfl, rfl, rfl⟩⟩
theorem kWt_mkM (w : World) (base : Nat) (ok : Nat → Prop) (x : Wt) : kWt.M w base ok x [.int .i64 x.prod, .int .i64 x.seq, .int .i64 x.who] := ⟨[.int .i64 x.prod], [.int .i64 x.seq, .int .i64 x.who], rfl, rfl, ⟨[.int .i64 x.seq], [.int .i64 x.who], rfl, rfl, rfl⟩⟩
def rdWt (xs : List Wt) (i : Int) : Wt := xs.getD i.toNat zWt
theorem atWt {w : World} {A : Option Addr} {n : Nat} {xs : List Wt} (h : Kd.C kWt w A n xs) (i : Int) (h0 : 0 ≤ i) (h1 : i < n) : ∃ ad, A = some ad ∧ w.cell? (ad.add (i.toNat * 3)) = some (.int .i64 (rdWt xs i).prod) ∧ w.cell? ⟨(ad.add (i.toNat * 3)).block, (ad.add (i.toNat * 3)).off + 1, none⟩ = some (.int .i64 (rdWt xs i).seq) ∧ w.cell? ⟨(ad.add (i.toNat * 3)).block, (ad.add (i.toNat * 3)).off + 2, none⟩ = some (.int .i64 (rdWt xs i).who) := by
  obtain ⟨ad, c, e, _, hK, hc0⟩ := Kd.C_get h zWt i h0 h1
  have hc : ∀ j u, c[j]? = some u → w.cell? (ad.add (i.toNat * 3 + j)) = some u := hc0
  obtain rfl := kWt_open hK
  exact ⟨ad, e, hc 0 _ rfl, by rw [← add_field _ _ 1 (by omega)]; exact hc 1 _ rfl, by rw [← add_field _ _ 2 (by omega)]; exact hc 2 _ rfl⟩
/-- What a waiter is told. -/
structure Ack where
  step : Int
  prod : Int
  seq : Int
  err : Int
  base : Int
  count : Int
def zAck : Ack := ⟨0, 0, 0, 0, 0, 0⟩
def kAck : Kd Ack := Kd.iso (Kd.pair (Kd.int .i64) (Kd.pair (Kd.int .i64) (Kd.pair (Kd.int .i64) (Kd.pair (Kd.int .i64) (Kd.pair (Kd.int .i64) (Kd.int .i64)))))) (fun x : Ack => (x.step, x.prod, x.seq, x.err, x.base, x.count))
theorem kAck_open {w : World} {x : Ack} {cs : List Value} (h : kAck.K w x cs) : cs = [.int .i64 x.step, .int .i64 x.prod, .int .i64 x.seq, .int .i64 x.err, .int .i64 x.base, .int .i64 x.count] := by
  obtain ⟨_, _, rfl, rfl, ⟨_, _, rfl, rfl, ⟨_, _, rfl, rfl, ⟨_, _, rfl, rfl, ⟨_, _, rfl, rfl, rfl⟩⟩⟩⟩⟩ := h
  exact rfl
theorem kAck_openM {w : World} {base : Nat} {ok : Nat → Prop} {x : Ack} {cs : List Value} (h : kAck.M w base ok x cs) : cs = [.int .i64 x.step, .int .i64 x.prod, .int .i64 x.seq, .int .i64 x.err, .int .i64 x.base, .int .i64 x.count] := by
  obtain ⟨_, _, rfl, rfl, ⟨_, _, rfl, rfl, ⟨_, _, rfl, rfl, ⟨_, _, rfl, rfl, ⟨_, _, rfl, rfl, rfl⟩⟩⟩⟩⟩ := h
  exact rfl
theorem kAck_mk (w : World) (x : Ack) : kAck.K w x [.int .i64 x.step, .int .i64 x.prod, .int .i64 x.seq, .int .i64 x.err, .int .i64 x.base, .int .i64 x.count] := ⟨[.int .i64 x.step], [.int .i64 x.prod, .int .i64 x.seq, .int .i64 x.err, .int .i64 x.base, .int .i64 x.count], rfl, rfl, ⟨[.int .i64 x.prod], [.int .i64 x.seq, .int .i64 x.err, .int .i64 x.base, .int .i64 x.count], rfl, rfl, ⟨[.int .i64 x.seq], [.int .i64 x.err, .int .i64 x.base, .int .i64 x.count], rfl, rfl, ⟨[.int .i64 x.err], [.int .i64 x.base, .int .i64 x.count], rfl, rfl, ⟨[.int .i64 x.base], [.int .i64 x.count], rfl, rfl, rfl⟩⟩⟩⟩⟩
theorem kAck_mkM (w : World) (base : Nat) (ok : Nat → Prop) (x : Ack) : kAck.M w base ok x [.int .i64 x.step, .int .i64 x.prod, .int .i64 x.seq, .int .i64 x.err, .int .i64 x.base, .int .i64 x.count] := ⟨[.int .i64 x.step], [.int .i64 x.prod, .int .i64 x.seq, .int .i64 x.err, .int .i64 x.base, .int .i64 x.count], rfl, rfl, ⟨[.int .i64 x.prod], [.int .i64 x.seq, .int .i64 x.err, .int .i64 x.base, .int .i64 x.count], rfl, rfl, ⟨[.int .i64 x.seq], [.int .i64 x.err, .int .i64 x.base, .int .i64 x.count], rfl, rfl, ⟨[.int .i64 x.err], [.int .i64 x.base, .int .i64 x.count], rfl, rfl, ⟨[.int .i64 x.base], [.int .i64 x.count], rfl, rfl, rfl⟩⟩⟩⟩⟩
def rdAck (xs : List Ack) (i : Int) : Ack := xs.getD i.toNat zAck
theorem atAck {w : World} {A : Option Addr} {n : Nat} {xs : List Ack} (h : Kd.C kAck w A n xs) (i : Int) (h0 : 0 ≤ i) (h1 : i < n) : ∃ ad, A = some ad ∧ w.cell? (ad.add (i.toNat * 6)) = some (.int .i64 (rdAck xs i).step) ∧ w.cell? ⟨(ad.add (i.toNat * 6)).block, (ad.add (i.toNat * 6)).off + 1, none⟩ = some (.int .i64 (rdAck xs i).prod) ∧ w.cell? ⟨(ad.add (i.toNat * 6)).block, (ad.add (i.toNat * 6)).off + 2, none⟩ = some (.int .i64 (rdAck xs i).seq) ∧ w.cell? ⟨(ad.add (i.toNat * 6)).block, (ad.add (i.toNat * 6)).off + 3, none⟩ = some (.int .i64 (rdAck xs i).err) ∧ w.cell? ⟨(ad.add (i.toNat * 6)).block, (ad.add (i.toNat * 6)).off + 4, none⟩ = some (.int .i64 (rdAck xs i).base) ∧ w.cell? ⟨(ad.add (i.toNat * 6)).block, (ad.add (i.toNat * 6)).off + 5, none⟩ = some (.int .i64 (rdAck xs i).count) := by
  obtain ⟨ad, c, e, _, hK, hc0⟩ := Kd.C_get h zAck i h0 h1
  have hc : ∀ j u, c[j]? = some u → w.cell? (ad.add (i.toNat * 6 + j)) = some u := hc0
  obtain rfl := kAck_open hK
  exact ⟨ad, e, hc 0 _ rfl, by rw [← add_field _ _ 1 (by omega)]; exact hc 1 _ rfl, by rw [← add_field _ _ 2 (by omega)]; exact hc 2 _ rfl, by rw [← add_field _ _ 3 (by omega)]; exact hc 3 _ rfl, by rw [← add_field _ _ 4 (by omega)]; exact hc 4 _ rfl, by rw [← add_field _ _ 5 (by omega)]; exact hc 5 _ rfl⟩

theorem info62 : (Try.prog.info? 62).map (fun i => (i.zero, i.size, i.bytes)) = some (some (.agg #[(.int .i64 0), (.int .i64 0), (.int .i64 0)]), 3, 24) := by kernel_rfl
theorem info41 : (Try.prog.info? 41).map (fun i => (i.zero, i.size, i.bytes)) = some (some (.agg #[(.int .i64 0), (.int .i64 0), (.int .i64 0), (.int .i64 0), (.int .i64 0), (.int .i64 0)]), 6, 48) := by kernel_rfl
/-- A table: how many may wait, what was put, where it ends, who waits. -/
structure Tb where
  q : Int
  l : List ((Int × Int) × Bat)
  e : Int
  ws : List Wt
/-- Block t is a table: its map's block m, its waiters' value v; all from B on. -/
structure IsT (W : World) (B t m : Nat) (v : Value) (T : Tb) : Prop where
  bt : W.heap[t]? = some (.cells #[.int .i64 T.q, .map (some m), .int .i64 T.e, v] 57 (0, 0))
  bm : MapIs W m T.l
  ht : B ≤ t
  hm : B ≤ m
  ro : Kd.R kWt 62 W B (fun _ => True) v T.ws
/-- What the table's calls may write. -/
def TS (t m : Nat) (v : Value) (k : Nat) : Prop := k = t ∨ k = m ∨ v.ownBlock = some k
theorem IsT.lt {W : World} {B t m : Nat} {v : Value} {T : Tb} (h : IsT W B t m v T) : t < W.heap.size := blk_lt h.bt
theorem IsT.row_ne {W : World} {B t m : Nat} {v : Value} {T : Tb} (h : IsT W B t m v T) : v.ownBlock ≠ some t ∧ v.ownBlock ≠ some m := by
  refine ⟨fun e => ?_, fun e => ?_⟩
  · exact Kd.R_ne h.ro h.bt (by decide) e.symm
  · obtain ⟨inner, ho⟩ := Kd.R_own h.ro
    obtain ⟨cells, hc⟩ := own_typed ho m e
    obtain ⟨es, c, hb, _⟩ := h.bm
    rw [hb] at hc
    injection hc with hc
    cases hc
theorem IsT.keep {W W' : World} {S : Nat → Prop} {B t m : Nat} {v : Value} {T : Tb} (h : IsT W B t m v T) (hf : Fr S W W') (hn : ∀ k, TS t m v k → ¬ S k) : IsT W' B t m v T :=
  ⟨hf.blk h.bt (hn _ (Or.inl rfl)), h.bm.move (hf.block _ h.bm.lt (hn _ (Or.inr (Or.inl rfl)))), h.ht, h.hm, Kd.R_mono (Kd.R_step (Kd.R_tight rfl h.ro) (fun k hk hlt => hf.block k hlt (hn _ (Or.inr (Or.inr hk.symm))))) (fun _ _ => trivial)⟩
theorem IsT.below {W W' : World} {B t m : Nat} {v : Value} {T : Tb} (h : IsT W B t m v T) (hb : Below W.heap.size W W') : IsT W' B t m v T := h.keep (Fr.of_below_all hb (fun _ => False)) (fun _ _ h => h)
theorem IsT.drew {W : World} {B t m : Nat} {v : Value} {T : Tb} (h : IsT W B t m v T) : IsT W.drew B t m v T := h.below (below_drew (Below.refl _ _))
theorem IsT.setRow {W w1 : World} {B t m : Nat} {v : Value} {T : Tb} (h : IsT W B t m v T) (hf : Fr (fun k => v.ownBlock = some k) W w1) {v1 : Value} {ws : List Wt} (ho : Kd.R kWt 62 w1 B (fun _ => True) v1 ws) :
    IsT (w1.setCell ⟨t, 3, none⟩ v1) B t m v1 { T with ws := ws } ∧ Fr (TS t m v) W (w1.setCell ⟨t, 3, none⟩ v1) := by
  have ht := hf.blk h.bt (fun e => h.row_ne.1 e)
  refine ⟨⟨blk_set ht 3 v1, h.bm.move ((Below.heap_setCell _ _ _ _ (fun e => ?_)).trans (hf.block _ h.bm.lt (fun e => h.row_ne.2 e))), h.ht, h.hm, ?_⟩, ?_⟩
  · obtain ⟨es, cl, hb, _⟩ := h.bm
    have h1 := h.bt
    have e2 : m = t := e
    rw [← e2, hb] at h1
    cases h1
  · exact Kd.R_mono (Kd.R_step (Kd.R_tight rfl ho) (fun k hk _ => Below.heap_setCell _ _ _ _ (fun e => by
      have e2 : k = t := e
      rw [e2] at hk
      exact Kd.R_ne ho ht (by decide) hk))) (fun _ _ => trivial)
  · exact (hf.mono (S' := TS t m v) (fun k _ hk => Or.inr (Or.inr hk))).setCell (Or.inl (Or.inl rfl)) _
theorem IsT.row_ge {W : World} {B t m : Nat} {v : Value} {T : Tb} (h : IsT W B t m v T) (k : Nat) (hk : TS t m v k) : B ≤ k := by
  rcases hk with rfl | rfl | hk
  · exact h.ht
  · exact h.hm
  · exact Kd.R_base h.ro k hk
theorem IsT.other {W : World} {B t m : Nat} {v : Value} {T : Tb} (h : IsT W B t m v T) {g : Nat} {cells : Array Value} {e : TypeId} (hb : W.heap[g]? = some (.cells cells e (0, 0))) (h1 : 57 ≠ e) (h2 : 62 ≠ e) : ¬ TS t m v g := by
  rintro (rfl | rfl | hk)
  · have := h.bt
    rw [hb] at this
    injection this with this
    injection this with _ h3
    exact h1 h3.symm
  · obtain ⟨es, cl, hm, _⟩ := h.bm
    rw [hb] at hm
    cases hm
  · exact Kd.R_ne h.ro hb (by intro e; exact h2 e) hk.symm
theorem IsT.fr_below {W W' : World} {B t m : Nat} {v : Value} {T : Tb} (h : IsT W B t m v T) (hf : Fr (TS t m v) W W') : Below B W W' := hf.below (Nat.le_of_lt (Nat.lt_of_le_of_lt h.ht h.lt)) h.row_ge
theorem IsT.slice {W : World} {B t m : Nat} {v : Value} {T : Tb} (h : IsT W B t m v T) : ∃ A c, v = .slice A T.ws.length c := Kd.R_slice h.ro
end Go.Proofs.Ytllgaikgpfionaa.SM
