/- The rows of Lengths: coins and packs with the rows of their symbols. -/
import Derived.Test.YtmmoenleldcadaaGS
import Derived.Test.YtmmoenleldcadaaHConc
namespace Go.Proofs.Ytmmoenleldcadaa.HF
open Go.RowKit Go.Proofs.YtmmoenleldcadaaW.PrintWords Go.Proofs.YtmmoenleldcadaaW.PrintLast Go.Proofs.YtmmoenleldcadaaW.PrintMore Go.Proofs.Ytmmoenleldcadaa.HW Go.Proofs.Ytmmoenleldcadaa.MB Go.Proofs.Ytmmoenleldcadaa.Fn
/-- The row of a pack's symbols. -/
def PO (w : World) (B : Nat) (ok : Nat → Prop) (p : Pk) : Prop := (Kd.int .i64).R 3 w B ok (.slice p.A p.n p.c) p.of
theorem PO.below {w w' : World} {B : Nat} {ok : Nat → Prop} {p : Pk} (h : PO w B ok p) (hb : Below w.heap.size w w') : PO w' B ok p := Kd.R_below h hb
theorem PO.reads {w : World} {B : Nat} {ok : Nat → Prop} {p : Pk} (h : PO w B ok p) : p.n = p.of.length ∧ p.n ≤ p.c ∧ (Kd.int .i64).C w p.A p.n p.of := by
  have h1 := Kd.R_reads' h
  exact ⟨h1.1, h1.2.1, by rw [h1.1]; exact h1.2.2⟩
/-- A row of packs was written. -/
theorem PO.grown {w w' : World} {B : Nat} {ok : Nat → Prop} {p : Pk} {v : Value} (h : PO w B ok p) (hty : ∀ k, v.ownBlock = some k → ∃ cells, w.heap[k]? = some (.cells cells 63 (0, 0))) (hg : w.grownBy w' v.ownBlock) : PO w' B ok p :=
  Kd.R_over' h hty (by decide) hg
theorem PO.fr {w w' : World} {B g : Nat} {ok : Nat → Prop} {p : Pk} (h : PO w B ok p) (hty : ∃ cells, w.heap[g]? = some (.cells cells 63 (0, 0))) (hf : Fr (fun k => k = g) w w') : PO w' B ok p := by
  have h1 := Kd.R_apart' (v := .slice (some ⟨g, 0, none⟩) 0 0) h (fun k hk => by
    have : g = k := by simpa [Value.ownBlock] using hk
    subst this
    exact hty) (by decide)
  exact Kd.R_mono (Kd.R_step h1 (fun k hk hlt => hf.block k hlt (fun e => hk.2 (by rw [e]; rfl)))) (fun _ hk => hk.1)
/-- A row of one number. -/
theorem lit_row {w : World} {B : Nat} (hB : B ≤ w.heap.size) (i : Int) : (Kd.int .i64).R 3 (w.alloc (.cells #[.int .i64 i] 3)) B (fun _ => True) (.slice (some ⟨w.heap.size, 0, none⟩) 1 1) [i] := by
  refine ⟨fun _ _ => trivial, [.int .i64 i], ?_, ⟨rfl, fun j p hj => ?_⟩⟩
  · have h2 := World.ownsRow_lit (base := B) (e := 3) (size := 1) w #[.int .i64 i] 1 hB (by decide) rfl
    exact h2
  · match j, hj with
    | 0, hj =>
      simp at hj
      subst hj
      rfl
/-- The coins so far. -/
structure L1 (W w : World) (v : Value) (l : List Int) (xs : List Pk) : Prop where
  be : Below W.heap.size W w
  ro : kP.R 63 w W.heap.size (fun _ => True) v xs
  po : ∀ p ∈ xs, PO w W.heap.size (fun _ => True) p
  ab : xs.map Pk.abs = coinsF 0 l
theorem L1.start (W : World) : L1 W W (.slice none 0 0) [] [] := ⟨Below.refl _ _, Kd.R_nil _ _ _ _ _, (fun p hp => by cases hp), rfl⟩
theorem L1.skip {W w : World} {v : Value} {l : List Int} {f : Int} {xs : List Pk} (h : L1 W w v l xs) (hf : ¬ 0 < f) : L1 W w v (l ++ [f]) xs := ⟨h.be, h.ro, h.po, by rw [coinsF_snoc, if_neg hf, List.append_nil]; exact h.ab⟩
theorem L1.add {W w w' : World} {v v' : Value} {l : List Int} {f : Int} {xs : List Pk} (h : L1 W w v l xs) (hf : 0 < f)
    (ho : kP.R 63 w' W.heap.size (fun _ => True) v' (xs ++ [⟨f, some ⟨w.heap.size, 0, none⟩, 1, 1, [(l.length : Int)]⟩])) (hb : Below W.heap.size W w') (hg : (w.alloc (.cells #[.int .i64 (l.length : Int)] 3)).grownBy w' v.ownBlock) :
    L1 W w' v' (l ++ [f]) (xs ++ [⟨f, some ⟨w.heap.size, 0, none⟩, 1, 1, [(l.length : Int)]⟩]) := by
  have hro := Kd.R_alloc h.ro (.cells #[.int .i64 (l.length : Int)] 3)
  refine ⟨hb, ho, fun p hp => ?_, ?_⟩
  · rcases List.mem_append.1 hp with hp | hp
    · exact PO.grown (Kd.R_alloc (h.po p hp) _) (Kd.R_typed hro) hg
    · rw [List.mem_singleton.1 hp]
      exact PO.grown (lit_row h.be.size _) (Kd.R_typed hro) hg
  · rw [coinsF_snoc, if_pos hf, List.map_append, h.ab]
    congr 1
    show [(f, [(l.length : Int)])] = [(f, [0 + (l.length : Int)])]
    rw [Int.zero_add]
theorem coins_one : ∀ (l : List Int) (i : Int), ∀ p ∈ coinsF i l, ∃ j, p.2 = [j]
  | [], _ => fun p hp => by cases hp
  | f :: r, i => fun p hp => by
    unfold coinsF at hp
    split at hp
    · rcases List.mem_cons.1 hp with rfl | hp
      · exact ⟨i, rfl⟩
      · exact coins_one r (i + 1) p hp
    · exact coins_one r (i + 1) p hp
/-- The coins, and the lengths so far. -/
structure L2 (W w : World) (v vo : Value) (ob : Nat) (xs : List Pk) (zs : List Int) : Prop where
  be : Below W.heap.size W w
  ro : kP.R 63 w W.heap.size (fun _ => True) v xs
  ou : (Kd.int .i64).R 3 w W.heap.size (fun _ => True) vo zs
  po : ∀ p ∈ xs, PO w W.heap.size (fun k => k ≠ ob) p
  vb : vo.ownBlock = some ob
theorem L1.made {W w w' : World} {v vo : Value} {l : List Int} {xs : List Pk} {zs : List Int} {b : Nat} (h : L1 W w v l xs) (ho : (Kd.int .i64).R 3 w' W.heap.size (fun _ => True) vo zs) (hb : Below W.heap.size W w') (hg : w.grownBy w' none)
    (h1 : vo.ownBlock = some b) (h2 : w.heap.size ≤ b) : L2 W w' v vo b xs zs := by
  have hbe : Below w.heap.size w w' := ⟨hg.os, hg.tape, hg.output, hg.size, fun k hk => hg.block k hk (by simp)⟩
  exact ⟨hb, Kd.R_below h.ro hbe, ho, fun p hp => Kd.R_mono (Kd.R_below (Kd.R_bound (h.po p hp)) hbe) (fun k hk => by have := hk.2.2.1; omega), h1⟩
theorem L2.below {W w w' : World} {v vo : Value} {ob : Nat} {xs : List Pk} {zs : List Int} (h : L2 W w v vo ob xs zs) (hb : Below w.heap.size w w') : L2 W w' v vo ob xs zs :=
  ⟨h.be.trans (hb.mono h.be.size), Kd.R_below h.ro hb, Kd.R_below h.ou hb, fun p hp => (h.po p hp).below hb, h.vb⟩
/-- A row of numbers stays where a row of packs is sorted. -/
theorem int_fr {w w' : World} {B g : Nat} {ok : Nat → Prop} {v : Value} {zs : List Int} (h : (Kd.int .i64).R 3 w B ok v zs) (hty : ∃ cells, w.heap[g]? = some (.cells cells 63 (0, 0))) (hf : Fr (fun k => k = g) w w') : (Kd.int .i64).R 3 w' B ok v zs := by
  have h1 := Kd.R_apart' (v := .slice (some ⟨g, 0, none⟩) 0 0) h (fun k hk => by
    have : g = k := by simpa [Value.ownBlock] using hk
    subst this
    exact hty) (by decide)
  exact Kd.R_mono (Kd.R_step h1 (fun k hk hlt => hf.block k hlt (fun e => hk.2 (by rw [e]; rfl)))) (fun _ hk => hk.1)
theorem L2.sorted {W w w' : World} {vo : Value} {g n c ob : Nat} {xs ys : List Pk} {zs : List Int} (h : L2 W w (.slice (some ⟨g, 0, none⟩) n c) vo ob xs zs) (hs : SD w w' W.heap.size g n c ys) (hp : ys.Perm xs) : L2 W w' (.slice (some ⟨g, 0, none⟩) n c) vo ob ys zs := by
  have hty := Kd.R_typed h.ro g rfl
  refine ⟨h.be.trans (hs.fr.below h.be.size (fun k hk => ?_)), hs.ro, int_fr h.ou hty hs.fr, fun p hm => (h.po p (hp.mem_iff.1 hm)).fr hty hs.fr, h.vb⟩
  rw [hk]
  exact Kd.R_base h.ro g rfl
/-- The coins, the level's row, the lengths so far. -/
structure L3 (W w : World) (vc va vo : Value) (ob : Nat) (cs ys : List Pk) (zs : List Int) : Prop where
  co : L2 W w vc vo ob cs zs
  al : kP.R 63 w W.heap.size (fun _ => True) va ys
  pa : ∀ p ∈ ys, PO w W.heap.size (fun k => k ≠ ob) p
theorem L3.below {W w w' : World} {vc va vo : Value} {ob : Nat} {cs ys : List Pk} {zs : List Int} (h : L3 W w vc va vo ob cs ys zs) (hb : Below w.heap.size w w') : L3 W w' vc va vo ob cs ys zs :=
  ⟨h.co.below hb, Kd.R_below h.al hb, fun p hp => (h.pa p hp).below hb⟩
theorem L3.start {W w : World} {vc vo : Value} {ob : Nat} {cs : List Pk} {zs : List Int} (h : L2 W w vc vo ob cs zs) : L3 W w vc vc vo ob cs cs zs := ⟨h, h.ro, h.po⟩
theorem L2.ob_lt {W w : World} {v vo : Value} {ob : Nat} {xs : List Pk} {zs : List Int} (h : L2 W w v vo ob xs zs) : ob < w.heap.size := Kd.R_lt h.ou ob h.vb
/-- The packs so far, behind the world w0 of the round's start. -/
structure L4 (w0 w : World) (vp : Value) (ps : List Pk) : Prop where
  be : Below w0.heap.size w0 w
  pk : kP.R 63 w w0.heap.size (fun _ => True) vp ps
  pp : ∀ p ∈ ps, PO w w0.heap.size (fun _ => True) p
theorem L4.start (w : World) : L4 w w (.slice none 0 0) [] := ⟨Below.refl _ _, Kd.R_nil _ _ _ _ _, (fun p hp => by cases hp)⟩
/-- The next level stands sorted. -/
theorem L3.next {W w0 w1 w2 w3 : World} {vc va vo vp : Value} {ob g n c : Nat} {cs ys ps us : List Pk} {zs : List Int} (h : L3 W w0 vc va vo ob cs ys zs) (h4 : L4 w0 w1 vp ps) (hb : Below w1.heap.size w1 w2) (hg : w1.heap.size ≤ g)
    (hs : SD w2 w3 W.heap.size g n c us) (hp : us.Perm (cs ++ ps)) : L3 W w3 vc (.slice (some ⟨g, 0, none⟩) n c) vo ob cs us zs := by
  have h13 : Below w1.heap.size w1 w3 := hb.trans (hs.fr.below hb.size (fun k hk => by rw [hk]; exact hg))
  have h03 : Below w0.heap.size w0 w3 := h4.be.trans (h13.mono h4.be.size)
  refine ⟨h.co.below h03, hs.ro, fun p hm => ?_⟩
  rcases List.mem_append.1 (hp.mem_iff.1 hm) with hm | hm
  · exact (h.co.po p hm).below h03
  · have h1 := Kd.R_bound ((h4.pp p hm).below h13)
    have hob := h.co.ob_lt
    exact Kd.R_lower (Kd.R_mono h1 (fun k hk => by have := hk.2.1; omega)) h.co.be.size
theorem L4.below {w0 w w' : World} {vp : Value} {ps : List Pk} (h : L4 w0 w vp ps) (hb : Below w.heap.size w w') : L4 w0 w' vp ps := ⟨h.be.trans (hb.mono h.be.size), Kd.R_below h.pk hb, fun p hp => (h.pp p hp).below hb⟩
theorem L4.add {w0 w w' : World} {vp v' : Value} {ps : List Pk} {q : Pk} (h : L4 w0 w vp ps) (hq : PO w w0.heap.size (fun _ => True) q) (ho : kP.R 63 w' w0.heap.size (fun _ => True) v' (ps ++ [q])) (hb : Below w0.heap.size w0 w') (hg : w.grownBy w' vp.ownBlock) : L4 w0 w' v' (ps ++ [q]) := by
  refine ⟨hb, ho, fun p hp => ?_⟩
  rcases List.mem_append.1 hp with hp | hp
  · exact PO.grown (h.pp p hp) (Kd.R_typed h.pk) hg
  · rw [List.mem_singleton.1 hp]
    exact PO.grown hq (Kd.R_typed h.pk) hg
/-- The last level's row, the lengths so far. -/
structure L5 (W w : World) (va vo : Value) (ob : Nat) (ys : List Pk) (zs : List Int) : Prop where
  be : Below W.heap.size W w
  al : kP.R 63 w W.heap.size (fun _ => True) va ys
  pa : ∀ p ∈ ys, PO w W.heap.size (fun k => k ≠ ob) p
  ou : (Kd.int .i64).R 3 w W.heap.size (fun _ => True) vo zs
  vb : vo.ownBlock = some ob
theorem L3.last {W w : World} {vc va vo : Value} {ob : Nat} {cs ys : List Pk} {zs : List Int} (h : L3 W w vc va vo ob cs ys zs) : L5 W w va vo ob ys zs := ⟨h.co.be, h.al, h.pa, h.co.ou, h.co.vb⟩
theorem L5.below {W w w' : World} {va vo : Value} {ob : Nat} {ys : List Pk} {zs : List Int} (h : L5 W w va vo ob ys zs) (hb : Below w.heap.size w w') : L5 W w' va vo ob ys zs :=
  ⟨h.be.trans (hb.mono h.be.size), Kd.R_below h.al hb, fun p hp => (h.pa p hp).below hb, Kd.R_below h.ou hb, h.vb⟩
theorem L5.set {W w w' : World} {va vo : Value} {ob : Nat} {ys : List Pk} {zs zs' : List Int} (h : L5 W w va vo ob ys zs) (ho : (Kd.int .i64).R 3 w' W.heap.size (fun _ => True) vo zs') (hg : w.grownBy w' vo.ownBlock) : L5 W w' va vo ob ys zs' := by
  refine ⟨h.be.grown hg h.be.size (Kd.R_base h.ou), Kd.R_over' h.al (Kd.R_typed h.ou) (by decide) hg, fun p hp => ?_, ho, h.vb⟩
  exact Kd.R_grown (h.pa p hp) hg (fun k hk e => hk (by rw [h.vb] at e; exact Option.some.inj e))
end Go.Proofs.Ytmmoenleldcadaa.HF
