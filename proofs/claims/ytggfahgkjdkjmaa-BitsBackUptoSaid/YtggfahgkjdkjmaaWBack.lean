/- BitsBack, walked. -/
import Derived.Test.YtggfahgkjdkjmaaPBack
import Derived.Test.YtggfahgkjdkjmaaHShBits
import Derived.OpenShut
namespace Go.Proofs.Ytggfahgkjdkjmaa.HW
open Go.RowKit Go.Proofs.YtggfahgkjdkjmaaW.PrintWords Go.Proofs.YtggfahgkjdkjmaaW.PrintLast Go.Proofs.YtggfahgkjdkjmaaW.PrintMore Go.Proofs.Ytggfahgkjdkjmaa.MB Go.Proofs.Ytggfahgkjdkjmaa.Fn Go.Proofs.Ytggfahgkjdkjmaa.HR
attribute [local go_sem] max2_int min2_int max_two min_two max_three min_three max_four min_four   -- for this text's walks alone
/-- A writer, a call's block, the calls that were taken. -/
structure DS (w W : World) (B g q : Nat) (v : Value) (l : List Bool) (o : S44) (vl : Value) (xs : List S44) : Prop where
  iw : IsW W B g v l
  ob : OpBlk W q o
  ri : Kd.R k44 44 W B (fun k => k ≠ q) vl xs
  be : Below B w W
  ge : B ≤ W.heap.size
theorem DS.rows_ne {w W : World} {B g q : Nat} {v : Value} {l : List Bool} {o : S44} {vl : Value} {xs : List S44} (h : DS w W B g q v l o vl xs) (k : Nat) (h1 : vl.ownBlock = some k) (h2 : v.ownBlock = some k) : False := by
  obtain ⟨_, _, bs, ho, _⟩ := h.iw
  obtain ⟨inner, hi⟩ := Kd.R_own h.ri
  rcases own_type_ne hi ho (by decide) with e | e
  · rw [e] at h1; cases h1
  · exact e (h1.trans h2.symm)
theorem DS.fr {w W W' : World} {B g q : Nat} {v v' : Value} {l l' : List Bool} {o : S44} {vl : Value} {xs : List S44} (h : DS w W B g q v l o vl xs) (hi : IsW W' B g v' l') (hf : Fr (WS g v) W W') : DS w W' B g q v' l' o vl xs where
  iw := hi
  ob := h.ob.fr h.iw hf
  ri := by
    have h1 := Kd.R_tight2 rfl h.ri
    refine Kd.R_mono (Kd.R_step h1 (fun k hk hlt => hf.block k hlt (fun e => ?_))) (fun _ hk => hk.2)
    rcases e with e | e
    · exact Kd.R_ne h.ri h.iw.1 (by decide) (by rw [← e]; exact hk.1)
    · exact h.rows_ne k hk.1.symm e
  be := h.be.trans (hf.below h.ge (fun k hk => by
    rcases hk with e | e
    · rw [e]; exact h.iw.2.1
    · exact (h.iw.row_lt k e).1))
  ge := Nat.le_trans h.ge hf.size
theorem DS.app {w W W' : World} {B g q : Nat} {v : Value} {l : List Bool} {o : S44} {vl vl' : Value} {xs xs' : List S44} (h : DS w W B g q v l o vl xs) (hr : Kd.R k44 44 W' B (fun k => k ≠ q) vl' xs') (hg : W.grownBy W' vl.ownBlock) (hb : Below B w W') : DS w W' B g q v l o vl' xs' where
  iw := h.iw.keep (Fr.grown (S := fun k => vl.ownBlock = some k) hg (Fr.refl _ _) (fun k hk => Or.inl hk)) (fun e => Kd.R_ne h.ri h.iw.1 (by decide) e.symm) (fun k hk e => h.rows_ne k e hk)
  ob := blk_grown h.ob hg (Kd.R_away h.ri (fun _ hk => hk))
  ri := hr
  be := hb
  ge := Nat.le_trans h.ge hg.size
/-- Between the rounds. -/
structure DL (w W : World) (B g : Nat) (v : Value) (l : List Bool) (vl : Value) (xs : List S44) : Prop where
  iw : IsW W B g v l
  ri : Kd.R k44 44 W B (fun _ => True) vl xs
  be : Below B w W
  ge : B ≤ W.heap.size
theorem DS.dl {w W : World} {B g q : Nat} {v : Value} {l : List Bool} {o : S44} {vl : Value} {xs : List S44} (h : DS w W B g q v l o vl xs) : DL w W B g v l vl xs := ⟨h.iw, Kd.R_mono h.ri (fun _ _ => trivial), h.be, h.ge⟩
theorem DL.below {w W W' : World} {B g : Nat} {v : Value} {l : List Bool} {vl : Value} {xs : List S44} (h : DL w W B g v l vl xs) (hb : Below W.heap.size W W') : DL w W' B g v l vl xs :=
  ⟨h.iw.below hb, Kd.R_below h.ri hb, h.be.trans (hb.mono h.ge), Nat.le_trans h.ge hb.size⟩
theorem DL.new {w W : World} {B g : Nat} {v : Value} {l : List Bool} {vl : Value} {xs : List S44} (h : DL w W B g v l vl xs) (o : S44) : DS w (W.alloc (.cells #[.int .i64 o.f0, .int .i64 o.f1, .int .i64 o.f2, .string o.f3] 44)) B g W.heap.size v l o vl xs where
  iw := (h.below (below_alloc (Below.refl _ _) _)).iw
  ob := heap_alloc_new W _
  ri := Kd.R_mono (Kd.R_alloc (Kd.R_elderB h.ri W.heap.size (Nat.le_refl _)) _) (fun _ hk => hk.2)
  be := (h.below (below_alloc (Below.refl _ _) _)).be
  ge := (h.below (below_alloc (Below.refl _ _) _)).ge
theorem wbits_good (B g : Nat) (v : Value) (l : List Bool) (r : S44) (w : World) (h : IsW w B g v l) (ho : 0 ≤ r.f2 ∧ r.f2 ≤ 57 ∧ 0 ≤ r.f1 ∧ r.f1.toNat < 2 ^ r.f2.toNat) (hl : l.length ≤ 1000000000000) (hB : B ≤ w.heap.size) :
    Calls Try.prog 13 #[.pointer (some ⟨g, 0, none⟩), .int .i64 r.f1, .int .i64 r.f2] w fun e w' => e = .returned (.int .i64 0) ∧ ∃ v', IsW w' B g v' (l ++ bitsOf r.f1.toNat r.f2.toNat) ∧ Fr (WS g v) w w' := by
  have e1 : r.f1 = (r.f1.toNat : Int) := by omega
  have e2 : r.f2 = (r.f2.toNat : Int) := by omega
  have h2 := bits_ok B g v l r.f1.toNat r.f2.toNat w h (by omega) ho.2.2.2 hl hB
  rw [← e1, ← e2] at h2
  refine h2.mono ?_
  rintro e w' ⟨h3, v', h4, h5, _⟩
  exact ⟨h3, v', h4, h5⟩
/-- While it is read. -/
structure RS (w W : World) (B g g2 : Nat) (v : Value) (L : List Bool) (s : ByteArray) (a : Nat) (vl : Value) (xs : List S44) : Prop where
  dl : DL w W B g v L vl xs
  ir : IsR W g2 s a
  gg : B ≤ g2
theorem RS.fr {w W W' : World} {B g g2 : Nat} {v : Value} {L : List Bool} {s : ByteArray} {a a' : Nat} {vl : Value} {xs : List S44} (h : RS w W B g g2 v L s a vl xs) (hi : IsR W' g2 s a') (hf : Fr (fun k => k = g2) W W') : RS w W' B g g2 v L s a' vl xs where
  dl := {
    iw := h.dl.iw.keep hf (fun e => by have h1 := h.dl.iw.1; rw [e] at h1; exact blk_ne h1 h.ir (by decide) rfl) (fun k hk e => by
      obtain ⟨_, _, bs, ho, _⟩ := h.dl.iw
      exact own_ne ho h.ir (by decide) (by rw [← e]; exact hk.symm))
    ri := Kd.R_mono (Kd.R_step (Kd.R_types h.dl.ri h.ir (fun q hq => by
      rcases List.mem_cons.1 hq with e | e
      · rw [e]; decide
      · cases e)) (fun k hk hlt => hf.block k hlt hk.2)) (fun _ hk => hk.1)
    be := h.dl.be.trans (hf.below h.dl.ge (fun k hk => by rw [hk]; exact h.gg))
    ge := Nat.le_trans h.dl.ge hf.size }
  ir := hi
  gg := h.gg
theorem RS.below {w W W' : World} {B g g2 : Nat} {v : Value} {L : List Bool} {s : ByteArray} {a : Nat} {vl : Value} {xs : List S44} (h : RS w W B g g2 v L s a vl xs) (hb : Below W.heap.size W W') : RS w W' B g g2 v L s a vl xs :=
  ⟨h.dl.below hb, h.ir.keep (Fr.of_below_all hb (fun _ => False)) (fun h => h), h.gg⟩
theorem OpBlk.frR {W W' : World} {g2 q : Nat} {s : ByteArray} {a : Nat} {o : S44} (h : OpBlk W q o) (hi : IsR W g2 s a) (hf : Fr (fun k => k = g2) W W') : OpBlk W' q o :=
  hf.blk h (fun e => by rw [e] at h; exact blk_ne h hi (by decide) rfl)
theorem rbits_good (g : Nat) (s : ByteArray) (l m : List Bool) (r : S44) (W : World) (h : IsR W g s l.length) (hs : s.size ≤ 1000000000000000) (ho : 0 ≤ r.f2 ∧ r.f2 ≤ 57 ∧ 0 ≤ r.f1 ∧ r.f1.toNat < 2 ^ r.f2.toNat) (ht : STold s (l ++ bitsOf r.f1.toNat r.f2.toNat ++ m)) :
    Calls Try.prog 16 #[.pointer (some ⟨g, 0, none⟩), .int .i64 r.f2] W fun e w' => e = .returned (.tuple #[.int .i64 r.f1, .int .i64 0]) ∧ IsR w' g s (l ++ bitsOf r.f1.toNat r.f2.toNat).length ∧ Fr (fun k => k = g) W w' := by
  have e1 : r.f1 = (r.f1.toNat : Int) := by omega
  have e2 : r.f2 = (r.f2.toNat : Int) := by omega
  obtain ⟨h1, h2⟩ := read_bits ho.2.2.2 ht
  have h3 := r_ok g s l.length r.f2.toNat W h hs (by omega) h2
  rw [h1, ← e1, ← e2] at h3
  rw [List.length_append, bitsOf_length]
  exact h3
theorem infoOp : (Try.prog.info? 44).map (fun i => (i.zero, i.size, i.bytes)) = some (some (.agg #[(.int .i64 0), (.int .i64 0), (.int .i64 0), (.string ⟨#[]⟩)]), 4, 40) := by kernel_rfl
theorem encs_snoc (xs : List S44) (o : S44) : encs [] (xs ++ [o]) = encs [] xs ++ wadd o (encs [] xs) := by rw [encs_app]; rfl
set_option maxHeartbeats 4000000 in
set_option maxRecDepth 100000 in
theorem bitsback_walk (A0 : Option Addr) (c0 : Nat) (ops : List S44) (W0 : World) (hr : shOp.d.C W0 A0 ops.length ops) (hc : ops.length ≤ c0) (ok : (∀ a ∈ ops, shOp.ok a) ∧ ops.length ≤ 9223372036854775807) (hk : shOps.wt ops ≤ 1048576) :
    Calls Try.prog 9 #[.slice A0 ops.length c0] W0 fun e w' => e = .returned (.bool true) ∧ Below W0.heap.size W0 w' := by
  have hu := Try.underlying44
  have hn : ops.length ≤ 1048576 := by
    have h1 : shOps.wt ops = Sh.wts shOp.wt ops + 1 := rfl
    have h2 : ops.length ≤ Sh.wts shOp.wt ops := by
      clear hr hc ok hk h1
      induction ops with
      | nil => exact Nat.zero_le _
      | cons r t ih =>
        rw [Sh.wts_cons, List.length_cons]
        have : 1 ≤ shOp.wt r := by show 1 ≤ _ + 1; omega
        omega
    omega
  have HR := Aside0.mk (show Kd.C k44 W0 A0 ops.length ops from hr)
  have HN := Aside0.mk hn
  clear hr hc ok hk hn
  go_enter Try.func9, Try.ntmps9
  go_wp2_with fail
  refine (newWriter _).mono ?_
  rintro e w1 ⟨rfl, hI, hb⟩
  have HW := Aside0.mk (show DL W0 w1 W0.heap.size W0.heap.size (.slice none 0 0) [] (.slice none 0 0) [] from ⟨hI, Kd.R_nil _ _ _ _ _, hb, Nat.le_of_lt hI.lt⟩)
  clear hI hb
  go_wp2_with fail
  obtain ⟨g, hg⟩ : ∃ g, W0.heap.size = g := ⟨_, rfl⟩
  have HG := Aside0.mk hg
  rw [hg] at HW
  rw [hg]
  clear hg
  go_loopw [4, 5] (fun v4 v5 wr => ∃ (i : Nat) (v : Value) (xs : List S44), v5 = .int .i64 i ∧ i ≤ ops.length ∧ Aside0 (DL W0 wr g g v (encs [] xs) v4 xs) ∧ Aside0 (goodAll [] xs) ∧ Aside0 (xs.length ≤ i) ∧ Aside0 ((encs [] xs).length ≤ 40000 * i)) (fun _ v5 _ => ops.length - (intOf v5).toNat)
  case atStart => exact ⟨0, _, [], rfl, Nat.zero_le _, HW, ⟨trivial⟩, ⟨Nat.le_refl _⟩, ⟨Nat.zero_le _⟩⟩
  case round =>
    clear HW
    obtain ⟨i, v, xs, rfl, hi, HW, HGA, HXL, HL⟩ := hrel
    obtain ⟨A4, c4, e4⟩ := Kd.R_slice HW.out.ri
    subst e4
    by_cases hlt : i < ops.length
    · have hC := Kd.C_below HR.out (w1 := wr) (by rw [HG.out]; exact HW.out.be)
      obtain ⟨ad, rfl, k0, k1, k2, k3⟩ := at_T44 hC (i : Int) (by omega) (by omega)
      obtain ⟨r, hr⟩ : ∃ r, rd_T44 ops (i : Int) = r := ⟨_, rfl⟩
      rw [hr] at k0 k1 k2 k3
      simp only [Int.toNat_natCast] at k0 k1 k2 k3
      clear hC hr
      have hb1 : decide ((i : Int) < (ops.length : Int)) = true := by simp; omega
      have hi20 : i ≤ 1048576 := by have := HN.out; omega
      go_upto_region 9 with (fail)
      have HD := Aside0.mk (HW.out.new r)
      have HLl := Aside0.mk (show (encs [] xs).length ≤ 1000000000000 by have := HL.out; have := HN.out; omega)
      obtain ⟨q, hq⟩ : ∃ q, wr.heap.size = q := ⟨_, rfl⟩
      rw [hq] at HD
      rw [hq]
      generalize wr.alloc (.cells #[.int .i64 r.f0, .int .i64 r.f1, .int .i64 r.f2, .string r.f3] 44) = w2 at HD ⊢
      clear hq HW k0 k1 k2 k3
      have d0 := (blk_cell HD.out.ob 0).trans (rfl : _ = some (Value.int .i64 r.f0))
      have d1 := (blk_cell HD.out.ob 1).trans (rfl : _ = some (Value.int .i64 r.f1))
      have d2 := (blk_cell HD.out.ob 2).trans (rfl : _ = some (Value.int .i64 r.f2))
      have d3 := (blk_cell HD.out.ob 3).trans (rfl : _ = some (Value.string r.f3))
      by_cases hbig : 4096 < r.f3.size
      · have hb2 : decide (4096 < (r.f3.size : Int)) = true := by simp; omega
        go_wp2_with fail
        refine (awake_any _).mono ?_
        rintro e w9 ⟨rfl, hb⟩
        have HB := Aside0.mk (HD.out.dl.below hb).be
        clear hb
        go_wp2
        go_ret
        exact ⟨rfl, by rw [HG.out]; exact HB.out⟩
      · have hb2 : decide (4096 < (r.f3.size : Int)) = false := by simp; omega
        have HSZ := Aside0.mk (show r.f3.size ≤ 4096 by omega)
        clear hbig
        by_cases h1 : r.f0 = 1
        · have j1 : (r.f0 == 1) = true := by simpa using h1
          have hwa : wadd r (encs [] xs) = bitsOf r.f1.toNat r.f2.toNat := by unfold wadd; rw [if_pos h1]
          have HWA := Aside0.mk hwa
          have H1 := Aside0.mk h1
          clear h1 hwa
          go_wp2_with fail
          by_cases hok : 0 ≤ r.f2 ∧ r.f2 ≤ 57 ∧ 0 ≤ r.f1 ∧ r.f1.toNat < 2 ^ r.f2.toNat
          · refine (wbits_good g g v _ r _ HD.out.iw hok HLl.out HD.out.ge).mono ?_
            rintro e w3 ⟨rfl, v3, hI, hF⟩
            rw [← HWA.out] at hI
            have HD2 := Aside0.mk (HD.out.fr hI hF)
            clear hI hF HD d0 d1 d2 d3
            have d0 := (blk_cell HD2.out.ob 0).trans (rfl : _ = some (Value.int .i64 r.f0))
            have d1 := (blk_cell HD2.out.ob 1).trans (rfl : _ = some (Value.int .i64 r.f1))
            have d2 := (blk_cell HD2.out.ob 2).trans (rfl : _ = some (Value.int .i64 r.f2))
            have d3 := (blk_cell HD2.out.ob 3).trans (rfl : _ = some (Value.string r.f3))
            have hok : okOp r (encs [] xs) := Or.inl ⟨H1.out, hok⟩
            have HGA2 := Aside0.mk (good_snoc r xs [] HGA.out hok)
            have HL2 := Aside0.mk (show (encs [] (xs ++ [r])).length ≤ 40000 * (i + 1) by
              rw [encs_snoc, List.length_append]
              have := wadd_len r _ hok
              have := HL.out
              omega)
            obtain ⟨xs5, hxs5⟩ : ∃ y, xs ++ [r] = y := ⟨_, rfl⟩
            have HXS := Aside0.mk hxs5
            have HXL2 := Aside0.mk (show xs5.length ≤ i + 1 by rw [← hxs5, List.length_append, List.length_singleton]; have := HXL.out; omega)
            have HEN := Aside0.mk (show encs [] xs ++ wadd r (encs [] xs) = encs [] xs5 by rw [← hxs5, encs_snoc])
            rw [hxs5] at HGA2 HL2
            clear hxs5 hok
            go_wp2_with ((with_reducible refine gate_builtin (b := .append) (xs := #[.tmp 43, .tmp 45]) rfl ?_); at_builtin; refine Kd.R_append k44 (w0 := W0) g rfl (.tmp 43) (.tmp 45) 41 44 (.agg #[(.int .i64 0), (.int .i64 0), (.int .i64 0), (.string ⟨#[]⟩)]) 40 rfl Try.underlying41 infoOp rfl (by decide) (by omega) (.slice A4 xs.length c4) xs r [.int .i64 r.f0, .int .i64 r.f1, .int .i64 r.f2, .string r.f3] (fun k_ => k_ ≠ q) (fun _ => False) rfl (by first | (go_simp; done) | (go_simp; rfl)) ?aP (fun _ hk => hk.elim) ?aF HD2.out.ri HD2.out.be HD2.out.ge ?aL ?_; (case aP => exact k44_mkM _ _ _ r); (case aF => exact (fun k_ hk => by have := blk_lt HD2.out.ob; omega)); (case aL => have := HXL.out; have := HN.out; omega); intro v5 w5 ho hb hg hat; rw [HXS.out] at ho; have HD5 := Aside0.mk (HD2.out.app ho hg hb); clear ho hb hg hat; obtain ⟨A5, c5, e5⟩ := Kd.R_slice HD5.out.ri; subst e5)
            go_roundw
            case rel => exact ⟨i + 1, _, xs5, by simp, hlt, ⟨by have h9 := HD5.out.dl; rw [HEN.out] at h9; exact h9⟩, HGA2, HXL2, HL2⟩
            case measure => simp [intOf]; omega
          · refine (bits_bad g v (encs [] xs).length r.f1 r.f2 _ HD.out.iw.1 (fun e => hok ⟨e.1, e.2.1, e.2.2.1, ?_⟩)).mono ?_
            · have e4 := e.2.2.2
              have e1 : r.f1 = (r.f1.toNat : Int) := by have := e.2.2.1; omega
              rw [e1] at e4
              have e5 : r.f1.toNat / 2 ^ r.f2.toNat = 0 := by exact_mod_cast e4
              exact (Nat.div_eq_zero_iff.1 e5).resolve_left (Nat.ne_of_gt (Nat.two_pow_pos _))
            · rintro e w3 ⟨rfl, rfl⟩
              go_wp2_with fail
              go_roundw
              case rel => exact ⟨i + 1, v, xs, by simp, hlt, ⟨HD.out.dl⟩, HGA, ⟨by have := HXL.out; omega⟩, ⟨by have := HL.out; omega⟩⟩
              case measure => simp [intOf]; omega
        · have j1 : (r.f0 == 1) = false := by simpa using h1
          by_cases h2 : r.f0 = 2
          · have j2 : (r.f0 == 2) = true := by simpa using h2
            have hwa : wadd r (encs [] xs) = List.replicate (pad (encs [] xs).length) false := by unfold wadd; rw [if_neg h1, if_pos h2]
            have HWA := Aside0.mk hwa
            have H2 := Aside0.mk h2
            clear h1 h2 hwa
            go_wp2_with fail
            refine (w_align g g v _ _ HD.out.iw (by have := HLl.out; omega)).mono ?_
            rintro e w3 ⟨rfl, hI, hF⟩
            rw [← HWA.out] at hI
            have HD2 := Aside0.mk (HD.out.fr hI hF)
            clear hI hF HD d0 d1 d2 d3
            have d0 := (blk_cell HD2.out.ob 0).trans (rfl : _ = some (Value.int .i64 r.f0))
            have d1 := (blk_cell HD2.out.ob 1).trans (rfl : _ = some (Value.int .i64 r.f1))
            have d2 := (blk_cell HD2.out.ob 2).trans (rfl : _ = some (Value.int .i64 r.f2))
            have d3 := (blk_cell HD2.out.ob 3).trans (rfl : _ = some (Value.string r.f3))
            have hok : okOp r (encs [] xs) := Or.inr (Or.inl H2.out)
            have HGA2 := Aside0.mk (good_snoc r xs [] HGA.out hok)
            have HL2 := Aside0.mk (show (encs [] (xs ++ [r])).length ≤ 40000 * (i + 1) by
              rw [encs_snoc, List.length_append]
              have := wadd_len r _ hok
              have := HL.out
              omega)
            obtain ⟨xs5, hxs5⟩ : ∃ y, xs ++ [r] = y := ⟨_, rfl⟩
            have HXS := Aside0.mk hxs5
            have HXL2 := Aside0.mk (show xs5.length ≤ i + 1 by rw [← hxs5, List.length_append, List.length_singleton]; have := HXL.out; omega)
            have HEN := Aside0.mk (show encs [] xs ++ wadd r (encs [] xs) = encs [] xs5 by rw [← hxs5, encs_snoc])
            rw [hxs5] at HGA2 HL2
            clear hxs5 hok
            go_wp2_with ((with_reducible refine gate_builtin (b := .append) (xs := #[.tmp 51, .tmp 53]) rfl ?_); at_builtin; refine Kd.R_append k44 (w0 := W0) g rfl (.tmp 51) (.tmp 53) 41 44 (.agg #[(.int .i64 0), (.int .i64 0), (.int .i64 0), (.string ⟨#[]⟩)]) 40 rfl Try.underlying41 infoOp rfl (by decide) (by omega) (.slice A4 xs.length c4) xs r [.int .i64 r.f0, .int .i64 r.f1, .int .i64 r.f2, .string r.f3] (fun k_ => k_ ≠ q) (fun _ => False) rfl (by first | (go_simp; done) | (go_simp; rfl)) ?aP (fun _ hk => hk.elim) ?aF HD2.out.ri HD2.out.be HD2.out.ge ?aL ?_; (case aP => exact k44_mkM _ _ _ r); (case aF => exact (fun k_ hk => by have := blk_lt HD2.out.ob; omega)); (case aL => have := HXL.out; have := HN.out; omega); intro v5 w5 ho hb hg hat; rw [HXS.out] at ho; have HD5 := Aside0.mk (HD2.out.app ho hg hb); clear ho hb hg hat; obtain ⟨A5, c5, e5⟩ := Kd.R_slice HD5.out.ri; subst e5)
            go_roundw
            case rel => exact ⟨i + 1, _, xs5, by simp, hlt, ⟨by have h9 := HD5.out.dl; rw [HEN.out] at h9; exact h9⟩, HGA2, HXL2, HL2⟩
            case measure => simp [intOf]; omega
          · have j2 : (r.f0 == 2) = false := by simpa using h2
            by_cases h3 : r.f0 = 3
            · have j3 : (r.f0 == 3) = true := by simpa using h3
              have hwa : wadd r (encs [] xs) = bitsS r.f3 := by unfold wadd; rw [if_neg h1, if_neg h2]
              have HWA := Aside0.mk hwa
              have H3 := Aside0.mk h3
              clear h1 h2 h3 hwa
              go_wp2_with fail
              by_cases h8 : (encs [] xs).length % 8 = 0
              · refine (w_bytes g g v _ r.f3 _ HD.out.iw h8 HLl.out (by have := HSZ.out; omega) HD.out.ge).mono ?_
                rintro e w3 ⟨rfl, v3, hI, hF, _⟩
                rw [← HWA.out] at hI
                have HD2 := Aside0.mk (HD.out.fr hI hF)
                clear hI hF HD d0 d1 d2 d3
                have d0 := (blk_cell HD2.out.ob 0).trans (rfl : _ = some (Value.int .i64 r.f0))
                have d1 := (blk_cell HD2.out.ob 1).trans (rfl : _ = some (Value.int .i64 r.f1))
                have d2 := (blk_cell HD2.out.ob 2).trans (rfl : _ = some (Value.int .i64 r.f2))
                have d3 := (blk_cell HD2.out.ob 3).trans (rfl : _ = some (Value.string r.f3))
                have hok : okOp r (encs [] xs) := Or.inr (Or.inr ⟨H3.out, h8, HSZ.out⟩)
                have HGA2 := Aside0.mk (good_snoc r xs [] HGA.out hok)
                have HL2 := Aside0.mk (show (encs [] (xs ++ [r])).length ≤ 40000 * (i + 1) by
                  rw [encs_snoc, List.length_append]
                  have := wadd_len r _ hok
                  have := HL.out
                  omega)
                obtain ⟨xs5, hxs5⟩ : ∃ y, xs ++ [r] = y := ⟨_, rfl⟩
                have HXS := Aside0.mk hxs5
                have HXL2 := Aside0.mk (show xs5.length ≤ i + 1 by rw [← hxs5, List.length_append, List.length_singleton]; have := HXL.out; omega)
                have HEN := Aside0.mk (show encs [] xs ++ wadd r (encs [] xs) = encs [] xs5 by rw [← hxs5, encs_snoc])
                rw [hxs5] at HGA2 HL2
                clear hxs5 hok
                go_wp2_with ((with_reducible refine gate_builtin (b := .append) (xs := #[.tmp 62, .tmp 64]) rfl ?_); at_builtin; refine Kd.R_append k44 (w0 := W0) g rfl (.tmp 62) (.tmp 64) 41 44 (.agg #[(.int .i64 0), (.int .i64 0), (.int .i64 0), (.string ⟨#[]⟩)]) 40 rfl Try.underlying41 infoOp rfl (by decide) (by omega) (.slice A4 xs.length c4) xs r [.int .i64 r.f0, .int .i64 r.f1, .int .i64 r.f2, .string r.f3] (fun k_ => k_ ≠ q) (fun _ => False) rfl (by first | (go_simp; done) | (go_simp; rfl)) ?aP (fun _ hk => hk.elim) ?aF HD2.out.ri HD2.out.be HD2.out.ge ?aL ?_; (case aP => exact k44_mkM _ _ _ r); (case aF => exact (fun k_ hk => by have := blk_lt HD2.out.ob; omega)); (case aL => have := HXL.out; have := HN.out; omega); intro v5 w5 ho hb hg hat; rw [HXS.out] at ho; have HD5 := Aside0.mk (HD2.out.app ho hg hb); clear ho hb hg hat; obtain ⟨A5, c5, e5⟩ := Kd.R_slice HD5.out.ri; subst e5)
                go_roundw
                case rel => exact ⟨i + 1, _, xs5, by simp, hlt, ⟨by have h9 := HD5.out.dl; rw [HEN.out] at h9; exact h9⟩, HGA2, HXL2, HL2⟩
                case measure => simp [intOf]; omega
              · refine (w_bytes_bad g g v _ r.f3 _ HD.out.iw h8).mono ?_
                rintro e w3 ⟨rfl, rfl⟩
                go_wp2_with fail
                go_roundw
                case rel => exact ⟨i + 1, v, xs, by simp, hlt, ⟨HD.out.dl⟩, HGA, ⟨by have := HXL.out; omega⟩, ⟨by have := HL.out; omega⟩⟩
                case measure => simp [intOf]; omega
            · have j3 : (r.f0 == 3) = false := by simpa using h3
              clear h1 h2 h3
              go_wp2_with fail
              go_roundw
              case rel => exact ⟨i + 1, v, xs, by simp, hlt, ⟨HD.out.dl⟩, HGA, ⟨by have := HXL.out; omega⟩, ⟨by have := HL.out; omega⟩⟩
              case measure => simp [intOf]; omega
    · have hie : i = ops.length := by omega
      subst hie
      have hb1 : decide ((ops.length : Int) < (ops.length : Int)) = false := by simp
      go_wp2_with fail
      refine (w_done g g v _ _ HW.out.iw).mono ?_
      rintro e w2 ⟨s, rfl, hT, rfl⟩
      have HT := Aside0.mk hT
      have HSS := Aside0.mk (show s.size ≤ 1000000000000 by have := hT.1; have := HL.out; have := HN.out; omega)
      clear hT
      go_wp2_with fail
      refine (newReader s _).mono ?_
      rintro e w3 ⟨g2, rfl, hg2, hI2, hb⟩
      have HS := Aside0.mk (show RS W0 w3 g g g2 v (encs [] xs) s 0 (.slice A4 xs.length c4) xs from ⟨HW.out.below hb, hI2, Nat.le_trans HW.out.ge hg2⟩)
      clear hI2 hb hg2 HW
      obtain ⟨L, hL⟩ : ∃ y, encs [] xs = y := ⟨_, rfl⟩
      have HLE := Aside0.mk hL
      rw [hL] at HS HT HL
      clear hL
      go_wp2_with fail
      go_loopw [8] (fun v8 wr => ∃ (j : Nat) (l : List Bool), v8 = .int .i64 j ∧ j ≤ xs.length ∧ Aside0 (RS W0 wr g g g2 v L s l.length (.slice A4 xs.length c4) xs) ∧ Aside0 (goodAll l (xs.drop j)) ∧ Aside0 (encs l (xs.drop j) = L)) (fun v8 _ => xs.length - (intOf v8).toNat)
      case atStart => exact ⟨0, [], rfl, Nat.zero_le _, HS, HGA, HLE⟩
      case round =>
        clear HS HGA HLE
        obtain ⟨j, l, rfl, hj, HS, HGA, HLE⟩ := hrel
        by_cases hjt : j < xs.length
        · have hC := (Kd.R_reads' HS.out.dl.ri).2.2
          obtain ⟨ad, hadd, k0, k1, k2, k3⟩ := at_T44 hC (j : Int) (by omega) (by omega)
          subst hadd
          have hdrop : xs.drop j = rd_T44 xs (j : Int) :: xs.drop (j + 1) := by
            rw [List.drop_eq_getElem_cons hjt]
            simp [rd_T44, List.getD_eq_getElem?_getD, hjt]
          obtain ⟨r, hr⟩ : ∃ r, rd_T44 xs (j : Int) = r := ⟨_, rfl⟩
          rw [hr] at k0 k1 k2 k3 hdrop
          simp only [Int.toNat_natCast] at k0 k1 k2 k3
          have hga := HGA.out
          have hle := HLE.out
          rw [hdrop] at hga hle
          have HGA2 := Aside0.mk hga.2
          have HOK := Aside0.mk hga.1
          have HLE2 := Aside0.mk (show encs (l ++ wadd r l) (xs.drop (j + 1)) = L from hle)
          have hext := encs_ext (xs.drop (j + 1)) (l ++ wadd r l)
          rw [HLE2.out] at hext
          have HEX := Aside0.mk hext
          have HLL := Aside0.mk (show l.length ≤ 1000000000000 by
            obtain ⟨m, hm⟩ := hext
            have h9 := congrArg List.length hm
            rw [List.length_append, List.length_append] at h9
            have := HL.out
            have := HN.out
            omega)
          clear hga hle hext hC hr hdrop
          have hb2 : decide ((j : Int) < (xs.length : Int)) = true := by simp; omega
          have hj20 : j ≤ 1048576 := by have := HN.out; have := HXL.out; omega
          go_upto_region 28 with (fail)
          have HQ := Aside0.mk (show OpBlk (wr.alloc (.cells #[.int .i64 r.f0, .int .i64 r.f1, .int .i64 r.f2, .string r.f3] 44)) wr.heap.size r from heap_alloc_new wr _)
          have HS2 := Aside0.mk (HS.out.below (below_alloc (Below.refl _ _) (.cells #[.int .i64 r.f0, .int .i64 r.f1, .int .i64 r.f2, .string r.f3] 44)))
          obtain ⟨q, hq⟩ : ∃ q, wr.heap.size = q := ⟨_, rfl⟩
          rw [hq] at HQ
          rw [hq]
          generalize wr.alloc (.cells #[.int .i64 r.f0, .int .i64 r.f1, .int .i64 r.f2, .string r.f3] 44) = w4 at HQ HS2 ⊢
          clear hq HS k0 k1 k2 k3
          have d0 := (blk_cell HQ.out 0).trans (rfl : _ = some (Value.int .i64 r.f0))
          have d1 := (blk_cell HQ.out 1).trans (rfl : _ = some (Value.int .i64 r.f1))
          have d2 := (blk_cell HQ.out 2).trans (rfl : _ = some (Value.int .i64 r.f2))
          have d3 := (blk_cell HQ.out 3).trans (rfl : _ = some (Value.string r.f3))
          by_cases h1 : r.f0 = 1
          · have j1 : (r.f0 == 1) = true := by simpa using h1
            have hwa : wadd r l = bitsOf r.f1.toNat r.f2.toNat := by unfold wadd; rw [if_pos h1]
            have hok : 0 ≤ r.f2 ∧ r.f2 ≤ 57 ∧ 0 ≤ r.f1 ∧ r.f1.toNat < 2 ^ r.f2.toNat := by
              rcases HOK.out with h | h | h
              · exact h.2
              · omega
              · omega
            have HWA := Aside0.mk hwa
            have HO1 := Aside0.mk hok
            clear h1 hwa hok
            go_wp2_with fail
            obtain ⟨m, hm⟩ := HEX.out
            refine (rbits_good g2 s l m r _ HS2.out.ir (by have := HSS.out; omega) HO1.out (by rw [← HWA.out, ← hm]; exact HT.out)).mono ?_
            rintro e w5 ⟨rfl, hI, hF⟩
            rw [← HWA.out] at hI
            have HS5 := Aside0.mk (HS2.out.fr hI hF)
            have HQ5 := Aside0.mk (HQ.out.frR HS2.out.ir hF)
            clear hI hF HS2 HQ d0 d1 d2 d3 hm
            have d0 := (blk_cell HQ5.out 0).trans (rfl : _ = some (Value.int .i64 r.f0))
            have d1 := (blk_cell HQ5.out 1).trans (rfl : _ = some (Value.int .i64 r.f1))
            have d2 := (blk_cell HQ5.out 2).trans (rfl : _ = some (Value.int .i64 r.f2))
            have d3 := (blk_cell HQ5.out 3).trans (rfl : _ = some (Value.string r.f3))
            go_wp2_with fail
            go_roundw
            case rel => exact ⟨j + 1, l ++ wadd r l, by simp, hjt, HS5, HGA2, HLE2⟩
            case measure => simp [intOf]; omega
          · have j1 : (r.f0 == 1) = false := by simpa using h1
            by_cases h2 : r.f0 = 2
            · have j2 : (r.f0 == 2) = true := by simpa using h2
              have hwa : wadd r l = List.replicate (pad l.length) false := by unfold wadd; rw [if_neg h1, if_pos h2]
              have HWA := Aside0.mk hwa
              clear h1 h2 hwa
              go_wp2_with fail
              refine (r_align g2 s l.length _ HS2.out.ir (by have := HLL.out; omega)).mono ?_
              rintro e w5 ⟨rfl, hI, hF⟩
              have HS5 := Aside0.mk (HS2.out.fr hI hF)
              have HQ5 := Aside0.mk (HQ.out.frR HS2.out.ir hF)
              have HS6 : Aside0 (RS W0 w5 g g g2 v L s (l ++ wadd r l).length (.slice (some ad) xs.length c4) xs) := ⟨by
                have h9 := HS5.out
                have e9 : (l ++ wadd r l).length = (l.length + 7) / 8 * 8 := by rw [HWA.out, List.length_append, List.length_replicate, pad_len]; omega
                rw [e9]
                exact h9⟩
              clear hI hF HS2 HQ d0 d1 d2 d3
              have d0 := (blk_cell HQ5.out 0).trans (rfl : _ = some (Value.int .i64 r.f0))
              have d1 := (blk_cell HQ5.out 1).trans (rfl : _ = some (Value.int .i64 r.f1))
              have d2 := (blk_cell HQ5.out 2).trans (rfl : _ = some (Value.int .i64 r.f2))
              have d3 := (blk_cell HQ5.out 3).trans (rfl : _ = some (Value.string r.f3))
              go_wp2_with fail
              go_roundw
              case rel => exact ⟨j + 1, l ++ wadd r l, by simp, hjt, HS6, HGA2, HLE2⟩
              case measure => simp [intOf]; omega
            · have j2 : (r.f0 == 2) = false := by simpa using h2
              have h3 : r.f0 = 3 ∧ l.length % 8 = 0 ∧ r.f3.size ≤ 4096 := by
                rcases HOK.out with h | h | h
                · exact absurd h.1 h1
                · exact absurd h h2
                · exact h
              have j3 : (r.f0 == 3) = true := by simpa using h3.1
              have hwa : wadd r l = bitsS r.f3 := by unfold wadd; rw [if_neg h1, if_neg h2]
              have HWA := Aside0.mk hwa
              have H3 := Aside0.mk h3
              clear h1 h2 h3 hwa
              go_wp2_with fail
              obtain ⟨m, hm⟩ := HEX.out
              obtain ⟨q1, q2⟩ := read_bytes (s := s) (t := r.f3) (m := m) H3.out.2.1 (by rw [← HWA.out, ← hm]; exact HT.out)
              have hRB := r_bytes g2 s l.length r.f3.size _ HS2.out.ir (by have := HSS.out; omega) H3.out.2.1 q2
              rw [q1] at hRB
              clear q1 q2 hm
              refine hRB.mono ?_
              rintro e w5 ⟨rfl, hI, hF⟩
              have HS5 := Aside0.mk (HS2.out.fr hI hF)
              have HQ5 := Aside0.mk (HQ.out.frR HS2.out.ir hF)
              have HS6 : Aside0 (RS W0 w5 g g g2 v L s (l ++ wadd r l).length (.slice (some ad) xs.length c4) xs) := ⟨by
                have h9 := HS5.out
                rw [HWA.out, List.length_append, bitsS_length]
                exact h9⟩
              clear hI hF HS2 HQ d0 d1 d2 d3 hRB
              have d0 := (blk_cell HQ5.out 0).trans (rfl : _ = some (Value.int .i64 r.f0))
              have d1 := (blk_cell HQ5.out 1).trans (rfl : _ = some (Value.int .i64 r.f1))
              have d2 := (blk_cell HQ5.out 2).trans (rfl : _ = some (Value.int .i64 r.f2))
              have d3 := (blk_cell HQ5.out 3).trans (rfl : _ = some (Value.string r.f3))
              go_wp2_with fail
              go_roundw
              case rel => exact ⟨j + 1, l ++ wadd r l, by simp, hjt, HS6, HGA2, HLE2⟩
              case measure => simp [intOf]; omega
        · have hje : j = xs.length := by omega
          subst hje
          have hb2 : decide ((xs.length : Int) < (xs.length : Int)) = false := by simp
          have hle := HLE.out
          rw [List.drop_length] at hle
          have hle : l = L := hle
          subst hle
          go_wp2_with fail
          refine (r_place g2 s l.length _ HS.out.ir).mono ?_
          rintro e w5 ⟨rfl, hI, hF⟩
          have HS5 := Aside0.mk (HS.out.fr hI hF)
          clear hI hF HS
          go_wp2_with fail
          refine (w_place g g v l _ HS5.out.dl.iw).mono ?_
          rintro e w6 ⟨rfl, rfl⟩
          go_wp2_with fail
          refine (awake_any _).mono ?_
          rintro e w9 ⟨rfl, hb⟩
          have HB := Aside0.mk (HS5.out.below hb).dl.be
          clear hb
          go_wp2
          go_ret
          exact ⟨rfl, by rw [HG.out]; exact HB.out⟩
end Go.Proofs.Ytggfahgkjdkjmaa.HW
