/- The document's stored: walked. (printed by mkrq4.py) -/
import Derived.Test.YteffjbjhkaobfaaGF
namespace Go.Proofs.Yteffjbjhkaobfaa.HI
open Go.RowKit Go.Proofs.YteffjbjhkaobfaaW.PrintWords Go.Proofs.YteffjbjhkaobfaaW.PrintLast Go.Proofs.YteffjbjhkaobfaaW.PrintMore Go.Proofs.Yteffjbjhkaobfaa.HW Go.Proofs.Yteffjbjhkaobfaa.MB Go.Proofs.Yteffjbjhkaobfaa.Fn Go.Proofs.Yteffjbjhkaobfaa.HF Go.Proofs.Yteffjbjhkaobfaa.RT Go.Proofs.Yteffjbjhkaobfaa.RT.Rd Go.Proofs.Yteffjbjhkaobfaa.HP
attribute [local go_sem] max2_int min2_int max_two min_two max_three min_three max_four min_four   -- for this text's walks alone
/-- So many bytes, put behind others. -/
def bytesO (n : Nat) (out : List Int) : Rd (List Int) := (bytesN n).bind fun bs => ret (out ++ bs)
theorem bytesO_zero (out : List Int) : bytesO 0 out = ret out := by
  show ret (out ++ []) = _
  rw [List.append_nil]
theorem bytesO_succ (n : Nat) (out : List Int) : bytesO (n + 1) out = (bitsN 8).bind fun b => bytesO n (out ++ [(b : Int)]) := by
  show (((bitsN 8).bind fun b => (bytesN n).bind fun r => ret ((b : Int) :: r)).bind fun bs => ret (out ++ bs)) = _
  rw [bind_assoc]
  congr 1
  funext b
  rw [bind_assoc]
  unfold bytesO
  congr 1
  funext v
  show ret (out ++ ((b : Int) :: v)) = ret (out ++ [(b : Int)] ++ v)
  rw [List.append_assoc]
  rfl
/-- The loop's state: so many bytes were put; the reading goes on, or has ended. -/
structure StL (W w : World) (B r : Nat) (ov : Value) (s : ByteArray) (most n i L : Nat) (run : Res (List Int)) (a1 : Nat) (ov1 : Value) (o1 : List Int) (er : Int) : Prop where
  g : QG W w B r ov s most a1 ov1 o1 er
  len : o1.length = L + i
  run : run = runS er (bytesO (n - i) o1) s a1
  room : er = 0 → L + n ≤ most
set_option maxRecDepth 100000 in
set_option maxHeartbeats 8000000 in
theorem storedQ {W : World} {B r : Nat} {ov : Value} {s : ByteArray} {a most : Nat} {out : List Int} (h : IsQ W B r ov s a most out 0) :
    Calls Try.prog 23 #[.pointer (some ⟨r, 0, none⟩)] W (PQ (fun _ : List Int => .tuple #[]) (.tuple #[]) (fun o => o) B r ov s most W ((storedT most out).run s a)) := by
  have hle := h.le
  have hsz := h.sz
  obtain ⟨a0, ha0⟩ : ∃ z, (a + 7) / 8 * 8 = z := ⟨_, rfl⟩
  have hal : a0 ≤ 8 * s.size := by omega
  have hrun : (storedT most out).run s a = runS 0 ((bitsN 16).bind fun n => (bitsN 16).bind fun m => if m + n = 65535 then (if most < out.length + n then err 4 else bytesO n out) else err 40) s a0 := by
    rw [runS_0, ← ha0]
    rfl
  rw [runS_bits _ _ _ _ _ hal] at hrun
  obtain ⟨n, hn⟩ : ∃ z, bV s a0 0 16 = z := ⟨_, rfl⟩
  have hn16 : n < 65536 := by rw [← hn]; exact bV_lt s a0 0 16
  have ha1 := bA_le s a0 0 16 hal
  rw [hn, runS_bits _ _ _ _ _ ha1] at hrun
  obtain ⟨a1, he1⟩ : ∃ z, bA s a0 0 16 = z := ⟨_, rfl⟩
  obtain ⟨er1, hr1⟩ : ∃ z, bE s a0 0 16 = z := ⟨_, rfl⟩
  rw [he1] at ha1
  rw [he1, hr1] at hrun
  obtain ⟨m, hm⟩ : ∃ z, bV s a1 er1 16 = z := ⟨_, rfl⟩
  have hm16 : m < 65536 := by rw [← hm]; exact bV_lt s a1 er1 16
  have ha2 := bA_le s a1 er1 16 ha1
  obtain ⟨a2, he2⟩ : ∃ z, bA s a1 er1 16 = z := ⟨_, rfl⟩
  obtain ⟨er2, hr2⟩ : ∃ z, bE s a1 er1 16 = z := ⟨_, rfl⟩
  rw [hm, he2, hr2, runS_if] at hrun
  rw [he2] at ha2
  have HRUN := Aside0.mk hrun
  have H := Aside0.mk h
  have HA := Aside0.mk (aligned_any a (by omega) W)
  rw [ha0] at HA
  have c1 := h.c1
  have HAL := Aside0.mk hal
  have HN := Aside0.mk hn16
  have HM := Aside0.mk hm16
  have HE1 := Aside0.mk (And.intro hn (And.intro he1 hr1))
  have HE2 := Aside0.mk (And.intro hm (And.intro he2 hr2))
  have HA2 := Aside0.mk ha2
  clear h hle hsz ha0 hal hrun hn hn16 ha1 he1 hr1 hm hm16 ha2 he2 hr2
  go_enter Try.func23, Try.ntmps23
  go_wp2_with fail
  refine HA.out.mono ?_
  rintro e w1 ⟨rfl, hb1⟩
  have HG1 := Aside0.mk ((QG.start H.out).below hb1)
  have f1 := HG1.out.ix.fz 1
  have c1 := HG1.out.ix.c1
  clear hb1 HA
  go_upto_region 1 with (fail)
  have HG2 := Aside0.mk (HG1.out.setA a0 HAL.out)
  have HB2 := Aside0.mk (bitsQ_any HG2.out.ix 16 (by decide))
  rw [HE1.out.1, HE1.out.2.1, HE1.out.2.2] at HB2
  clear f1 c1 HG1
  go_wp2_with fail
  refine HB2.out.mono ?_
  rintro e w2 ⟨rfl, hx, hf⟩
  have HG3 := Aside0.mk (HG2.out.used hx (QS_of_r hf) (AtB.refl _ _))
  have HB3 := Aside0.mk (bitsQ_any HG3.out.ix 16 (by decide))
  rw [HE2.out.1, HE2.out.2.1, HE2.out.2.2] at HB3
  clear hx hf HG2 HB2
  go_upto_region 2 with (fail)
  go_wp2_with fail
  refine HB3.out.mono ?_
  rintro e w3 ⟨rfl, hx, hf⟩
  have HG4 := Aside0.mk (HG3.out.used hx (QS_of_r hf) (AtB.refl _ _))
  have c4 := HG4.out.ix.c4
  clear hx hf HG3 HB3
  have hnm := HN.out
  have hmm := HM.out
  have hw : IntKind.i64.wrap (65535 - (n : Int)) = 65535 - (n : Int) := IntWalk.i64_in _ (by omega)
  go_upto_region 3 with (fail)
  go_cut [27] from 17 to 27 (fun v w => v = .bool (decide (er2 = 0 ∧ m + n ≠ 65535)) ∧ w = w3)
  case first =>
    by_cases h0 : er2 = 0
    · subst h0
      by_cases hmn : m + n = 65535
      · have hd : decide ((m : Int) = 65535 - (n : Int)) = true := decide_eq_true (by omega)
        have hd2 : ((m : Int) == 65535 - (n : Int)) = true := by rw [beq_iff_eq]; omega
        have HE := Aside0.mk hmn
        clear hmn hnm hmm
        go_wp2_with fail
        go_meet
        case rel => exact ⟨by have := HE.out; simp [this]; try omega, rfl⟩
      · have hd : decide ((m : Int) = 65535 - (n : Int)) = false := decide_eq_false (by omega)
        have hd2 : ((m : Int) == 65535 - (n : Int)) = false := by rw [beq_eq_false_iff_ne]; omega
        have HE := Aside0.mk hmn
        clear hmn hnm hmm
        go_wp2_with fail
        go_meet
        case rel => exact ⟨by have := HE.out; simp [this]; try omega, rfl⟩
    · have b1 : (er2 == 0) = false := by rw [beq_eq_false_iff_ne]; exact h0
      have b2 : decide (er2 = 0) = false := decide_eq_false h0
      have HE := Aside0.mk h0
      clear h0 hnm hmm
      go_wp2_with fail
      go_meet
      case rel => exact ⟨by have := HE.out; simp [this], rfl⟩
  case rest =>
    obtain ⟨rfl, rfl⟩ := hcut
    clear c4 hw
    go_upto_if 27 with (fail)
    go_cut [] from 17 to 31 (fun w => Aside0 (QG W w B r ov s most a2 ov out (if m + n = 65535 then er2 else enE er2)))
    case first =>
      by_cases hc : er2 = 0 ∧ m + n ≠ 65535
      · have hd : decide (er2 = 0 ∧ m + n ≠ 65535) = true := decide_eq_true hc
        have hd2 : decide (er2 = 0 ∧ ¬ m + n = 65535) = true := decide_eq_true hc
        have HE : Aside0 ((if m + n = 65535 then er2 else enE er2) = 40) := ⟨by rw [if_neg hc.2, hc.1]; rfl⟩
        have f4 := HG4.out.ix.fz 4
        have c4 := HG4.out.ix.c4
        clear hc hnm hmm
        (try rw [hd])
        go_wp2_with fail
        go_meet
        case rel => rw [HE.out]; exact ⟨HG4.out.setE 40⟩
      · have hd : decide (er2 = 0 ∧ m + n ≠ 65535) = false := decide_eq_false hc
        have hd2 : decide (er2 = 0 ∧ ¬ m + n = 65535) = false := decide_eq_false hc
        have HE : Aside0 ((if m + n = 65535 then er2 else enE er2) = er2) := ⟨by
          by_cases h1 : m + n = 65535
          · rw [if_pos h1]
          · rw [if_neg h1]
            unfold enE
            rw [if_neg (fun h => hc ⟨h, h1⟩)]⟩
        clear hc hnm hmm
        (try rw [hd])
        go_wp2_with fail
        go_meet
        case rel => rw [HE.out]; exact HG4
    case rest =>
      obtain ⟨er3, he3⟩ : ∃ z, (if m + n = 65535 then er2 else enE er2) = z := ⟨_, rfl⟩
      rw [he3] at hcut HRUN
      have HG5 := hcut
      clear HG4 he3 hcut HE1 HE2 hmm
      obtain ⟨oA, oc, hov⟩ := HG5.out.ix.slice
      have c2 := HG5.out.ix.c2
      have c3 := HG5.out.ix.c3
      have c4 := HG5.out.ix.c4
      rw [hov] at c3
      have hol : (out.length : Int) ≤ 1048576 := by have := HG5.out.ix.ol; have := HG5.out.ix.ml; omega
      have hw : IntKind.i64.wrap ((out.length : Int) + (n : Int)) = (out.length : Int) + (n : Int) := IntWalk.i64_in _ (by omega)
      go_upto_region 5 with (fail)
      go_cut [49] from 31 to 49 (fun v w => v = .bool (decide (er3 = 0 ∧ most < out.length + n)) ∧ ∃ k, w = wc.drewN k)
      case first =>
        by_cases h0 : er3 = 0
        · subst h0
          by_cases hmo : most < out.length + n
          · have hd : decide ((most : Int) < (out.length : Int) + (n : Int)) = true := decide_eq_true (by omega)
            have hd2 : (most : Int) < (out.length : Int) + (n : Int) := by omega
            have HE := Aside0.mk hmo
            clear hmo hnm
            go_quiet (fail)
            go_wp2_with fail
            go_meet
            case rel => exact ⟨by have := HE.out; simp [this]; try omega, nq, rfl⟩
          · have hd : decide ((most : Int) < (out.length : Int) + (n : Int)) = false := decide_eq_false (by omega)
            have hd2 : ¬ (most : Int) < (out.length : Int) + (n : Int) := by omega
            have HE := Aside0.mk hmo
            clear hmo hnm
            go_quiet (fail)
            go_wp2_with fail
            go_meet
            case rel => exact ⟨by have := HE.out; simp [this]; try omega, nq, rfl⟩
        · have b1 : (er3 == 0) = false := by rw [beq_eq_false_iff_ne]; exact h0
          have b2 : decide (er3 = 0) = false := decide_eq_false h0
          have HE := Aside0.mk h0
          clear h0 hnm
          go_quiet (fail)
          go_wp2_with fail
          go_meet
          case rel => exact ⟨by have := HE.out; simp [this], nq, rfl⟩
      case rest =>
        obtain ⟨rfl, kd, rfl⟩ := hcut
        replace HG5 := Aside0.mk (HG5.out.below (pw_below_drewN (Below.refl _ _) kd))
        clear c4 c3 c2 hw
        go_upto_if 49 with (fail)
        go_cut [] from 31 to 53 (fun w => Aside0 (QG W w B r ov s most a2 ov out (if er3 = 0 ∧ most < out.length + n then 4 else er3)))
        case first =>
          by_cases hc : er3 = 0 ∧ most < out.length + n
          · have hd : decide (er3 = 0 ∧ most < out.length + n) = true := decide_eq_true hc
            have HE := Aside0.mk hc
            have f4 := HG5.out.ix.fz 4
            have c4 := HG5.out.ix.c4
            clear hc hnm
            (try rw [hd])
            go_wp2_with fail
            go_meet
            case rel => rw [if_pos HE.out]; exact ⟨HG5.out.setE 4⟩
          · have hd : decide (er3 = 0 ∧ most < out.length + n) = false := decide_eq_false hc
            have HE := Aside0.mk hc
            clear hc hnm
            (try rw [hd])
            go_wp2_with fail
            go_meet
            case rel => rw [if_neg HE.out]; exact HG5
        case rest =>
          have HG6 := hcut
          have HR4 : Aside0 ((storedT most out).run s a = runS (if er3 = 0 ∧ most < out.length + n then 4 else er3) (bytesO n out) s a2) := ⟨by
            rw [HRUN.out]
            unfold runS
            by_cases h0 : er3 = 0
            · by_cases hmo : most < out.length + n
              · simp [h0, hmo, run]
              · simp [h0, hmo]
            · simp [h0]⟩
          have HRM : Aside0 ((if er3 = 0 ∧ most < out.length + n then 4 else er3) = 0 → out.length + n ≤ most) := ⟨by
            by_cases h0 : er3 = 0
            · by_cases hmo : most < out.length + n
              · simp [h0, hmo]
              · intro; omega
            · simp [h0]⟩
          obtain ⟨er4, he4⟩ : ∃ z, (if er3 = 0 ∧ most < out.length + n then 4 else er3) = z := ⟨_, rfl⟩
          rw [he4] at HG6 HR4 HRM
          have HSL : Aside0 (StL W wc B r ov s most n 0 out.length ((storedT most out).run s a) a2 ov out er4) := ⟨HG6.out, rfl, HR4.out, HRM.out⟩
          clear hcut HG5 HRUN he4 HR4 HRM HG6 hov hol
          go_wp2_with fail
          go_loopw [4] (fun v4 wr => ∃ (i : Nat) (a3 : Nat) (ov3 : Value) (o3 : List Int) (er : Int), v4 = .int .i64 i ∧ i ≤ n ∧ Aside0 (StL W wr B r ov s most n i out.length ((storedT most out).run s a) a3 ov3 o3 er)) (fun v4 _ => n - (intOf v4).toNat)
          case atStart => exact ⟨0, a2, ov, out, er4, rfl, Nat.zero_le _, HSL⟩
          case round =>
            clear HSL
            obtain ⟨i, a3, ov3, o3, er, rfl, hi, HS⟩ := hrel
            have c4 := HS.out.g.ix.c4
            by_cases h0 : er = 0
            · subst h0
              by_cases hlt : i < n
              · have b1 : decide (i < n) = true := decide_eq_true hlt
                have b2 : decide ((i : Int) < (n : Int)) = true := decide_eq_true (by omega)
                have hwi : IntKind.i64.wrap ((i : Int) + 1) = (i : Int) + 1 := IntWalk.i64_in _ (by omega)
                have HI := Aside0.mk hlt
                have HGd := Aside0.mk (HS.out.g.below (below_drew (Below.refl _ _)))
                have hr := HS.out.run
                rw [show n - i = (n - (i + 1)) + 1 by omega, bytesO_succ, runS_bits _ _ _ _ _ HS.out.g.ix.le] at hr
                obtain ⟨u, hu⟩ : ∃ z, bV s a3 0 8 = z := ⟨_, rfl⟩
                have hu8 : u < 256 := by rw [← hu]; exact bV_lt s a3 0 8
                obtain ⟨a4, ha4⟩ : ∃ z, bA s a3 0 8 = z := ⟨_, rfl⟩
                obtain ⟨e4, he4⟩ : ∃ z, bE s a3 0 8 = z := ⟨_, rfl⟩
                have hroom := HS.out.room rfl
                have hlen := HS.out.len
                have HLE := Aside0.mk (And.intro hroom hlen)
                have HBT := Aside0.mk (bitsQ_any HGd.out.ix 8 (by decide))
                rw [hu, ha4, he4] at hr HBT
                have HR := Aside0.mk hr
                have hwu : IntKind.u8.wrap (u : Int) = (u : Int) := IntWalk.u8_in _ (by omega)
                obtain ⟨oA3, oc3, hov3⟩ := HGd.out.ix.slice
                subst hov3
                have c3d := HGd.out.ix.c3
                clear hr hu hu8 ha4 he4 hlt hi hroom hlen
                go_upto_region 10 with (fail)
                refine wp_region_any (by kernel_rfl) ?_
                change wpAny _ _ _ _ _ _ _ (World.drew _)
                generalize wr.drew = wd at HGd HBT c3d ⊢
                refine wpAny_take (i := 0) (v := ?vk1) rfl (by kernel_rfl) (by kernel_rfl) (by kernel_rfl) (fun _ _ _ h => h) (Or.inl ⟨by kernel_rfl, ?yk1⟩) ?_
                case yk1 => (intro w; go_simp; try with_reducible rfl)
                refine wpAny_take (i := 1) (v := ?vk2) rfl (by kernel_rfl) (by kernel_rfl) (by kernel_rfl) (fun _ _ _ h => h) (Or.inl ⟨by kernel_rfl, ?yk2⟩) ?_
                case yk2 => (intro w; go_simp; try with_reducible rfl)
                refine wpAny_take (i := 2) (v := ?vk3) rfl (by kernel_rfl) (by kernel_rfl) (by kernel_rfl) (fun _ _ _ h => h) (Or.inl ⟨by kernel_rfl, ?yk3⟩) ?_
                case yk3 => (intro w; go_simp; try with_reducible rfl)
                refine wpAny_take (i := 3) (v := ?vk4) rfl (by kernel_rfl) (by kernel_rfl) (by kernel_rfl) (fun _ _ _ h => h) (Or.inl ⟨by kernel_rfl, ?yk4⟩) ?_
                case yk4 => (intro w; go_simp; try with_reducible rfl)
                refine wpAny_take (i := 5) (v := ?vk5) rfl (by kernel_rfl) (by kernel_rfl) (by kernel_rfl) (fun _ _ _ h => h) (Or.inl ⟨by kernel_rfl, ?yk5⟩) ?_
                case yk5 => (intro w; go_simp; try with_reducible rfl)
                refine wpAny_ready (rs := [4, 6]) (by kernel_rfl) (by simp) ?_
                refine (AllReady.cons rfl (fun K hK => ?_) (AllReady.cons rfl (fun K hK => ?_) AllReady.nil))
                · skip
                  go_simp
                  refine hK _ _ ?_
                  clear hK K
                  refine wpAny_ready (rs := [6]) (by kernel_rfl) (by simp) ?_
                  refine (AllReady.cons rfl (fun K hK => ?_) AllReady.nil)
                  go_simp
                  go_wp2_with fail
                  refine HBT.out.mono ?_
                  rintro e w5 ⟨rfl, hx5, hf5⟩
                  have HG5 := Aside0.mk (HGd.out.used hx5 (QS_of_r hf5) (AtB.refl _ _))
                  have c35 := HG5.out.ix.c3
                  have c35a : (w5.alloc (.cells #[.int .u8 (u : Int)] 5)).cell? ⟨r, 3, none⟩ = some (.slice oA3 o3.length oc3) := (HG5.out.below (below_alloc (Below.refl _ _) _)).ix.c3
                  clear hx5 hf5
                  refine hK _ _ ?_
                  clear hK K
                  refine wpAny_take (i := 7) (v := ?vk6) rfl (by kernel_rfl) (by kernel_rfl) (by kernel_rfl) (fun _ _ _ h => h) (Or.inl ⟨by kernel_rfl, ?yk6⟩) ?_
                  case yk6 => (intro w; go_simp; try with_reducible rfl)
                  refine wpAny_ready (rs := [8]) (by kernel_rfl) (by simp) ?_
                  refine (AllReady.cons rfl (fun K hK => ?_) AllReady.nil)
                  go_simp
                  refine hK _ _ ?_
                  clear hK K
                  refine wpAny_ready (rs := [9]) (by kernel_rfl) (by simp) ?_
                  refine (AllReady.cons rfl (fun K hK => ?_) AllReady.nil)
                  refine Kd.R_append_step (Kd.int .u8) (w0 := w5) (W := w5) B (by kernel_rfl) (.tmp 69) (.tmp 73) 33 5 (.int .u8 0) 1 (by rfl) Try.underlying33 info5 (by decide) (by decide) (by decide) (.slice oA3 o3.length oc3) o3 (u : Int) [.int .u8 (u : Int)] (fun _ => True) (fun _ => False) (by rfl) (by rfl) rfl (fun _ hk => hk.elim) (fun _ _ => trivial) HG5.out.ix.ro (Below.refl _ _) HG5.out.ix.base (by have := HG5.out.ix.ol; have := HG5.out.ix.ml; omega) ?_
                  intro v1 w8 ho hb hg hat
                  have cw8 := (hg.block r HG5.out.ix.lt (fun e => HG5.out.ix.ne e.symm)).trans HG5.out.ix.bx
                  have c38 := (blk_cell cw8 3).trans (rfl : _ = some (Value.slice oA3 o3.length oc3))
                  have f38 := blk_frozen cw8 3
                  have HGR := Aside0.mk (HG5.out.grow ho hg hat (by rw [List.length_append, List.length_singleton]; have := HLE.out; have := HI.out; omega))
                  obtain ⟨A9, c9, e9⟩ := Kd.R_slice ho
                  subst e9
                  rw [List.length_append, List.length_singleton] at HGR
                  clear ho hb hg hat cw8
                  refine hK _ _ ?_
                  clear hK K
                  refine wpAny_take (i := 10) (v := ?vk7) rfl (by kernel_rfl) (by kernel_rfl) (by kernel_rfl) (fun _ _ _ h => h) (Or.inl ⟨by kernel_rfl, ?yk7⟩) ?_
                  case yk7 => (intro w; go_simp; try with_reducible rfl)
                  refine wpAny_take (i := 11) (v := ?vk8) rfl (by kernel_rfl) (by kernel_rfl) (by kernel_rfl) (fun _ _ _ h => h) (Or.inl ⟨by kernel_rfl, ?yk8⟩) ?_
                  case yk8 => (intro w; go_simp; try with_reducible rfl)
                  refine wpAny_ready (rs := [12]) (by kernel_rfl) (by simp) ?_
                  refine (AllReady.cons rfl (fun K hK => ?_) AllReady.nil)
                  go_simp
                  refine hK _ _ ?_
                  clear hK K
                  refine wpAny_done (by kernel_rfl) ?_ _
                  go_wp2_with fail
                  go_roundw
                  case rel => exact ⟨i + 1, a4, _, _, e4, by simp, HI.out, ⟨HGR.out, by rw [List.length_append, List.length_singleton]; have := HLE.out; omega, HR.out, fun _ => HLE.out.1⟩⟩
                  case measure => simp [intOf]; have := HI.out; omega
                · skip
                  go_simp
                  go_wp2_with fail
                  refine HBT.out.mono ?_
                  rintro e w5 ⟨rfl, hx5, hf5⟩
                  have HG5 := Aside0.mk (HGd.out.used hx5 (QS_of_r hf5) (AtB.refl _ _))
                  have c35 := HG5.out.ix.c3
                  have c35a : (w5.alloc (.cells #[.int .u8 (u : Int)] 5)).cell? ⟨r, 3, none⟩ = some (.slice oA3 o3.length oc3) := (HG5.out.below (below_alloc (Below.refl _ _) _)).ix.c3
                  clear hx5 hf5
                  refine hK _ _ ?_
                  clear hK K
                  refine wpAny_take (i := 7) (v := ?vk9) rfl (by kernel_rfl) (by kernel_rfl) (by kernel_rfl) (fun _ _ _ h => h) (Or.inl ⟨by kernel_rfl, ?yk9⟩) ?_
                  case yk9 => (intro w; go_simp; try with_reducible rfl)
                  refine wpAny_ready (rs := [4, 8]) (by kernel_rfl) (by simp) ?_
                  refine (AllReady.cons rfl (fun K hK => ?_) (AllReady.cons rfl (fun K hK => ?_) AllReady.nil))
                  · skip
                    go_simp
                    refine hK _ _ ?_
                    clear hK K
                    refine wpAny_ready (rs := [8]) (by kernel_rfl) (by simp) ?_
                    refine (AllReady.cons rfl (fun K hK => ?_) AllReady.nil)
                    go_simp
                    refine hK _ _ ?_
                    clear hK K
                    refine wpAny_ready (rs := [9]) (by kernel_rfl) (by simp) ?_
                    refine (AllReady.cons rfl (fun K hK => ?_) AllReady.nil)
                    refine Kd.R_append_step (Kd.int .u8) (w0 := w5) (W := w5) B (by kernel_rfl) (.tmp 69) (.tmp 73) 33 5 (.int .u8 0) 1 (by rfl) Try.underlying33 info5 (by decide) (by decide) (by decide) (.slice oA3 o3.length oc3) o3 (u : Int) [.int .u8 (u : Int)] (fun _ => True) (fun _ => False) (by rfl) (by rfl) rfl (fun _ hk => hk.elim) (fun _ _ => trivial) HG5.out.ix.ro (Below.refl _ _) HG5.out.ix.base (by have := HG5.out.ix.ol; have := HG5.out.ix.ml; omega) ?_
                    intro v1 w8 ho hb hg hat
                    have cw8 := (hg.block r HG5.out.ix.lt (fun e => HG5.out.ix.ne e.symm)).trans HG5.out.ix.bx
                    have c38 := (blk_cell cw8 3).trans (rfl : _ = some (Value.slice oA3 o3.length oc3))
                    have f38 := blk_frozen cw8 3
                    have HGR := Aside0.mk (HG5.out.grow ho hg hat (by rw [List.length_append, List.length_singleton]; have := HLE.out; have := HI.out; omega))
                    obtain ⟨A9, c9, e9⟩ := Kd.R_slice ho
                    subst e9
                    rw [List.length_append, List.length_singleton] at HGR
                    clear ho hb hg hat cw8
                    refine hK _ _ ?_
                    clear hK K
                    refine wpAny_take (i := 10) (v := ?vk10) rfl (by kernel_rfl) (by kernel_rfl) (by kernel_rfl) (fun _ _ _ h => h) (Or.inl ⟨by kernel_rfl, ?yk10⟩) ?_
                    case yk10 => (intro w; go_simp; try with_reducible rfl)
                    refine wpAny_take (i := 11) (v := ?vk11) rfl (by kernel_rfl) (by kernel_rfl) (by kernel_rfl) (fun _ _ _ h => h) (Or.inl ⟨by kernel_rfl, ?yk11⟩) ?_
                    case yk11 => (intro w; go_simp; try with_reducible rfl)
                    refine wpAny_ready (rs := [12]) (by kernel_rfl) (by simp) ?_
                    refine (AllReady.cons rfl (fun K hK => ?_) AllReady.nil)
                    go_simp
                    refine hK _ _ ?_
                    clear hK K
                    refine wpAny_done (by kernel_rfl) ?_ _
                    go_wp2_with fail
                    go_roundw
                    case rel => exact ⟨i + 1, a4, _, _, e4, by simp, HI.out, ⟨HGR.out, by rw [List.length_append, List.length_singleton]; have := HLE.out; omega, HR.out, fun _ => HLE.out.1⟩⟩
                    case measure => simp [intOf]; have := HI.out; omega
                  · skip
                    go_simp
                    refine hK _ _ ?_
                    clear hK K
                    refine wpAny_ready (rs := [4]) (by kernel_rfl) (by simp) ?_
                    refine (AllReady.cons rfl (fun K hK => ?_) AllReady.nil)
                    go_simp
                    refine hK _ _ ?_
                    clear hK K
                    refine wpAny_ready (rs := [9]) (by kernel_rfl) (by simp) ?_
                    refine (AllReady.cons rfl (fun K hK => ?_) AllReady.nil)
                    refine Kd.R_append_step (Kd.int .u8) (w0 := w5) (W := w5) B (by kernel_rfl) (.tmp 69) (.tmp 73) 33 5 (.int .u8 0) 1 (by rfl) Try.underlying33 info5 (by decide) (by decide) (by decide) (.slice oA3 o3.length oc3) o3 (u : Int) [.int .u8 (u : Int)] (fun _ => True) (fun _ => False) (by rfl) (by rfl) rfl (fun _ hk => hk.elim) (fun _ _ => trivial) HG5.out.ix.ro (Below.refl _ _) HG5.out.ix.base (by have := HG5.out.ix.ol; have := HG5.out.ix.ml; omega) ?_
                    intro v1 w8 ho hb hg hat
                    have cw8 := (hg.block r HG5.out.ix.lt (fun e => HG5.out.ix.ne e.symm)).trans HG5.out.ix.bx
                    have c38 := (blk_cell cw8 3).trans (rfl : _ = some (Value.slice oA3 o3.length oc3))
                    have f38 := blk_frozen cw8 3
                    have HGR := Aside0.mk (HG5.out.grow ho hg hat (by rw [List.length_append, List.length_singleton]; have := HLE.out; have := HI.out; omega))
                    obtain ⟨A9, c9, e9⟩ := Kd.R_slice ho
                    subst e9
                    rw [List.length_append, List.length_singleton] at HGR
                    clear ho hb hg hat cw8
                    refine hK _ _ ?_
                    clear hK K
                    refine wpAny_take (i := 10) (v := ?vk12) rfl (by kernel_rfl) (by kernel_rfl) (by kernel_rfl) (fun _ _ _ h => h) (Or.inl ⟨by kernel_rfl, ?yk12⟩) ?_
                    case yk12 => (intro w; go_simp; try with_reducible rfl)
                    refine wpAny_take (i := 11) (v := ?vk13) rfl (by kernel_rfl) (by kernel_rfl) (by kernel_rfl) (fun _ _ _ h => h) (Or.inl ⟨by kernel_rfl, ?yk13⟩) ?_
                    case yk13 => (intro w; go_simp; try with_reducible rfl)
                    refine wpAny_ready (rs := [12]) (by kernel_rfl) (by simp) ?_
                    refine (AllReady.cons rfl (fun K hK => ?_) AllReady.nil)
                    go_simp
                    refine hK _ _ ?_
                    clear hK K
                    refine wpAny_done (by kernel_rfl) ?_ _
                    go_wp2_with fail
                    go_roundw
                    case rel => exact ⟨i + 1, a4, _, _, e4, by simp, HI.out, ⟨HGR.out, by rw [List.length_append, List.length_singleton]; have := HLE.out; omega, HR.out, fun _ => HLE.out.1⟩⟩
                    case measure => simp [intOf]; have := HI.out; omega
              · have hie : i = n := by omega
                have b1 : decide (i < n) = false := decide_eq_false hlt
                have b2 : decide ((i : Int) < (n : Int)) = false := decide_eq_false (by omega)
                have HR : Aside0 ((storedT most out).run s a = .ok o3 a3) := ⟨by
                  rw [HS.out.run, runS_0, hie, Nat.sub_self, bytesO_zero]
                  rfl⟩
                clear hlt hi hie
                go_wp2_with fail
                go_end0
                rw [HR.out]
                exact HS.out.g.ok rfl
            · have b1 : (er == 0) = false := by rw [beq_eq_false_iff_ne]; exact h0
              have b2 : decide (er = 0) = false := decide_eq_false h0
              have HE := Aside0.mk h0
              have HR : Aside0 ((storedT most out).run s a = .no er) := ⟨by rw [HS.out.run, runS_no h0]⟩
              clear h0
              by_cases hlt : i < n
              · have b3 : decide (i < n) = true := decide_eq_true hlt
                have b4 : decide ((i : Int) < (n : Int)) = true := decide_eq_true (by omega)
                clear hlt hi
                go_wp2_with fail
                go_end0
                rw [HR.out]
                exact HS.out.g.no HE.out rfl
              · have b3 : decide (i < n) = false := decide_eq_false hlt
                have b4 : decide ((i : Int) < (n : Int)) = false := decide_eq_false (by omega)
                clear hlt hi
                go_wp2_with fail
                go_end0
                rw [HR.out]
                exact HS.out.g.no HE.out rfl
end Go.Proofs.Yteffjbjhkaobfaa.HI
