/- Parts: HRq4 HRq10 PLawD PWd -/
import Derived.Test.YtaghmhcccighgaaK06
import Derived.Test.YtaghmhcccighgaaK09
import Derived.Test.YtaghmhcccighgaaK05
import Derived.Test.YtaghmhcccighgaaK02
set_option linter.unusedVariables false
set_option linter.unusedSimpArgs false
section
/- The document's stored: walked. (printed by mkrq4.py) -/
namespace Go.Proofs.Ytaghmhcccighgaa.HI
open Go.RowKit Go.Proofs.YtaghmhcccighgaaW.PrintWords Go.Proofs.YtaghmhcccighgaaW.PrintLast Go.Proofs.YtaghmhcccighgaaW.PrintMore Go.Proofs.Ytaghmhcccighgaa.HW Go.Proofs.Ytaghmhcccighgaa.MB Go.Proofs.Ytaghmhcccighgaa.Fn Go.Proofs.Ytaghmhcccighgaa.HF Go.Proofs.Ytaghmhcccighgaa.RT Go.Proofs.Ytaghmhcccighgaa.RT.Rd Go.Proofs.Ytaghmhcccighgaa.HP
attribute [local go_sem] max2_int min2_int max_two min_two max_three min_three max_four min_four   -- for this text's walks alone
/-- So many bytes, put behind others. -/
def bytesO (n : Nat) (out : List Int) : Rd (List Int) := (bytesN n).bind fun bs => ret (out ++ bs)
theorem bytesO_zero (out : List Int) : bytesO 0 out = ret out := by
  show ret (out ++ []) = _
  rw [List.append_nil]
theorem bytesO_succ (n : Nat) (out : List Int) : bytesO (n + 1) out = (bitsN 8).bind fun b => bytesO n (out ++ [(b : Int)]) := by
  show (((bitsN 8).bind fun b => (bytesN n).bind fun r => ret ((b : Int) :: r)).bind fun bs => ret (out ++ bs)) = _
  rw [bind_assoc]
  congr 1
  funext b
  rw [bind_assoc]
  unfold bytesO
  congr 1
  funext v
  show ret (out ++ ((b : Int) :: v)) = ret (out ++ [(b : Int)] ++ v)
  rw [List.append_assoc]
  rfl
/-- The loop's state: so many bytes were put; the reading goes on, or has ended. -/
structure StL (W w : World) (B r : Nat) (ov : Value) (s : ByteArray) (most n i L : Nat) (run : Res (List Int)) (a1 : Nat) (ov1 : Value) (o1 : List Int) (er : Int) : Prop where
  g : QG W w B r ov s most a1 ov1 o1 er
  len : o1.length = L + i
  run : run = runS er (bytesO (n - i) o1) s a1
  room : er = 0 → L + n ≤ most
set_option maxRecDepth 100000 in
set_option maxHeartbeats 8000000 in
theorem storedQ {W : World} {B r : Nat} {ov : Value} {s : ByteArray} {a most : Nat} {out : List Int} (h : IsQ W B r ov s a most out 0) :
    Calls Try.prog 25 #[.pointer (some ⟨r, 0, none⟩)] W (PQ (fun _ : List Int => .tuple #[]) (.tuple #[]) (fun o => o) B r ov s most W ((storedT most out).run s a)) := by
  have hle := h.le
  have hsz := h.sz
  obtain ⟨a0, ha0⟩ : ∃ z, (a + 7) / 8 * 8 = z := ⟨_, rfl⟩
  have hal : a0 ≤ 8 * s.size := by omega
  have hrun : (storedT most out).run s a = runS 0 ((bitsN 16).bind fun n => (bitsN 16).bind fun m => if m + n = 65535 then (if most < out.length + n then err 4 else bytesO n out) else err 40) s a0 := by
    rw [runS_0, ← ha0]
    rfl
  rw [runS_bits _ _ _ _ _ hal] at hrun
  obtain ⟨n, hn⟩ : ∃ z, bV s a0 0 16 = z := ⟨_, rfl⟩
  have hn16 : n < 65536 := by rw [← hn]; exact bV_lt s a0 0 16
  have ha1 := bA_le s a0 0 16 hal
  rw [hn, runS_bits _ _ _ _ _ ha1] at hrun
  obtain ⟨a1, he1⟩ : ∃ z, bA s a0 0 16 = z := ⟨_, rfl⟩
  obtain ⟨er1, hr1⟩ : ∃ z, bE s a0 0 16 = z := ⟨_, rfl⟩
  rw [he1] at ha1
  rw [he1, hr1] at hrun
  obtain ⟨m, hm⟩ : ∃ z, bV s a1 er1 16 = z := ⟨_, rfl⟩
  have hm16 : m < 65536 := by rw [← hm]; exact bV_lt s a1 er1 16
  have ha2 := bA_le s a1 er1 16 ha1
  obtain ⟨a2, he2⟩ : ∃ z, bA s a1 er1 16 = z := ⟨_, rfl⟩
  obtain ⟨er2, hr2⟩ : ∃ z, bE s a1 er1 16 = z := ⟨_, rfl⟩
  rw [hm, he2, hr2, runS_if] at hrun
  rw [he2] at ha2
  have HRUN := Aside0.mk hrun
  have H := Aside0.mk h
  have HA := Aside0.mk (aligned_any a (by omega) W)
  rw [ha0] at HA
  have c1 := h.c1
  have HAL := Aside0.mk hal
  have HN := Aside0.mk hn16
  have HM := Aside0.mk hm16
  have HE1 := Aside0.mk (And.intro hn (And.intro he1 hr1))
  have HE2 := Aside0.mk (And.intro hm (And.intro he2 hr2))
  have HA2 := Aside0.mk ha2
  clear h hle hsz ha0 hal hrun hn hn16 ha1 he1 hr1 hm hm16 ha2 he2 hr2
  go_enter Try.func25, Try.ntmps25
  go_wp2_with fail
  refine HA.out.mono ?_
  rintro e w1 ⟨rfl, hb1⟩
  have HG1 := Aside0.mk ((QG.start H.out).below hb1)
  have f1 := HG1.out.ix.fz 1
  have c1 := HG1.out.ix.c1
  clear hb1 HA
  go_upto_region 1 with (fail)
  have HG2 := Aside0.mk (HG1.out.setA a0 HAL.out)
  have HB2 := Aside0.mk (bitsQ_any HG2.out.ix 16 (by decide))
  rw [HE1.out.1, HE1.out.2.1, HE1.out.2.2] at HB2
  clear f1 c1 HG1
  go_wp2_with fail
  refine HB2.out.mono ?_
  rintro e w2 ⟨rfl, hx, hf⟩
  have HG3 := Aside0.mk (HG2.out.used hx (QS_of_r hf) (AtB.refl _ _))
  have HB3 := Aside0.mk (bitsQ_any HG3.out.ix 16 (by decide))
  rw [HE2.out.1, HE2.out.2.1, HE2.out.2.2] at HB3
  clear hx hf HG2 HB2
  go_upto_region 2 with (fail)
  go_wp2_with fail
  refine HB3.out.mono ?_
  rintro e w3 ⟨rfl, hx, hf⟩
  have HG4 := Aside0.mk (HG3.out.used hx (QS_of_r hf) (AtB.refl _ _))
  have c4 := HG4.out.ix.c4
  clear hx hf HG3 HB3
  have hnm := HN.out
  have hmm := HM.out
  have hw : IntKind.i64.wrap (65535 - (n : Int)) = 65535 - (n : Int) := IntWalk.i64_in _ (by omega)
  go_upto_region 3 with (fail)
  go_cut [27] from 17 to 27 (fun v w => v = .bool (decide (er2 = 0 ∧ m + n ≠ 65535)) ∧ w = w3)
  case first =>
    by_cases h0 : er2 = 0
    · subst h0
      by_cases hmn : m + n = 65535
      · have hd : decide ((m : Int) = 65535 - (n : Int)) = true := decide_eq_true (by omega)
        have hd2 : ((m : Int) == 65535 - (n : Int)) = true := by rw [beq_iff_eq]; omega
        have HE := Aside0.mk hmn
        clear hmn hnm hmm
        go_wp2_with fail
        go_meet
        case rel => exact ⟨by have := HE.out; simp [this]; try omega, rfl⟩
      · have hd : decide ((m : Int) = 65535 - (n : Int)) = false := decide_eq_false (by omega)
        have hd2 : ((m : Int) == 65535 - (n : Int)) = false := by rw [beq_eq_false_iff_ne]; omega
        have HE := Aside0.mk hmn
        clear hmn hnm hmm
        go_wp2_with fail
        go_meet
        case rel => exact ⟨by have := HE.out; simp [this]; try omega, rfl⟩
    · have b1 : (er2 == 0) = false := by rw [beq_eq_false_iff_ne]; exact h0
      have b2 : decide (er2 = 0) = false := decide_eq_false h0
      have HE := Aside0.mk h0
      clear h0 hnm hmm
      go_wp2_with fail
      go_meet
      case rel => exact ⟨by have := HE.out; simp [this], rfl⟩
  case rest =>
    obtain ⟨rfl, rfl⟩ := hcut
    clear c4 hw
    go_upto_if 27 with (fail)
    go_cut [] from 17 to 31 (fun w => Aside0 (QG W w B r ov s most a2 ov out (if m + n = 65535 then er2 else enE er2)))
    case first =>
      by_cases hc : er2 = 0 ∧ m + n ≠ 65535
      · have hd : decide (er2 = 0 ∧ m + n ≠ 65535) = true := decide_eq_true hc
        have hd2 : decide (er2 = 0 ∧ ¬ m + n = 65535) = true := decide_eq_true hc
        have HE : Aside0 ((if m + n = 65535 then er2 else enE er2) = 40) := ⟨by rw [if_neg hc.2, hc.1]; rfl⟩
        have f4 := HG4.out.ix.fz 4
        have c4 := HG4.out.ix.c4
        clear hc hnm hmm
        (try rw [hd])
        go_wp2_with fail
        go_meet
        case rel => rw [HE.out]; exact ⟨HG4.out.setE 40⟩
      · have hd : decide (er2 = 0 ∧ m + n ≠ 65535) = false := decide_eq_false hc
        have hd2 : decide (er2 = 0 ∧ ¬ m + n = 65535) = false := decide_eq_false hc
        have HE : Aside0 ((if m + n = 65535 then er2 else enE er2) = er2) := ⟨by
          by_cases h1 : m + n = 65535
          · rw [if_pos h1]
          · rw [if_neg h1]
            unfold enE
            rw [if_neg (fun h => hc ⟨h, h1⟩)]⟩
        clear hc hnm hmm
        (try rw [hd])
        go_wp2_with fail
        go_meet
        case rel => rw [HE.out]; exact HG4
    case rest =>
      obtain ⟨er3, he3⟩ : ∃ z, (if m + n = 65535 then er2 else enE er2) = z := ⟨_, rfl⟩
      rw [he3] at hcut HRUN
      have HG5 := hcut
      clear HG4 he3 hcut HE1 HE2 hmm
      obtain ⟨oA, oc, hov⟩ := HG5.out.ix.slice
      have c2 := HG5.out.ix.c2
      have c3 := HG5.out.ix.c3
      have c4 := HG5.out.ix.c4
      rw [hov] at c3
      have hol : (out.length : Int) ≤ 1048576 := by have := HG5.out.ix.ol; have := HG5.out.ix.ml; omega
      have hw : IntKind.i64.wrap ((out.length : Int) + (n : Int)) = (out.length : Int) + (n : Int) := IntWalk.i64_in _ (by omega)
      go_upto_region 5 with (fail)
      go_cut [49] from 31 to 49 (fun v w => v = .bool (decide (er3 = 0 ∧ most < out.length + n)) ∧ ∃ k, w = wc.drewN k)
      case first =>
        by_cases h0 : er3 = 0
        · subst h0
          by_cases hmo : most < out.length + n
          · have hd : decide ((most : Int) < (out.length : Int) + (n : Int)) = true := decide_eq_true (by omega)
            have hd2 : (most : Int) < (out.length : Int) + (n : Int) := by omega
            have HE := Aside0.mk hmo
            clear hmo hnm
            go_quiet (fail)
            go_wp2_with fail
            go_meet
            case rel => exact ⟨by have := HE.out; simp [this]; try omega, nq, rfl⟩
          · have hd : decide ((most : Int) < (out.length : Int) + (n : Int)) = false := decide_eq_false (by omega)
            have hd2 : ¬ (most : Int) < (out.length : Int) + (n : Int) := by omega
            have HE := Aside0.mk hmo
            clear hmo hnm
            go_quiet (fail)
            go_wp2_with fail
            go_meet
            case rel => exact ⟨by have := HE.out; simp [this]; try omega, nq, rfl⟩
        · have b1 : (er3 == 0) = false := by rw [beq_eq_false_iff_ne]; exact h0
          have b2 : decide (er3 = 0) = false := decide_eq_false h0
          have HE := Aside0.mk h0
          clear h0 hnm
          go_quiet (fail)
          go_wp2_with fail
          go_meet
          case rel => exact ⟨by have := HE.out; simp [this], nq, rfl⟩
      case rest =>
        obtain ⟨rfl, kd, rfl⟩ := hcut
        replace HG5 := Aside0.mk (HG5.out.below (pw_below_drewN (Below.refl _ _) kd))
        clear c4 c3 c2 hw
        go_upto_if 49 with (fail)
        go_cut [] from 31 to 53 (fun w => Aside0 (QG W w B r ov s most a2 ov out (if er3 = 0 ∧ most < out.length + n then 4 else er3)))
        case first =>
          by_cases hc : er3 = 0 ∧ most < out.length + n
          · have hd : decide (er3 = 0 ∧ most < out.length + n) = true := decide_eq_true hc
            have HE := Aside0.mk hc
            have f4 := HG5.out.ix.fz 4
            have c4 := HG5.out.ix.c4
            clear hc hnm
            (try rw [hd])
            go_wp2_with fail
            go_meet
            case rel => rw [if_pos HE.out]; exact ⟨HG5.out.setE 4⟩
          · have hd : decide (er3 = 0 ∧ most < out.length + n) = false := decide_eq_false hc
            have HE := Aside0.mk hc
            clear hc hnm
            (try rw [hd])
            go_wp2_with fail
            go_meet
            case rel => rw [if_neg HE.out]; exact HG5
        case rest =>
          have HG6 := hcut
          have HR4 : Aside0 ((storedT most out).run s a = runS (if er3 = 0 ∧ most < out.length + n then 4 else er3) (bytesO n out) s a2) := ⟨by
            rw [HRUN.out]
            unfold runS
            by_cases h0 : er3 = 0
            · by_cases hmo : most < out.length + n
              · simp [h0, hmo, run]
              · simp [h0, hmo]
            · simp [h0]⟩
          have HRM : Aside0 ((if er3 = 0 ∧ most < out.length + n then 4 else er3) = 0 → out.length + n ≤ most) := ⟨by
            by_cases h0 : er3 = 0
            · by_cases hmo : most < out.length + n
              · simp [h0, hmo]
              · intro; omega
            · simp [h0]⟩
          obtain ⟨er4, he4⟩ : ∃ z, (if er3 = 0 ∧ most < out.length + n then 4 else er3) = z := ⟨_, rfl⟩
          rw [he4] at HG6 HR4 HRM
          have HSL : Aside0 (StL W wc B r ov s most n 0 out.length ((storedT most out).run s a) a2 ov out er4) := ⟨HG6.out, rfl, HR4.out, HRM.out⟩
          clear hcut HG5 HRUN he4 HR4 HRM HG6 hov hol
          go_wp2_with fail
          go_loopw [4] (fun v4 wr => ∃ (i : Nat) (a3 : Nat) (ov3 : Value) (o3 : List Int) (er : Int), v4 = .int .i64 i ∧ i ≤ n ∧ Aside0 (StL W wr B r ov s most n i out.length ((storedT most out).run s a) a3 ov3 o3 er)) (fun v4 _ => n - (intOf v4).toNat)
          case atStart => exact ⟨0, a2, ov, out, er4, rfl, Nat.zero_le _, HSL⟩
          case round =>
            clear HSL
            obtain ⟨i, a3, ov3, o3, er, rfl, hi, HS⟩ := hrel
            have c4 := HS.out.g.ix.c4
            by_cases h0 : er = 0
            · subst h0
              by_cases hlt : i < n
              · have b1 : decide (i < n) = true := decide_eq_true hlt
                have b2 : decide ((i : Int) < (n : Int)) = true := decide_eq_true (by omega)
                have hwi : IntKind.i64.wrap ((i : Int) + 1) = (i : Int) + 1 := IntWalk.i64_in _ (by omega)
                have HI := Aside0.mk hlt
                have HGd := Aside0.mk (HS.out.g.below (below_drew (Below.refl _ _)))
                have hr := HS.out.run
                rw [show n - i = (n - (i + 1)) + 1 by omega, bytesO_succ, runS_bits _ _ _ _ _ HS.out.g.ix.le] at hr
                obtain ⟨u, hu⟩ : ∃ z, bV s a3 0 8 = z := ⟨_, rfl⟩
                have hu8 : u < 256 := by rw [← hu]; exact bV_lt s a3 0 8
                obtain ⟨a4, ha4⟩ : ∃ z, bA s a3 0 8 = z := ⟨_, rfl⟩
                obtain ⟨e4, he4⟩ : ∃ z, bE s a3 0 8 = z := ⟨_, rfl⟩
                have hroom := HS.out.room rfl
                have hlen := HS.out.len
                have HLE := Aside0.mk (And.intro hroom hlen)
                have HBT := Aside0.mk (bitsQ_any HGd.out.ix 8 (by decide))
                rw [hu, ha4, he4] at hr HBT
                have HR := Aside0.mk hr
                have hwu : IntKind.u8.wrap (u : Int) = (u : Int) := IntWalk.u8_in _ (by omega)
                obtain ⟨oA3, oc3, hov3⟩ := HGd.out.ix.slice
                subst hov3
                have c3d := HGd.out.ix.c3
                clear hr hu hu8 ha4 he4 hlt hi hroom hlen
                go_upto_region 10 with (fail)
                refine wp_region_any (by kernel_rfl) ?_
                change wpAny _ _ _ _ _ _ _ (World.drew _)
                generalize wr.drew = wd at HGd HBT c3d ⊢
                refine wpAny_take (i := 0) (v := ?vk1) rfl (by kernel_rfl) (by kernel_rfl) (by kernel_rfl) (fun _ _ _ h => h) (Or.inl ⟨by kernel_rfl, ?yk1⟩) ?_
                case yk1 => (intro w; go_simp; try with_reducible rfl)
                refine wpAny_take (i := 1) (v := ?vk2) rfl (by kernel_rfl) (by kernel_rfl) (by kernel_rfl) (fun _ _ _ h => h) (Or.inl ⟨by kernel_rfl, ?yk2⟩) ?_
                case yk2 => (intro w; go_simp; try with_reducible rfl)
                refine wpAny_take (i := 2) (v := ?vk3) rfl (by kernel_rfl) (by kernel_rfl) (by kernel_rfl) (fun _ _ _ h => h) (Or.inl ⟨by kernel_rfl, ?yk3⟩) ?_
                case yk3 => (intro w; go_simp; try with_reducible rfl)
                refine wpAny_take (i := 3) (v := ?vk4) rfl (by kernel_rfl) (by kernel_rfl) (by kernel_rfl) (fun _ _ _ h => h) (Or.inl ⟨by kernel_rfl, ?yk4⟩) ?_
                case yk4 => (intro w; go_simp; try with_reducible rfl)
                refine wpAny_take (i := 5) (v := ?vk5) rfl (by kernel_rfl) (by kernel_rfl) (by kernel_rfl) (fun _ _ _ h => h) (Or.inl ⟨by kernel_rfl, ?yk5⟩) ?_
                case yk5 => (intro w; go_simp; try with_reducible rfl)
                refine wpAny_ready (rs := [4, 6]) (by kernel_rfl) (by simp) ?_
                refine (AllReady.cons rfl (fun K hK => ?_) (AllReady.cons rfl (fun K hK => ?_) AllReady.nil))
                · skip
                  go_simp
                  refine hK _ _ ?_
                  clear hK K
                  refine wpAny_ready (rs := [6]) (by kernel_rfl) (by simp) ?_
                  refine (AllReady.cons rfl (fun K hK => ?_) AllReady.nil)
                  go_simp
                  go_wp2_with fail
                  refine HBT.out.mono ?_
                  rintro e w5 ⟨rfl, hx5, hf5⟩
                  have HG5 := Aside0.mk (HGd.out.used hx5 (QS_of_r hf5) (AtB.refl _ _))
                  have c35 := HG5.out.ix.c3
                  have c35a : (w5.alloc (.cells #[.int .u8 (u : Int)] 5)).cell? ⟨r, 3, none⟩ = some (.slice oA3 o3.length oc3) := (HG5.out.below (below_alloc (Below.refl _ _) _)).ix.c3
                  clear hx5 hf5
                  refine hK _ _ ?_
                  clear hK K
                  refine wpAny_take (i := 7) (v := ?vk6) rfl (by kernel_rfl) (by kernel_rfl) (by kernel_rfl) (fun _ _ _ h => h) (Or.inl ⟨by kernel_rfl, ?yk6⟩) ?_
                  case yk6 => (intro w; go_simp; try with_reducible rfl)
                  refine wpAny_ready (rs := [8]) (by kernel_rfl) (by simp) ?_
                  refine (AllReady.cons rfl (fun K hK => ?_) AllReady.nil)
                  go_simp
                  refine hK _ _ ?_
                  clear hK K
                  refine wpAny_ready (rs := [9]) (by kernel_rfl) (by simp) ?_
                  refine (AllReady.cons rfl (fun K hK => ?_) AllReady.nil)
                  refine Kd.R_append_step (Kd.int .u8) (w0 := w5) (W := w5) B (by kernel_rfl) (.tmp 69) (.tmp 73) 28 5 (.int .u8 0) 1 (by rfl) Try.underlying28 info5 (by decide) (by decide) (by decide) (.slice oA3 o3.length oc3) o3 (u : Int) [.int .u8 (u : Int)] (fun _ => True) (fun _ => False) (by rfl) (by rfl) rfl (fun _ hk => hk.elim) (fun _ _ => trivial) HG5.out.ix.ro (Below.refl _ _) HG5.out.ix.base (by have := HG5.out.ix.ol; have := HG5.out.ix.ml; omega) ?_
                  intro v1 w8 ho hb hg hat
                  have cw8 := (hg.block r HG5.out.ix.lt (fun e => HG5.out.ix.ne e.symm)).trans HG5.out.ix.bx
                  have c38 := (blk_cell cw8 3).trans (rfl : _ = some (Value.slice oA3 o3.length oc3))
                  have f38 := blk_frozen cw8 3
                  have HGR := Aside0.mk (HG5.out.grow ho hg hat (by rw [List.length_append, List.length_singleton]; have := HLE.out; have := HI.out; omega))
                  obtain ⟨A9, c9, e9⟩ := Kd.R_slice ho
                  subst e9
                  rw [List.length_append, List.length_singleton] at HGR
                  clear ho hb hg hat cw8
                  refine hK _ _ ?_
                  clear hK K
                  refine wpAny_take (i := 10) (v := ?vk7) rfl (by kernel_rfl) (by kernel_rfl) (by kernel_rfl) (fun _ _ _ h => h) (Or.inl ⟨by kernel_rfl, ?yk7⟩) ?_
                  case yk7 => (intro w; go_simp; try with_reducible rfl)
                  refine wpAny_take (i := 11) (v := ?vk8) rfl (by kernel_rfl) (by kernel_rfl) (by kernel_rfl) (fun _ _ _ h => h) (Or.inl ⟨by kernel_rfl, ?yk8⟩) ?_
                  case yk8 => (intro w; go_simp; try with_reducible rfl)
                  refine wpAny_ready (rs := [12]) (by kernel_rfl) (by simp) ?_
                  refine (AllReady.cons rfl (fun K hK => ?_) AllReady.nil)
                  go_simp
                  refine hK _ _ ?_
                  clear hK K
                  refine wpAny_done (by kernel_rfl) ?_ _
                  go_wp2_with fail
                  go_roundw
                  case rel => exact ⟨i + 1, a4, _, _, e4, by simp, HI.out, ⟨HGR.out, by rw [List.length_append, List.length_singleton]; have := HLE.out; omega, HR.out, fun _ => HLE.out.1⟩⟩
                  case measure => simp [intOf]; have := HI.out; omega
                · skip
                  go_simp
                  go_wp2_with fail
                  refine HBT.out.mono ?_
                  rintro e w5 ⟨rfl, hx5, hf5⟩
                  have HG5 := Aside0.mk (HGd.out.used hx5 (QS_of_r hf5) (AtB.refl _ _))
                  have c35 := HG5.out.ix.c3
                  have c35a : (w5.alloc (.cells #[.int .u8 (u : Int)] 5)).cell? ⟨r, 3, none⟩ = some (.slice oA3 o3.length oc3) := (HG5.out.below (below_alloc (Below.refl _ _) _)).ix.c3
                  clear hx5 hf5
                  refine hK _ _ ?_
                  clear hK K
                  refine wpAny_take (i := 7) (v := ?vk9) rfl (by kernel_rfl) (by kernel_rfl) (by kernel_rfl) (fun _ _ _ h => h) (Or.inl ⟨by kernel_rfl, ?yk9⟩) ?_
                  case yk9 => (intro w; go_simp; try with_reducible rfl)
                  refine wpAny_ready (rs := [4, 8]) (by kernel_rfl) (by simp) ?_
                  refine (AllReady.cons rfl (fun K hK => ?_) (AllReady.cons rfl (fun K hK => ?_) AllReady.nil))
                  · skip
                    go_simp
                    refine hK _ _ ?_
                    clear hK K
                    refine wpAny_ready (rs := [8]) (by kernel_rfl) (by simp) ?_
                    refine (AllReady.cons rfl (fun K hK => ?_) AllReady.nil)
                    go_simp
                    refine hK _ _ ?_
                    clear hK K
                    refine wpAny_ready (rs := [9]) (by kernel_rfl) (by simp) ?_
                    refine (AllReady.cons rfl (fun K hK => ?_) AllReady.nil)
                    refine Kd.R_append_step (Kd.int .u8) (w0 := w5) (W := w5) B (by kernel_rfl) (.tmp 69) (.tmp 73) 28 5 (.int .u8 0) 1 (by rfl) Try.underlying28 info5 (by decide) (by decide) (by decide) (.slice oA3 o3.length oc3) o3 (u : Int) [.int .u8 (u : Int)] (fun _ => True) (fun _ => False) (by rfl) (by rfl) rfl (fun _ hk => hk.elim) (fun _ _ => trivial) HG5.out.ix.ro (Below.refl _ _) HG5.out.ix.base (by have := HG5.out.ix.ol; have := HG5.out.ix.ml; omega) ?_
                    intro v1 w8 ho hb hg hat
                    have cw8 := (hg.block r HG5.out.ix.lt (fun e => HG5.out.ix.ne e.symm)).trans HG5.out.ix.bx
                    have c38 := (blk_cell cw8 3).trans (rfl : _ = some (Value.slice oA3 o3.length oc3))
                    have f38 := blk_frozen cw8 3
                    have HGR := Aside0.mk (HG5.out.grow ho hg hat (by rw [List.length_append, List.length_singleton]; have := HLE.out; have := HI.out; omega))
                    obtain ⟨A9, c9, e9⟩ := Kd.R_slice ho
                    subst e9
                    rw [List.length_append, List.length_singleton] at HGR
                    clear ho hb hg hat cw8
                    refine hK _ _ ?_
                    clear hK K
                    refine wpAny_take (i := 10) (v := ?vk10) rfl (by kernel_rfl) (by kernel_rfl) (by kernel_rfl) (fun _ _ _ h => h) (Or.inl ⟨by kernel_rfl, ?yk10⟩) ?_
                    case yk10 => (intro w; go_simp; try with_reducible rfl)
                    refine wpAny_take (i := 11) (v := ?vk11) rfl (by kernel_rfl) (by kernel_rfl) (by kernel_rfl) (fun _ _ _ h => h) (Or.inl ⟨by kernel_rfl, ?yk11⟩) ?_
                    case yk11 => (intro w; go_simp; try with_reducible rfl)
                    refine wpAny_ready (rs := [12]) (by kernel_rfl) (by simp) ?_
                    refine (AllReady.cons rfl (fun K hK => ?_) AllReady.nil)
                    go_simp
                    refine hK _ _ ?_
                    clear hK K
                    refine wpAny_done (by kernel_rfl) ?_ _
                    go_wp2_with fail
                    go_roundw
                    case rel => exact ⟨i + 1, a4, _, _, e4, by simp, HI.out, ⟨HGR.out, by rw [List.length_append, List.length_singleton]; have := HLE.out; omega, HR.out, fun _ => HLE.out.1⟩⟩
                    case measure => simp [intOf]; have := HI.out; omega
                  · skip
                    go_simp
                    refine hK _ _ ?_
                    clear hK K
                    refine wpAny_ready (rs := [4]) (by kernel_rfl) (by simp) ?_
                    refine (AllReady.cons rfl (fun K hK => ?_) AllReady.nil)
                    go_simp
                    refine hK _ _ ?_
                    clear hK K
                    refine wpAny_ready (rs := [9]) (by kernel_rfl) (by simp) ?_
                    refine (AllReady.cons rfl (fun K hK => ?_) AllReady.nil)
                    refine Kd.R_append_step (Kd.int .u8) (w0 := w5) (W := w5) B (by kernel_rfl) (.tmp 69) (.tmp 73) 28 5 (.int .u8 0) 1 (by rfl) Try.underlying28 info5 (by decide) (by decide) (by decide) (.slice oA3 o3.length oc3) o3 (u : Int) [.int .u8 (u : Int)] (fun _ => True) (fun _ => False) (by rfl) (by rfl) rfl (fun _ hk => hk.elim) (fun _ _ => trivial) HG5.out.ix.ro (Below.refl _ _) HG5.out.ix.base (by have := HG5.out.ix.ol; have := HG5.out.ix.ml; omega) ?_
                    intro v1 w8 ho hb hg hat
                    have cw8 := (hg.block r HG5.out.ix.lt (fun e => HG5.out.ix.ne e.symm)).trans HG5.out.ix.bx
                    have c38 := (blk_cell cw8 3).trans (rfl : _ = some (Value.slice oA3 o3.length oc3))
                    have f38 := blk_frozen cw8 3
                    have HGR := Aside0.mk (HG5.out.grow ho hg hat (by rw [List.length_append, List.length_singleton]; have := HLE.out; have := HI.out; omega))
                    obtain ⟨A9, c9, e9⟩ := Kd.R_slice ho
                    subst e9
                    rw [List.length_append, List.length_singleton] at HGR
                    clear ho hb hg hat cw8
                    refine hK _ _ ?_
                    clear hK K
                    refine wpAny_take (i := 10) (v := ?vk12) rfl (by kernel_rfl) (by kernel_rfl) (by kernel_rfl) (fun _ _ _ h => h) (Or.inl ⟨by kernel_rfl, ?yk12⟩) ?_
                    case yk12 => (intro w; go_simp; try with_reducible rfl)
                    refine wpAny_take (i := 11) (v := ?vk13) rfl (by kernel_rfl) (by kernel_rfl) (by kernel_rfl) (fun _ _ _ h => h) (Or.inl ⟨by kernel_rfl, ?yk13⟩) ?_
                    case yk13 => (intro w; go_simp; try with_reducible rfl)
                    refine wpAny_ready (rs := [12]) (by kernel_rfl) (by simp) ?_
                    refine (AllReady.cons rfl (fun K hK => ?_) AllReady.nil)
                    go_simp
                    refine hK _ _ ?_
                    clear hK K
                    refine wpAny_done (by kernel_rfl) ?_ _
                    go_wp2_with fail
                    go_roundw
                    case rel => exact ⟨i + 1, a4, _, _, e4, by simp, HI.out, ⟨HGR.out, by rw [List.length_append, List.length_singleton]; have := HLE.out; omega, HR.out, fun _ => HLE.out.1⟩⟩
                    case measure => simp [intOf]; have := HI.out; omega
              · have hie : i = n := by omega
                have b1 : decide (i < n) = false := decide_eq_false hlt
                have b2 : decide ((i : Int) < (n : Int)) = false := decide_eq_false (by omega)
                have HR : Aside0 ((storedT most out).run s a = .ok o3 a3) := ⟨by
                  rw [HS.out.run, runS_0, hie, Nat.sub_self, bytesO_zero]
                  rfl⟩
                clear hlt hi hie
                go_wp2_with fail
                go_end0
                rw [HR.out]
                exact HS.out.g.ok rfl
            · have b1 : (er == 0) = false := by rw [beq_eq_false_iff_ne]; exact h0
              have b2 : decide (er = 0) = false := decide_eq_false h0
              have HE := Aside0.mk h0
              have HR : Aside0 ((storedT most out).run s a = .no er) := ⟨by rw [HS.out.run, runS_no h0]⟩
              clear h0
              by_cases hlt : i < n
              · have b3 : decide (i < n) = true := decide_eq_true hlt
                have b4 : decide ((i : Int) < (n : Int)) = true := decide_eq_true (by omega)
                clear hlt hi
                go_wp2_with fail
                go_end0
                rw [HR.out]
                exact HS.out.g.no HE.out rfl
              · have b3 : decide (i < n) = false := decide_eq_false hlt
                have b4 : decide ((i : Int) < (n : Int)) = false := decide_eq_false (by omega)
                clear hlt hi
                go_wp2_with fail
                go_end0
                rw [HR.out]
                exact HS.out.g.no HE.out rfl
end Go.Proofs.Ytaghmhcccighgaa.HI
end
section
/- The document's Inflate: walked. -/
namespace Go.Proofs.Ytaghmhcccighgaa.HI
open Go.RowKit Go.Proofs.YtaghmhcccighgaaW.PrintWords Go.Proofs.YtaghmhcccighgaaW.PrintLast Go.Proofs.YtaghmhcccighgaaW.PrintMore Go.Proofs.Ytaghmhcccighgaa.HW Go.Proofs.Ytaghmhcccighgaa.MB Go.Proofs.Ytaghmhcccighgaa.Fn Go.Proofs.Ytaghmhcccighgaa.HF Go.Proofs.Ytaghmhcccighgaa.RT Go.Proofs.Ytaghmhcccighgaa.RT.Rd Go.Proofs.Ytaghmhcccighgaa.HP
attribute [local go_sem] max2_int min2_int max_two min_two max_three min_three max_four min_four   -- for this text's walks alone
theorem bV_no {s : ByteArray} {a : Nat} {er : Int} {n : Nat} (h : bE s a er n ≠ 0) : bV s a er n = 0 := by
  unfold bE at h
  unfold bV
  rw [if_neg]
  rintro ⟨h1, h2⟩
  rw [if_pos h1, if_pos h2] at h
  exact h rfl
theorem bA_ge (s : ByteArray) (a : Nat) (er : Int) (n : Nat) : a ≤ bA s a er n := by
  unfold bA
  split <;> omega
theorem bA_one {s : ByteArray} {a : Nat} {er : Int} {n : Nat} (h : bE s a er n = 0) (h0 : er = 0) : bA s a er n = a + n := by
  subst h0
  unfold bE at h
  rw [if_pos rfl] at h
  unfold bA
  by_cases hn : a + n ≤ 8 * s.size
  · rw [if_pos ⟨rfl, hn⟩]
  · rw [if_neg hn] at h
    exact absurd h (by decide)
/-- A block behind its head. -/
def kindT (most F : Nat) (out : List Int) (kind : Nat) : Rd (List Int) :=
  if kind = 0 then storedT most out else if kind = 1 then packedT most fixL (some fixD) F out else if kind = 2 then dynamicT.bind (fun z => packedT most z.1 (tableO z.2) F out) else err 40
theorem infl_step (most F f : Nat) (out : List Int) (s : ByteArray) (a : Nat) (ha : a ≤ 8 * s.size) : runS 0 (inflT most F (f + 1) out) s a =
    runS (bE s (bA s a 0 1) (bE s a 0 1) 2) ((kindT most F out (bV s (bA s a 0 1) (bE s a 0 1) 2)).bind fun o => if bV s a 0 1 = 1 then ret o else inflT most F f o) s (bA s (bA s a 0 1) (bE s a 0 1) 2) := by
  have : inflT most F (f + 1) out = (bitsN 1).bind fun last => (bitsN 2).bind fun kind => (kindT most F out kind).bind fun o => if last = 1 then ret o else inflT most F f o := by
    show (blockT most F out).bind _ = _
    unfold blockT
    rw [bind_assoc]
    congr 1
    funext last
    rw [bind_assoc]
    congr 1
    funext kind
    rw [bind_assoc]
    show (kindT most F out kind).bind _ = _
    congr 1
    funext o
    show (if decide (last = 1) = true then ret o else inflT most F f o) = _
    by_cases h : last = 1
    · rw [if_pos h, if_pos (decide_eq_true h)]
    · rw [if_neg h, if_neg (by rw [decide_eq_false h]; exact Bool.false_ne_true)]
  rw [this, runS_bits _ _ _ _ _ ha, runS_bits _ _ _ _ _ (bA_le s a 0 1 ha)]
theorem two_blocks (w : World) (c1 c2 : Array Value) : Below w.heap.size w ((w.alloc (.cells c1 50)).alloc (.cells c2 50)) ∧ ((w.alloc (.cells c1 50)).alloc (.cells c2 50)).heap[w.heap.size]? = some (.cells c1 50 (0, 0)) ∧ ((w.alloc (.cells c1 50)).alloc (.cells c2 50)).heap[w.heap.size + 1]? = some (.cells c2 50 (0, 0)) := by
  have hs1 := alloc_size w (.cells c1 50)
  have hb1 := below_alloc (Below.refl w.heap.size w) (.cells c1 50)
  have hb2 := below_alloc (Below.refl (w.alloc (.cells c1 50)).heap.size (w.alloc (.cells c1 50))) (.cells c2 50)
  refine ⟨hb1.trans (hb2.mono hb1.size), blk_below (heap_alloc_new _ _) hb2, ?_⟩
  rw [← hs1]
  exact heap_alloc_new _ _
/-- What is to be read behind a block. -/
def RB (R : Res (List Int)) (s : ByteArray) (m lv a : Nat) (o : List Int) (er : Int) : Prop :=
  ∃ f, (er = 0 → (lv = 0 ∧ 8 * s.size < f + a ∧ R = runS 0 (inflT m manyF f o) s a) ∨ (lv ≠ 0 ∧ R = .ok o a)) ∧ (er ≠ 0 → R = .no er)
theorem RB_ok {R : Res (List Int)} {s : ByteArray} {m lv a2 a3 f : Nat} {o' : List Int} {t : Rd (List Int)} (hR : R = runS 0 (t.bind fun o => if lv = 1 then ret o else inflT m manyF f o) s a2) (h : t.run s a2 = .ok o' a3) (hl : lv < 2) (hf : 8 * s.size < f + a3) : RB R s m lv a3 o' 0 := by
  rw [runS_0, run_bind, h] at hR
  refine ⟨f, fun _ => ?_, fun h => absurd rfl h⟩
  by_cases h1 : lv = 1
  · right
    refine ⟨by omega, ?_⟩
    rw [hR]
    simp only [h1]
    rfl
  · left
    refine ⟨by omega, hf, ?_⟩
    rw [hR, runS_0]
    simp only [h1, if_false]
theorem RB_no {R : Res (List Int)} {s : ByteArray} {m lv a2 a3 : Nat} {o' : List Int} {t : Rd (List Int)} {er : Int} {G : List Int → Rd (List Int)} (hR : R = runS 0 (t.bind G) s a2) (h : t.run s a2 = .no er) (h0 : er ≠ 0) : RB R s m lv a3 o' er := by
  rw [runS_0, run_bind, h] at hR
  exact ⟨0, fun h => absurd h h0, fun _ => hR⟩
theorem RB_is {R : Res (List Int)} {s : ByteArray} {m lv a : Nat} {o : List Int} {er : Int} (h : R = .no er) (h0 : er ≠ 0) : RB R s m lv a o er := ⟨0, fun h => absurd h h0, fun _ => h⟩
set_option maxRecDepth 100000 in
set_option maxHeartbeats 40000000 in
theorem rinflateQ (s : ByteArray) (hs : s.size ≤ 1000000000000000) (most : Int) (W : World) :
    Calls Try.prog 15 #[.string s, .int .i64 most] W fun e w' => e = .returned (.tuple #[.string (inflR s most).1, .int .i64 (inflR s most).2.1, .int .i64 (inflR s most).2.2]) ∧ Below W.heap.size W w' := by
  by_cases hm : most < 0 ∨ 1048576 < most
  · have he : inflR s most = (⟨#[]⟩, 0, 1) := if_pos hm
    rw [he]
    by_cases h0 : most < 0
    · have b1 : decide (most < 0) = true := decide_eq_true h0
      clear hm he
      go_enter Try.func15, Try.ntmps15
      go_wp2_with fail
      go_ret3
      exact ⟨rfl, Below.refl _ _⟩
    · have b1 : decide (most < 0) = false := decide_eq_false h0
      have h1 : (1048576 : Int) < most := by omega
      have b2 : decide ((1048576 : Int) < most) = true := decide_eq_true h1
      clear hm he
      go_enter Try.func15, Try.ntmps15
      go_wp2_with fail
      go_ret3
      exact ⟨rfl, Below.refl _ _⟩
  · have HM := Aside0.mk hm
    have HSZ := Aside0.mk hs
    obtain ⟨m, rfl⟩ : ∃ m : Nat, most = m := ⟨most.toNat, by omega⟩
    have b1 : decide ((m : Int) < 0) = false := decide_eq_false (by omega)
    have b2 : decide ((1048576 : Int) < (m : Int)) = false := decide_eq_false (by omega)
    have b3 : ¬ (1048576 : Int) < (m : Int) := by omega
    have b4 : ¬ (m : Int) < 0 := by omega
    have b5 : decide (1048576 < m) = false := decide_eq_false (by omega)
    obtain ⟨r, hr⟩ : ∃ z, W.heap.size = z := ⟨_, rfl⟩
    have hB := below_alloc (Below.refl W.heap.size W) (.cells #[.string s, .int .i64 0, .int .i64 m, .slice none 0 0, .int .i64 0] 46)
    have HB := Aside0.mk hB
    have HQ0 : Aside0 (IsQ (W.alloc (.cells #[.string s, .int .i64 0, .int .i64 m, .slice none 0 0, .int .i64 0] 46)) r r (.slice none 0 0) s 0 m [] 0) := ⟨⟨by rw [← hr]; exact heap_alloc_new _ _, Kd.R_nil _ _ _ _ _, Nat.le_refl _, Nat.zero_le _, hs, by omega, Nat.zero_le _⟩⟩
    clear hm hs hB
    go_enter Try.func15, Try.ntmps15
    go_upto_block 0 with (fail)
    obtain ⟨R, hR⟩ : ∃ R, R = (inflT m manyF manyF []).run s 0 := ⟨_, rfl⟩
    have HRR := Aside0.mk hR
    have HRB0 : Aside0 (RB R s m 0 0 [] 0) := ⟨⟨manyF, fun _ => Or.inl ⟨rfl, by have := HSZ.out; unfold manyF; omega, by rw [hR, runS_0]⟩, fun h => absurd rfl h⟩⟩
    clear hR
    generalize W.alloc (.cells #[.string s, .int .i64 0, .int .i64 m, .slice none 0 0, .int .i64 0] 46) = W1 at HB HQ0 ⊢
    have HG0 := Aside0.mk (QG.start HQ0.out)
    go_cut [8] (fun _ w => ∃ (a : Nat) (ov : Value) (o : List Int) (er : Int), Aside0 (QG W1 w r r (.slice none 0 0) s m a ov o er) ∧ Aside0 (R = if er = 0 then .ok o a else .no er))
    case first =>
      go_wp2_with fail
      go_loopw [8] (fun v8 wr => ∃ (lv a : Nat) (ov : Value) (o : List Int) (er : Int), v8 = .int .i64 lv ∧ Aside0 (QG W1 wr r r (.slice none 0 0) s m a ov o er) ∧ Aside0 (RB R s m lv a o er)) (fun _ wr => posQ r s wr)
      case atStart => exact ⟨0, 0, _, [], 0, rfl, HG0, HRB0⟩
      case round =>
        clear HG0 HRB0
        obtain ⟨lv, a, ov, o, er, rfl, HG, HRB⟩ := hrel
        have c4 := HG.out.ix.c4
        by_cases hl : lv = 0
        · have b6 : decide (lv = 0) = true := decide_eq_true hl
          have b7 : decide ((lv : Int) = 0) = true := decide_eq_true (by omega)
          have b8 : ((lv : Int) == 0) = true := by rw [beq_iff_eq]; omega
          have b9 : (lv == 0) = true := by rw [beq_iff_eq]; exact hl
          by_cases h0 : er = 0
          · subst h0
            subst hl
            obtain ⟨f, hf, hR⟩ : ∃ f, 8 * s.size < f + a ∧ R = runS 0 (inflT m manyF f o) s a := by
              obtain ⟨f, h1, _⟩ := HRB.out
              rcases h1 rfl with h | h
              · exact ⟨f, h.2⟩
              · exact absurd rfl h.1
            have hle := HG.out.ix.le
            obtain ⟨f, rfl⟩ : ∃ f', f = f' + 1 := ⟨f - 1, by omega⟩
            rw [infl_step _ _ _ _ _ _ hle] at hR
            have HPO : Aside0 (posQ r s wr = 8 * s.size + 1 - a) := ⟨(posQ_is HG.out.ix).trans (if_pos rfl)⟩
            obtain ⟨lw, hlw⟩ : ∃ z, bV s a 0 1 = z := ⟨_, rfl⟩
            have hlw2 : lw < 2 := by rw [← hlw]; exact bV_lt s a 0 1
            obtain ⟨a1, ha1⟩ : ∃ z, bA s a 0 1 = z := ⟨_, rfl⟩
            obtain ⟨e1, he1⟩ : ∃ z, bE s a 0 1 = z := ⟨_, rfl⟩
            have HB1 := Aside0.mk (bitsQ_any HG.out.ix 1 (by decide))
            have hal1 := bA_le s a 0 1 hle
            have hon := bA_one (s := s) (a := a) (er := 0) (n := 1)
            rw [hlw, ha1, he1] at hR HB1
            rw [ha1] at hal1
            rw [ha1, he1] at hon
            obtain ⟨kd, hkd⟩ : ∃ z, bV s a1 e1 2 = z := ⟨_, rfl⟩
            have hkd4 : kd < 4 := by rw [← hkd]; exact bV_lt s a1 e1 2
            obtain ⟨a2, ha2⟩ : ∃ z, bA s a1 e1 2 = z := ⟨_, rfl⟩
            obtain ⟨e2, he2⟩ : ∃ z, bE s a1 e1 2 = z := ⟨_, rfl⟩
            have hal2 := bA_le s a1 e1 2 hal1
            have hge := bA_ge s a1 e1 2
            have hz := bV_no (s := s) (a := a1) (er := e1) (n := 2)
            have he0 := bE_0 (s := s) (a := a1) (er := e1) (n := 2)
            rw [hkd, he2] at hz
            rw [ha2] at hge hal2
            rw [he2] at he0
            rw [hkd, ha2, he2] at hR
            have HE2 := Aside0.mk (And.intro hkd (And.intro ha2 he2))
            have HGT : Aside0 (e2 = 0 → a < a2) := ⟨fun h => by have := hon (he0 h) rfl; omega⟩
            have HRN := Aside0.mk hR
            have HFF := Aside0.mk hf
            have HLE := Aside0.mk (And.intro hle hal2)
            have HLW := Aside0.mk hlw2
            clear hR hlw hlw2 ha1 he1 hkd ha2 he2 hal1 hal2 hge he0 hon hle hf HRB
            go_wp2_with fail
            refine HB1.out.mono ?_
            rintro e w1 ⟨rfl, hx, hfr⟩
            have HG1 := Aside0.mk (HG.out.used hx (QS_of_r hfr) (AtB.refl _ _))
            have HB2 := Aside0.mk (bitsQ_any HG1.out.ix 2 (by decide))
            rw [HE2.out.1, HE2.out.2.1, HE2.out.2.2] at HB2
            clear hx hfr HB1
            go_wp2_with fail
            refine HB2.out.mono ?_
            rintro e w2 ⟨rfl, hx, hfr⟩
            have HG2 := Aside0.mk (HG1.out.used hx (QS_of_r hfr) (AtB.refl _ _))
            have c4 := HG2.out.ix.c4
            clear hx hfr HB2 HG1 HE2
            by_cases h2 : e2 = 0
            · subst h2
              have HGT2 := Aside0.mk (HGT.out rfl)
              clear hz HGT
              by_cases hk0 : kd = 0
              · subst hk0
                clear hkd4
                have HST := Aside0.mk (storedQ HG2.out.ix)
                go_wp2_with fail
                refine HST.out.mono ?_
                cases hst : (storedT m o).run s a2 with
                | no er =>
                  rintro e w3 ⟨rfl, hne, a', ov', out', hx, hfr, hat⟩
                  have HG3 := Aside0.mk (HG2.out.used hx hfr hat)
                  have HRB : Aside0 (RB R s m lw a' out' er) := ⟨RB_no HRN.out hst hne⟩
                  have HPO2 : Aside0 (posQ r s w3 = 0) := ⟨(posQ_is hx).trans (if_neg hne)⟩
                  clear hx hfr hat hst hne HST
                  go_wp2_with fail
                  go_roundw
                  case rel => exact ⟨lw, a', ov', out', er, rfl, HG3, HRB⟩
                  case measure => rw [HPO.out, HPO2.out]; have := HLE.out.1; omega
                | ok o3 a3 =>
                  rintro e w3 ⟨rfl, ov', hx, hfr, hat⟩
                  have HG3 := Aside0.mk (HG2.out.used hx hfr hat)
                  have hp := run_place s _ a2 o3 a3 HLE.out.2 hst
                  have HRB : Aside0 (RB R s m lw a3 o3 0) := ⟨RB_ok HRN.out hst HLW.out (by have := HFF.out; have := HGT2.out; omega)⟩
                  have HPO2 : Aside0 (posQ r s w3 = 8 * s.size + 1 - a3) := ⟨(posQ_is hx).trans (if_pos rfl)⟩
                  have HPP := Aside0.mk hp
                  clear hx hfr hat hst HST hp
                  go_wp2_with fail
                  go_roundw
                  case rel => exact ⟨lw, a3, ov', o3, 0, rfl, HG3, HRB⟩
                  case measure => rw [HPO.out, HPO2.out]; have := HLE.out.1; have := HGT2.out; have := HPP.out; omega
              · by_cases hk1 : kd = 1
                · subst hk1
                  clear hk0 hkd4
                  have HFX := Aside0.mk (fixedQ w2)
                  go_wp2_with fail
                  refine HFX.out.mono ?_
                  rintro e w3 ⟨cv, dv, rfl, hc, hd, hb⟩
                  obtain ⟨A1, n1, y1, A2, n2, y2, rfl⟩ := hc.agg
                  obtain ⟨A3, n3, y3, A4, n4, y4, rfl⟩ := hd.agg
                  have HG3 := Aside0.mk (HG2.out.below hb)
                  have HCc := Aside0.mk hc
                  have HCd := Aside0.mk hd
                  clear hc hd hb HFX
                  go_upto_region 14 with (fail)
                  obtain ⟨hb2, hx1, hx2⟩ := two_blocks w3 #[.slice A1 n1 y1, .slice A2 n2 y2] #[.slice A3 n3 y3, .slice A4 n4 y4]
                  have HG4 := Aside0.mk (HG3.out.below hb2)
                  have HC4 := Aside0.mk (HCc.out.below hb2)
                  have HD4 := Aside0.mk (HCd.out.below hb2)
                  obtain ⟨P, hP⟩ : ∃ z, w3.heap.size = z := ⟨_, rfl⟩
                  rw [hP] at hx1 hx2 HC4 HD4 ⊢
                  generalize (w3.alloc (.cells #[.slice A1 n1 y1, .slice A2 n2 y2] 50)).alloc (.cells #[.slice A3 n3 y3, .slice A4 n4 y4] 50) = w4 at HG4 HC4 HD4 hx1 hx2 ⊢
                  have d0 := blk_cell hx1 0
                  have d1 := blk_cell hx1 1
                  have g0 := blk_cell hx2 0
                  have g1 := blk_cell hx2 1
                  have HPK := Aside0.mk (packedQ HG4.out.ix HC4.out HD4.out fixL_ok (by decide +kernel) fixD_ok (by decide +kernel) manyF (by have := HSZ.out; unfold manyF; omega))
                  clear hb2 hP hx1 hx2 HG3 HCc HCd
                  go_wp2_with fail
                  refine HPK.out.mono ?_
                  have HKT : Aside0 ((kindT m manyF o 1).run s a2 = (packedT m fixL (tableO fixD) manyF o).run s a2) := ⟨by rw [show tableO fixD = some fixD from by decide +kernel]; rfl⟩
                  cases hpk : (packedT m fixL (tableO fixD) manyF o).run s a2 with
                  | no er =>
                    rintro e w5 ⟨rfl, hne, a', ov', out', hx, hfr, hat⟩
                    have HG5 := Aside0.mk (HG4.out.used hx hfr hat)
                    have HRB : Aside0 (RB R s m lw a' out' er) := ⟨RB_no HRN.out (HKT.out.trans hpk) hne⟩
                    have HPO2 : Aside0 (posQ r s w5 = 0) := ⟨(posQ_is hx).trans (if_neg hne)⟩
                    clear hx hfr hat hpk hne HPK d0 d1 g0 g1
                    go_wp2_with fail
                    go_roundw
                    case rel => exact ⟨lw, a', ov', out', er, rfl, HG5, HRB⟩
                    case measure => rw [HPO.out, HPO2.out]; have := HLE.out.1; omega
                  | ok o3 a3 =>
                    rintro e w5 ⟨rfl, ov', hx, hfr, hat⟩
                    have HG5 := Aside0.mk (HG4.out.used hx hfr hat)
                    have hp := run_place s _ a2 o3 a3 HG4.out.ix.le hpk
                    have HRB : Aside0 (RB R s m lw a3 o3 0) := ⟨RB_ok HRN.out (HKT.out.trans hpk) HLW.out (by have := HFF.out; have := HGT2.out; omega)⟩
                    have HPO2 : Aside0 (posQ r s w5 = 8 * s.size + 1 - a3) := ⟨(posQ_is hx).trans (if_pos rfl)⟩
                    have HPP := Aside0.mk hp
                    clear hx hfr hat hpk HPK hp d0 d1 g0 g1
                    go_wp2_with fail
                    go_roundw
                    case rel => exact ⟨lw, a3, ov', o3, 0, rfl, HG5, HRB⟩
                    case measure => rw [HPO.out, HPO2.out]; have := HLE.out.1; have := HGT2.out; have := HPP.out; omega
                · by_cases hk2 : kd = 2
                  · subst hk2
                    clear hk0 hk1 hkd4
                    have HDY := Aside0.mk (dynamicQ HG2.out.ix)
                    go_wp2_with fail
                    refine HDY.out.mono ?_
                    cases hdy : dynamicT.run s a2 with
                    | no er =>
                      rintro e w3 ⟨hne, rfl, a', hg⟩
                      have HG3 := Aside0.mk (HG2.out.used hg.ix hg.fr hg.atb)
                      have HKT : Aside0 ((kindT m manyF o 2).run s a2 = .no er) := ⟨by
                        show (dynamicT.bind (fun z : List Int × List Int => packedT m z.1 (tableO z.2) manyF o)).run s a2 = _
                        rw [run_bind, hdy]⟩
                      have HNE := Aside0.mk hne
                      clear hg hdy hne HDY
                      go_upto_region 17 with (fail)
                      obtain ⟨hb2, hx1, hx2⟩ := two_blocks w3 #[.slice none 0 0, .slice none 0 0] #[.slice none 0 0, .slice none 0 0]
                      have HG4 := Aside0.mk (HG3.out.below hb2)
                      obtain ⟨P, hP⟩ : ∃ z, w3.heap.size = z := ⟨_, rfl⟩
                      rw [hP] at hx1 hx2 ⊢
                      generalize (w3.alloc (.cells #[.slice none 0 0, .slice none 0 0] 50)).alloc (.cells #[.slice none 0 0, .slice none 0 0] 50) = w4 at HG4 hx1 hx2 ⊢
                      have d0 := blk_cell hx1 0
                      have d1 := blk_cell hx1 1
                      have g0 := blk_cell hx2 0
                      have g1 := blk_cell hx2 1
                      have HPK := Aside0.mk (packedQ_bad HG4.out.ix HNE.out none 0 0 none 0 0 none 0 0 none 0 0)
                      clear hb2 hP hx1 hx2 HG3
                      go_wp2_with fail
                      refine HPK.out.mono ?_
                      rintro e w5 ⟨rfl, hb5⟩
                      have HG5 := Aside0.mk (HG4.out.below hb5)
                      have HRB : Aside0 (RB R s m lw a' o er) := ⟨RB_no HRN.out HKT.out HNE.out⟩
                      have HPO2 : Aside0 (posQ r s w5 = 0) := ⟨(posQ_is HG5.out.ix).trans (if_neg HNE.out)⟩
                      clear hb5 HPK d0 d1 g0 g1
                      go_wp2_with fail
                      go_roundw
                      case rel => exact ⟨lw, a', ov, o, er, rfl, HG5, HRB⟩
                      case measure => rw [HPO.out, HPO2.out]; have := HLE.out.1; omega
                    | ok pp ad =>
                      obtain ⟨p1, p2⟩ := pp
                      rintro e w3 ⟨cv, dv, rfl, hc, hd, hok, hg⟩
                      obtain ⟨A1, n1, y1, A2, n2, y2, rfl⟩ := hc.agg
                      obtain ⟨A3, n3, y3, A4, n4, y4, rfl⟩ := hd.agg
                      have HG3 := Aside0.mk (HG2.out.used hg.ix hg.fr hg.atb)
                      have HCc := Aside0.mk hc
                      have HCd := Aside0.mk hd
                      have HOK := Aside0.mk hok
                      have HAD := Aside0.mk (run_place s _ a2 _ ad HLE.out.2 hdy)
                      have HKT : Aside0 ((kindT m manyF o 2).run s a2 = (packedT m p1 (tableO p2) manyF o).run s ad) := ⟨by
                        show (dynamicT.bind (fun z : List Int × List Int => packedT m z.1 (tableO z.2) manyF o)).run s a2 = _
                        rw [run_bind, hdy]⟩
                      clear hc hd hok hg hdy HDY
                      go_upto_region 17 with (fail)
                      obtain ⟨hb2, hx1, hx2⟩ := two_blocks w3 #[.slice A1 n1 y1, .slice A2 n2 y2] #[.slice A3 n3 y3, .slice A4 n4 y4]
                      have HG4 := Aside0.mk (HG3.out.below hb2)
                      have HC4 := Aside0.mk (HCc.out.below hb2)
                      have HD4 := Aside0.mk (HCd.out.below hb2)
                      obtain ⟨P, hP⟩ : ∃ z, w3.heap.size = z := ⟨_, rfl⟩
                      rw [hP] at hx1 hx2 HC4 HD4 ⊢
                      generalize (w3.alloc (.cells #[.slice A1 n1 y1, .slice A2 n2 y2] 50)).alloc (.cells #[.slice A3 n3 y3, .slice A4 n4 y4] 50) = w4 at HG4 HC4 HD4 hx1 hx2 ⊢
                      have d0 := blk_cell hx1 0
                      have d1 := blk_cell hx1 1
                      have g0 := blk_cell hx2 0
                      have g1 := blk_cell hx2 1
                      have HPK := Aside0.mk (packedQ HG4.out.ix HC4.out HD4.out HOK.out.1 HOK.out.2.1 HOK.out.2.2.1 HOK.out.2.2.2 manyF (by have := HSZ.out; unfold manyF; omega))
                      clear hb2 hP hx1 hx2 HG3 HCc HCd
                      go_wp2_with fail
                      refine HPK.out.mono ?_
                      cases hpk : (packedT m p1 (tableO p2) manyF o).run s ad with
                      | no er =>
                        rintro e w5 ⟨rfl, hne, a', ov', out', hx, hfr, hat⟩
                        have HG5 := Aside0.mk (HG4.out.used hx hfr hat)
                        have HRB : Aside0 (RB R s m lw a' out' er) := ⟨RB_no HRN.out (HKT.out.trans hpk) hne⟩
                        have HPO2 : Aside0 (posQ r s w5 = 0) := ⟨(posQ_is hx).trans (if_neg hne)⟩
                        clear hx hfr hat hpk hne HPK d0 d1 g0 g1
                        go_wp2_with fail
                        go_roundw
                        case rel => exact ⟨lw, a', ov', out', er, rfl, HG5, HRB⟩
                        case measure => rw [HPO.out, HPO2.out]; have := HLE.out.1; omega
                      | ok o3 a3 =>
                        rintro e w5 ⟨rfl, ov', hx, hfr, hat⟩
                        have HG5 := Aside0.mk (HG4.out.used hx hfr hat)
                        have hp := run_place s _ ad o3 a3 HG4.out.ix.le hpk
                        have HRB : Aside0 (RB R s m lw a3 o3 0) := ⟨RB_ok HRN.out (HKT.out.trans hpk) HLW.out (by have := HFF.out; have := HGT2.out; have := HAD.out; omega)⟩
                        have HPO2 : Aside0 (posQ r s w5 = 8 * s.size + 1 - a3) := ⟨(posQ_is hx).trans (if_pos rfl)⟩
                        have HPP := Aside0.mk hp
                        clear hx hfr hat hpk HPK hp d0 d1 g0 g1
                        go_wp2_with fail
                        go_roundw
                        case rel => exact ⟨lw, a3, ov', o3, 0, rfl, HG5, HRB⟩
                        case measure => rw [HPO.out, HPO2.out]; have := HLE.out.1; have := HGT2.out; have := HPP.out; have := HAD.out; omega
                  · have hk3 : kd = 3 := by omega
                    subst hk3
                    clear hk0 hk1 hk2 hkd4
                    have HE := Aside0.mk (endsQ_any HG2.out.ix)
                    go_wp2_with fail
                    refine HE.out.mono ?_
                    rintro e w3 ⟨rfl, hx, hfr⟩
                    have HG3 := Aside0.mk (HG2.out.used hx hfr (AtB.refl _ _))
                    have HRB : Aside0 (RB R s m lw a2 o (enE 0)) := ⟨RB_no HRN.out (show (kindT m manyF o 3).run s a2 = .no (enE 0) from rfl) (enE_ne _)⟩
                    have HPO2 : Aside0 (posQ r s w3 = 0) := ⟨(posQ_is hx).trans (if_neg (enE_ne _))⟩
                    clear hx hfr HE
                    go_wp2_with fail
                    go_roundw
                    case rel => exact ⟨lw, a2, ov, o, enE 0, rfl, HG3, HRB⟩
                    case measure => rw [HPO.out, HPO2.out]; have := HLE.out.1; omega
            · have hkz := hz h2
              subst hkz
              have b10 : (e2 == 0) = false := by rw [beq_eq_false_iff_ne]; exact h2
              have b11 : decide (e2 = 0) = false := decide_eq_false h2
              have HRB : Aside0 (RB R s m lw a2 o e2) := ⟨RB_is (by rw [HRN.out, runS_no h2]) h2⟩
              have HPO2 : Aside0 (posQ r s w2 = 0) := ⟨(posQ_is HG2.out.ix).trans (if_neg h2)⟩
              clear hz h2 hkd4 HGT
              go_wp2_with fail
              go_roundw
              case rel => exact ⟨lw, a2, ov, o, e2, rfl, HG2, HRB⟩
              case measure => rw [HPO.out, HPO2.out]; have := HLE.out.1; omega
          · have b10 : (er == 0) = false := by rw [beq_eq_false_iff_ne]; exact h0
            have b11 : decide (er = 0) = false := decide_eq_false h0
            have HRX : Aside0 (R = if er = 0 then .ok o a else .no er) := ⟨by
              obtain ⟨f, _, h1⟩ := HRB.out
              rw [if_neg h0]
              exact h1 h0⟩
            clear h0 hl
            go_wp2_with fail
            go_meet
            case rel => exact ⟨a, ov, o, er, HG, HRX⟩
        · have b6 : decide (lv = 0) = false := decide_eq_false hl
          have b7 : decide ((lv : Int) = 0) = false := decide_eq_false (by omega)
          have b8 : ((lv : Int) == 0) = false := by rw [beq_eq_false_iff_ne]; omega
          have b9 : (lv == 0) = false := by rw [beq_eq_false_iff_ne]; exact hl
          have HRX : Aside0 (R = if er = 0 then .ok o a else .no er) := ⟨by
            obtain ⟨f, h2, h1⟩ := HRB.out
            by_cases h0 : er = 0
            · rw [if_pos h0]
              rcases h2 h0 with h | h
              · exact absurd h.1 hl
              · exact h.2
            · rw [if_neg h0]
              exact h1 h0⟩
          clear hl
          go_wp2_with fail
          go_meet
          case rel => exact ⟨a, ov, o, er, HG, HRX⟩
    case rest =>
      obtain ⟨a, ov, o, er, HG, HRX⟩ := hcut
      have c4 := HG.out.ix.c4
      have HBZ : Aside0 (Below W.heap.size W wc) := ⟨HB.out.trans ((HG.out.fr.below HQ0.out.base HQ0.out.ge).mono (by omega))⟩
      clear HG0 HRB0
      by_cases h0 : er = 0
      · subst h0
        have HR : Aside0 (inflR s (m : Int) = (strOfNums o, (((a + 7) / 8 : Nat) : Int), 0)) := ⟨by
          have h := HRX.out
          rw [if_pos rfl, HRR.out] at h
          unfold inflR infl
          rw [if_neg HM.out, Int.toNat_natCast, h]⟩
        obtain ⟨oA, oc, hov⟩ := HG.out.ix.slice
        subst hov
        have hle := HG.out.ix.le
        have hsz := HSZ.out
        have HAL := Aside0.mk (fun w : World => aligned_any a (by omega) w)
        obtain ⟨al, hal⟩ : ∃ z, (a + 7) / 8 * 8 = z := ⟨_, rfl⟩
        obtain ⟨nb, hnb⟩ : ∃ z, (a + 7) / 8 = z := ⟨_, rfl⟩
        rw [hal] at HAL
        rw [hnb] at HR
        have hq8 : Int.tdiv (al : Int) 8 = (nb : Int) := by
          rw [Int.tdiv_eq_ediv_of_nonneg (by omega)]
          omega
        have hw8 : IntKind.i64.wrap (nb : Int) = (nb : Int) := IntWalk.i64_in _ (by omega)
        clear hle hsz hal hnb HRX HRR
        go_upto_region 20 with (fail)
        have HGd := Aside0.mk (HG.out.below (below_drew (Below.refl _ _)))
        have HK := Aside0.mk (fun (w' : World) (hb : Below wc.drew.heap.size wc.drew w') => (And.intro ((HGd.out.below hb).ix.c3) (And.intro ((HGd.out.below hb).ix.c1) (Kd.C_string (P := Try.prog) Try.underlying28 Try.underlying5 Try.underlying9 (A := oA) (c := oc) (Kd.R_reads' (HGd.out.below hb).ix.ro).2.2))))
        have hcv := Kd.C_string (P := Try.prog) Try.underlying28 Try.underlying5 Try.underlying9 (A := oA) (c := oc) (Kd.R_reads' HGd.out.ix.ro).2.2
        have b0 := Below.refl wc.drew.heap.size wc.drew
        have c3 := HGd.out.ix.c3
        have c1 := HGd.out.ix.c1
        go_region_held3 (fun w' => Below wc.drew.heap.size wc.drew w' ∧ w'.cell? ⟨r, 3, none⟩ = some (.slice oA o.length oc) ∧ w'.cell? ⟨r, 1, none⟩ = some (.int .i64 a) ∧ (convert 28 9 (.slice oA o.length oc)).run Try.prog w' = .ok (.string (strOfNums o)) w') ((refine ⟨?_, ?_, ?_, ?_⟩ <;> first | assumption | (exact (HK.out _ (by assumption)).1) | (exact (HK.out _ (by assumption)).2.1) | (exact (HK.out _ (by assumption)).2.2) | go_keep)) ((first | (go_at_call 30; refine (HAL.out _).mono ?_; rintro e w8 ⟨rfl, hb8⟩; have b8 := b0.trans hb8; have hcv8 := Kd.C_string (P := Try.prog) Try.underlying28 Try.underlying5 Try.underlying9 (A := oA) (c := oc) (Kd.R_reads' (HGd.out.below b8).ix.ro).2.2)))
        all_goals
          have hbz := (HBZ.out.drew).trans (b8.mono HBZ.out.drew.size)
          have HBF := Aside0.mk hbz
          go_wp2_with fail
          go_ret3
          rw [HR.out]
          exact ⟨rfl, HBF.out⟩
      · have b10 : (er == 0) = false := by rw [beq_eq_false_iff_ne]; exact h0
        have b11 : decide (er = 0) = false := decide_eq_false h0
        have HR : Aside0 (inflR s (m : Int) = (⟨#[]⟩, 0, er)) := ⟨by
          have h := HRX.out
          rw [if_neg h0, HRR.out] at h
          unfold inflR infl
          rw [if_neg HM.out, Int.toNat_natCast, h]⟩
        have HNZ := Aside0.mk h0
        clear h0 HRX HRR
        go_upto_region 19 with (fail)
        go_quiet (fail)
        go_wp2_with fail
        go_ret3
        rw [HR.out]
        refine ⟨rfl, ?_⟩
        try rw [← hr]
        exact HBZ.out.trans (pw_below_drewN (Below.refl _ _) nq)
end Go.Proofs.Ytaghmhcccighgaa.HI
end
section
/- What the laws ask of readings; plain. -/
namespace Go.Proofs.Ytaghmhcccighgaa.IW
open Go.RowKit Go.Proofs.YtaghmhcccighgaaW.PrintWords Go.Proofs.Ytaghmhcccighgaa.MB Go.Proofs.Ytaghmhcccighgaa.Fn Go.Proofs.Ytaghmhcccighgaa.HF Go.Proofs.Ytaghmhcccighgaa.RT Go.Proofs.Ytaghmhcccighgaa.RT.Rd Go.Proofs.Ytaghmhcccighgaa.HP Go.Proofs.Ytaghmhcccighgaa.HI
theorem bind_ok {α β : Type} {t : Rd α} {f : α → Rd β} {s : ByteArray} {a a' : Nat} {v : β} (h : (t.bind f).run s a = .ok v a') : ∃ x a1, t.run s a = .ok x a1 ∧ (f x).run s a1 = .ok v a' := by
  rw [run_bind] at h
  cases ht : t.run s a with
  | no e => rw [ht] at h; cases h
  | ok x a1 => rw [ht] at h; exact ⟨x, a1, rfl, h⟩
theorem bind_run {α β : Type} {t : Rd α} (f : α → Rd β) {s : ByteArray} {a a1 : Nat} {x : α} (h : t.run s a = .ok x a1) : (t.bind f).run s a = (f x).run s a1 := by
  rw [run_bind, h]
theorem inflT_kind (most F f : Nat) (out : List Int) : inflT most F (f + 1) out = (bitsN 1).bind fun last => (bitsN 2).bind fun kind => (kindT most F out kind).bind fun o => if last = 1 then ret o else inflT most F f o := by
  show (blockT most F out).bind _ = _
  unfold blockT
  rw [bind_assoc]
  congr 1
  funext last
  rw [bind_assoc]
  congr 1
  funext kind
  rw [bind_assoc]
  show (kindT most F out kind).bind _ = _
  congr 1
  funext o
  show (if decide (last = 1) = true then ret o else inflT most F f o) = _
  by_cases h : last = 1
  · rw [if_pos h, if_pos (decide_eq_true h)]
  · rw [if_neg h, if_neg (by rw [decide_eq_false h]; exact Bool.false_ne_true)]
/-- No reading ends for no reason. -/
def NZ {α : Type} (t : Rd α) : Prop := ∀ s a, t.run s a ≠ .no 0
theorem NZ_ret {α : Type} (v : α) : NZ (ret v) := fun _ _ h => by cases h
theorem NZ_err {α : Type} {e : Int} (h : e ≠ 0) : NZ (err e : Rd α) := fun _ _ h2 => by
  injection h2 with h2
  exact h h2
theorem NZ_bind {α β : Type} {t : Rd α} {f : α → Rd β} (h : NZ t) (hf : ∀ v, NZ (f v)) : NZ (t.bind f) := fun s a h2 => by
  rw [run_bind] at h2
  cases ht : t.run s a with
  | no e =>
    rw [ht] at h2
    injection h2 with h2
    subst h2
    exact h s a ht
  | ok x a1 => rw [ht] at h2; exact hf x s a1 h2
theorem NZ_if {α : Type} {c : Prop} [Decidable c] {t u : Rd α} (ht : NZ t) (hu : NZ u) : NZ (if c then t else u) := by
  split
  · exact ht
  · exact hu
theorem NZ_bits : ∀ n, NZ (bitsN n)
  | 0 => NZ_ret 0
  | n + 1 => fun s a h => by
    unfold bitsN run at h
    split at h
    · exact NZ_bind (NZ_bits n) (fun x => NZ_ret _) s (a + 1) h
    · cases h
theorem NZ_align {α : Type} {t : Rd α} (h : NZ t) : NZ (align t) := fun s a h2 => h s ((a + 7) / 8 * 8) h2
theorem symG_nz (lens : List Int) : ∀ d l w, NZ (symG lens d l w)
  | 0, _, _ => NZ_err (by decide)
  | d + 1, l, w => fun s a h => by
    unfold symG run at h
    split at h
    · revert h
      exact NZ_if (NZ_ret _) (NZ_if (symG_nz lens d _ _) (NZ_err (by decide))) s (a + 1)
    · cases h
theorem NZ_sym (lens : List Int) : NZ (symT lens) := symG_nz lens 15 1 0
theorem NZ_bytes : ∀ n, NZ (bytesN n)
  | 0 => NZ_ret _
  | n + 1 => NZ_bind (NZ_bits 8) (fun _ => NZ_bind (NZ_bytes n) (fun _ => NZ_ret _))
theorem NZ_stored (most : Nat) (out : List Int) : NZ (storedT most out) :=
  NZ_align (NZ_bind (NZ_bits 16) (fun _ => NZ_bind (NZ_bits 16) (fun _ => NZ_if (NZ_if (NZ_err (by decide)) (NZ_bind (NZ_bytes _) (fun _ => NZ_ret _))) (NZ_err (by decide)))))
theorem NZ_copies (most : Nat) (out : List Int) (k : Nat) (d : Option (List Int)) : NZ (copiesT most out k d) := by
  unfold copiesT
  refine NZ_if (NZ_err (by decide)) (NZ_bind (NZ_bits _) (fun x => ?_))
  cases d with
  | none => exact NZ_err (by decide)
  | some dl => exact NZ_bind (NZ_sym dl) (fun j => NZ_if (NZ_err (by decide)) (NZ_bind (NZ_bits _) (fun y => NZ_if (NZ_err (by decide)) (NZ_if (NZ_err (by decide)) (NZ_ret _)))))
theorem NZ_packed (most : Nat) (lens : List Int) (d : Option (List Int)) : ∀ f out, NZ (packedT most lens d f out)
  | 0, _ => NZ_err (by decide)
  | f + 1, out => NZ_bind (NZ_sym lens) (fun k => NZ_if (NZ_ret _) (NZ_if (NZ_bind (NZ_copies _ _ _ _) (fun o => NZ_packed most lens d f o)) (NZ_if (NZ_err (by decide)) (NZ_packed most lens d f _))))
theorem NZ_first : ∀ (r : List Nat) (l : List Int), NZ (firstT r l)
  | [], l => NZ_ret l
  | _ :: r, _ => NZ_bind (NZ_bits 3) (fun _ => NZ_first r _)
theorem NZ_lengths (first : List Int) (n : Nat) : ∀ f l, NZ (lengthsT first n f l)
  | 0, l => NZ_if (NZ_err (by decide)) (NZ_ret _)
  | f + 1, l => by
    by_cases h : l.length < n
    · rw [lengthsT_step first n f l h]
      unfold manyT
      exact NZ_bind (NZ_bind (NZ_sym first) (fun k => NZ_if (NZ_if (NZ_err (by decide)) (NZ_bind (NZ_bits 2) (fun _ => NZ_ret _))) (NZ_if (NZ_bind (NZ_bits 3) (fun _ => NZ_ret _)) (NZ_if (NZ_bind (NZ_bits 7) (fun _ => NZ_ret _)) (NZ_ret _))))) (fun v => NZ_if (NZ_lengths first n f _) (NZ_err (by decide)))
    · rw [lengthsT_end first n (f + 1) l h]
      exact NZ_ret l
theorem NZ_dynamic : NZ dynamicT :=
  NZ_bind (NZ_bits 5) (fun _ => NZ_bind (NZ_bits 5) (fun _ => NZ_bind (NZ_bits 4) (fun _ => NZ_if (NZ_bind (NZ_first _ _) (fun _ => NZ_if (NZ_bind (NZ_lengths _ _ _ _) (fun _ => NZ_if (NZ_ret _) (NZ_err (by decide)))) (NZ_err (by decide)))) (NZ_err (by decide)))))
theorem NZ_kind (most F : Nat) (out : List Int) (kd : Nat) : NZ (kindT most F out kd) :=
  NZ_if (NZ_stored most out) (NZ_if (NZ_packed most _ _ F out) (NZ_if (NZ_bind NZ_dynamic (fun z => NZ_packed most z.1 _ F out)) (NZ_err (by decide))))
theorem NZ_infl (most F : Nat) : ∀ f out, NZ (inflT most F f out)
  | 0, _ => NZ_err (by decide)
  | f + 1, out => by
    rw [inflT_kind]
    exact NZ_bind (NZ_bits 1) (fun _ => NZ_bind (NZ_bits 2) (fun _ => NZ_bind (NZ_kind most F out _) (fun o => NZ_if (NZ_ret o) (NZ_infl most F f o))))
/-- A reading that is told whole. -/
theorem infl_open {s : ByteArray} {m : Nat} {A : ByteArray} {n : Int} (hm : m ≤ 1048576) (h : inflR s (m : Int) = (A, n, 0)) : ∃ o a, (inflT m manyF manyF []).run s 0 = .ok o a ∧ A = strOfNums o ∧ n = (((a + 7) / 8 : Nat) : Int) ∧ a ≤ 8 * s.size ∧ 0 < a := by
  unfold inflR infl at h
  rw [if_neg (by omega), Int.toNat_natCast] at h
  cases hr : (inflT m manyF manyF []).run s 0 with
  | ok o a =>
    rw [hr] at h
    simp only [Prod.mk.injEq] at h
    refine ⟨o, a, rfl, h.1.symm, h.2.1.symm, (run_place s _ 0 o a (Nat.zero_le _) hr).2, ?_⟩
    rw [show inflT m manyF manyF [] = inflT m manyF (9999999999999999 + 1) [] from rfl, inflT_kind] at hr
    obtain ⟨lv, a1, h1, h2⟩ := bind_ok hr
    have h3 := h1
    rw [run_bitsN s 1 0 (Nat.zero_le _)] at h3
    split at h3
    · rename_i h8
      injection h3 with _ h3
      have := (run_place s _ a1 o a (by omega) h2).1
      omega
    · cases h3
  | no e =>
    rw [hr] at h
    simp only [Prod.mk.injEq] at h
    obtain ⟨_, h2, h3⟩ := h
    subst h3
    exact absurd hr (NZ_infl m manyF manyF [] s 0)
theorem infl_shut {s : ByteArray} {m : Nat} {o : List Int} {a : Nat} (hm : m ≤ 1048576) (h : (inflT m manyF manyF []).run s 0 = .ok o a) : inflR s (m : Int) = (strOfNums o, (((a + 7) / 8 : Nat) : Int), 0) := by
  unfold inflR infl
  rw [if_neg (by omega), Int.toNat_natCast, h]
end Go.Proofs.Ytaghmhcccighgaa.IW
end
section
/- The bits of words: plain. -/
namespace Go.Proofs.Ytaghmhcccighgaa.HF
open Go.RowKit Go.Proofs.Ytaghmhcccighgaa.MB Go.Proofs.YtaghmhcccighgaaW.PrintWords Go.Proofs.YtaghmhcccighgaaW.PrintLast Go.Proofs.YtaghmhcccighgaaW.PrintMore
/-- A word's bits, the highest first. -/
def wordB (c : Nat) : Nat → List Bool
  | 0 => []
  | k + 1 => c.testBit k :: wordB c k
theorem wordB_len (c : Nat) : ∀ k, (wordB c k).length = k
  | 0 => rfl
  | k + 1 => by rw [wordB, List.length_cons, wordB_len c k]
def bnat (b : Bool) : Nat := if b then 1 else 0
theorem and_bit (x i : Nat) (hx : x < 2 ^ 63) : Go.bits .and .i64 ((x : Int) / 2 ^ i) 1 = (bnat (x.testBit i) : Int) := by
  have e : ((x : Int) / 2 ^ i) = ((x / 2 ^ i : Nat) : Int) := by rw [Int.natCast_ediv, Int.natCast_pow]; rfl
  rw [e, show (1 : Int) = ((1 : Nat) : Int) from rfl, and_i64 _ 1 (Nat.lt_of_le_of_lt (Nat.div_le_self _ _) hx) (by decide)]
  congr 1
  rw [show (1 : Nat) = 2 ^ 1 - 1 from rfl, Nat.and_two_pow_sub_one_eq_mod]
  have := Nat.testBit_eq_decide_div_mod_eq (x := x) (i := i)
  unfold bnat
  rw [this]
  rcases Nat.mod_two_eq_zero_or_one (x / 2 ^ i) with h | h <;> simp [h]
theorem bitsOf_bnat (b : Bool) : bitsOf (bnat b) 1 = [b] := by cases b <;> rfl
end Go.Proofs.Ytaghmhcccighgaa.HF
end
