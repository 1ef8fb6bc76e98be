/- Parts: HLen PLen3 PLen4 PLen5 -/
import Derived.Test.YtaghmhcccighgaaK16
import Derived.Deep.RegionHeld3
import Derived.Deep.CutBlock
import Derived.Test.YtaghmhcccighgaaK14
set_option linter.unusedVariables false
set_option linter.unusedSimpArgs false
section
/- huff.Lengths: walked. -/
namespace Go.Proofs.Ytaghmhcccighgaa.HF
open Go.RowKit Go.Proofs.YtaghmhcccighgaaW.PrintWords Go.Proofs.YtaghmhcccighgaaW.PrintLast Go.Proofs.YtaghmhcccighgaaW.PrintMore Go.Proofs.Ytaghmhcccighgaa.HW Go.Proofs.Ytaghmhcccighgaa.MB Go.Proofs.Ytaghmhcccighgaa.Fn
attribute [local go_sem] max2_int min2_int max_two min_two max_three min_three max_four min_four   -- for this text's walks alone
/-- What Lengths gives. -/
def LQ (l : List Int) (a : Int) (W : World) (e : Ending) (w' : World) : Prop :=
  ∃ v0, e = .returned (.tuple #[v0, .int .i64 (if okLens l a then 0 else 1)]) ∧ (Kd.int .i64).R 3 w' W.heap.size (fun _ => True) v0 (if okLens l a then lensL l a.toNat else []) ∧ Below W.heap.size W w'
theorem LQ.bad {l : List Int} {a : Int} {W w' : World} (h : okLens l a = false) (hb : Below W.heap.size W w') : LQ l a W (.returned (.tuple #[.slice none 0 0, .int .i64 1])) w' :=
  ⟨_, by rw [h]; rfl, by rw [h]; exact Kd.R_nil _ _ _ _ _, hb⟩
set_option maxRecDepth 100000 in
set_option maxHeartbeats 32000000 in
theorem lengths_any (A : Option Addr) (c : Nat) (l : List Int) (a : Int) (W : World) (hr : Kd.C (Kd.int .i64) W A l.length l) (_hc : l.length ≤ c) : Calls Try.prog 56 #[.slice A l.length c, .int .i64 a] W (LQ l a W) := by
  have hu := Try.underlying108
  have HCN := Aside0.mk (counted_ok A c l W hr hr.2.1)
  have HR := Aside0.mk hr
  have hl63 := hr.2.1
  clear hr _hc
  by_cases c1 : 288 < l.length
  · have hb1 : decide ((288 : Int) < (l.length : Int)) = true := by simp; omega
    have hb1' : decide (288 < l.length) = true := by simp; omega
    have HO := Aside0.mk (show okLens l a = false from by unfold okLens; rw [decide_eq_false (show ¬ l.length ≤ 288 by omega)]; rfl)
    clear c1
    go_enter Try.func56, Try.ntmps56
    go_wp2_with fail
    go_ret2
    exact LQ.bad HO.out (Below.refl _ _)
  · have hb1 : decide ((288 : Int) < (l.length : Int)) = false := by simp; omega
    have hb1' : decide (288 < l.length) = false := by simp; omega
    have HL := Aside0.mk (show l.length ≤ 288 by omega)
    by_cases c2 : a < 1
    · have hb2 : decide (a < 1) = true := by simpa using c2
      have HO := Aside0.mk (show okLens l a = false from by unfold okLens; rw [decide_eq_false (show ¬ (1 ≤ a ∧ a ≤ 15) by omega)]; simp)
      clear c1
      go_enter Try.func56, Try.ntmps56
      go_wp2_with fail
      go_ret2
      exact LQ.bad HO.out (Below.refl _ _)
    · have hb2 : decide (a < 1) = false := by simpa using c2
      by_cases c3 : 15 < a
      · have hb3 : decide (15 < a) = true := by simpa using c3
        have HO := Aside0.mk (show okLens l a = false from by unfold okLens; rw [decide_eq_false (show ¬ (1 ≤ a ∧ a ≤ 15) by omega)]; simp)
        clear c1 c2
        go_enter Try.func56, Try.ntmps56
        go_wp2_with fail
        go_ret2
        exact LQ.bad HO.out (Below.refl _ _)
      · have hb3 : decide (15 < a) = false := by simpa using c3
        obtain ⟨m, rfl⟩ : ∃ m : Nat, a = m := ⟨a.toNat, by omega⟩
        have hm1 : 1 ≤ m := by omega
        have hm2 : m ≤ 15 := by omega
        obtain ⟨z, hz⟩ : ∃ z, countedL l = z := ⟨_, rfl⟩
        have HZ := Aside0.mk hz
        rw [hz] at HCN
        clear hz
        cases z with
        | false =>
          have HO := Aside0.mk (show okLens l (m : Int) = false from by unfold okLens; rw [HZ.out]; simp)
          clear c1 c2 c3 HZ
          go_enter Try.func56, Try.ntmps56
          go_wp2_with fail
          refine HCN.out.mono ?_
          rintro e w1 ⟨rfl, rfl⟩
          go_wp2_with fail
          go_ret2
          exact LQ.bad HO.out (Below.refl _ _)
        | true =>
          clear c1 c2 c3
          go_enter Try.func56, Try.ntmps56
          go_wp2_with fail
          refine HCN.out.mono ?_
          rintro e w1 ⟨rfl, rfl⟩
          clear HCN
          go_wp2_with fail
          go_loopw [6, 36] (fun v6 v36 wr => ∃ (k : Nat) (xs : List Pk), v36 = .int .i64 k ∧ k ≤ l.length ∧ Aside0 (L1 W wr v6 (l.take k) xs)) (fun _ v36 _ => l.length - (intOf v36).toNat)
          case atStart => exact ⟨0, [], rfl, Nat.zero_le _, ⟨L1.start W⟩⟩
          case round =>
            obtain ⟨k, xs, rfl, hk, HX⟩ := hrel
            by_cases hlt : k < l.length
            · have hb4 : decide ((k : Int) < (l.length : Int)) = true := by simp; omega
              have hk64 : k ≤ 288 := by have := HL.out; omega
              obtain ⟨ad1, hA1, x0⟩ := Kd.at_int (Kd.C_below HR.out HX.out.be) (k : Int) (by omega) (by omega)
              subst hA1
              simp only [Int.toNat_natCast] at x0
              have hfr : freqOk (rd l (k : Int)) = true := by
                have := HZ.out
                unfold countedL at this
                rw [List.all_eq_true] at this
                exact this _ (by rw [rd_get l k hlt]; exact List.getElem_mem _)
              have HT := Aside0.mk (show l.take (k + 1) = l.take k ++ [rd l (k : Int)] from take_rd l k hlt)
              have HTL := Aside0.mk (show (l.take k).length = k from by rw [List.length_take]; omega)
              obtain ⟨f, hf⟩ : ∃ f, rd l (k : Int) = f := ⟨_, rfl⟩
              rw [hf] at x0 HT
              have q1 : (0 : Int) ≤ (k : Int) := by omega
              have q2 : (k : Int) < (l.length : Int) := by omega
              have HI := Aside0.mk hlt
              clear hf hfr hlt
              by_cases hf0 : 0 < f
              · have hb5 : decide (0 < f) = true := by simpa using hf0
                have HF := Aside0.mk hf0
                have HN := Aside0.mk (show xs.length ≤ 288 from by
                  have h1 := congrArg List.length HX.out.ab
                  rw [List.length_map] at h1
                  have h2 := coinsF_le (l.take k) 0
                  have h3 := HTL.out
                  have := HL.out
                  omega)
                clear hf0
                go_wp2_with ((with_reducible refine gate_builtin (b := .append) (xs := #[.tmp 43, .tmp 48]) rfl ?_); at_builtin; refine Kd.R_append kP (w0 := W) (W := wr.alloc (.cells #[.int .i64 (k : Int)] 3)) W.heap.size rfl (.tmp 43) (.tmp 48) 106 108 (.agg #[.int .i64 0, .slice none 0 0]) 32 rfl Try.underlying106 infoPk rfl (by decide) (by decide) u6 xs ⟨f, some ⟨wr.heap.size, 0, none⟩, 1, 1, [(k : Int)]⟩ [.int .i64 f, .slice (some ⟨wr.heap.size, 0, none⟩) 1 1] (fun _ => True) (fun _ => False) rfl (by first | (go_simp; done) | (go_simp; rfl)) (kP_mkM _ _ _ _) (fun _ hk => hk.elim) (fun _ _ => trivial) (Kd.R_alloc HX.out.ro _) (below_alloc HX.out.be _) (below_alloc HX.out.be _).size (by have := HN.out; omega) ?_; intro v9 w9 ho hb hg hat; have HX2 : Aside0 (L1 W w9 v9 (l.take (k + 1)) (xs ++ [⟨f, some ⟨wr.heap.size, 0, none⟩, 1, 1, [(k : Int)]⟩])) := ⟨by rw [HT.out]; have h9 := HX.out.add HF.out (w' := w9) (v' := v9) (by rw [HTL.out]; exact ho) hb (by rw [HTL.out]; exact hg); rw [HTL.out] at h9; exact h9⟩; clear ho hb hg hat)
                go_roundw
                case rel => exact ⟨k + 1, _, by simp, HI.out, HX2⟩
                case measure => simp [intOf]; have := HI.out; omega
              · have hb5 : decide (0 < f) = false := by simpa using hf0
                have HX2 : Aside0 (L1 W wr u6 (l.take (k + 1)) xs) := ⟨by rw [HT.out]; exact HX.out.skip hf0⟩
                clear hf0
                go_wp2_with fail
                go_roundw
                case rel => exact ⟨k + 1, xs, by simp, HI.out, HX2⟩
                case measure => simp [intOf]; have := HI.out; omega
            · have hke : k = l.length := by omega
              subst hke
              have hb4 : decide ((l.length : Int) < (l.length : Int)) = false := by simp
              have HX2 : Aside0 (L1 W wr u6 l xs) := ⟨by have := HX.out; rw [List.take_length] at this; exact this⟩
              clear HX hlt
              obtain ⟨A6, n6, hv6⟩ := Kd.R_slice HX2.out.ro
              subst hv6
              obtain ⟨n, hn⟩ : ∃ n, xs.length = n := ⟨_, rfl⟩
              have HXN := Aside0.mk hn
              have hcl : (coinsF 0 l).length = n := by rw [← HX2.out.ab, List.length_map, hn]
              have HCL := Aside0.mk hcl
              have hn288 : n ≤ 288 := by have := coinsF_le l 0; have := HL.out; omega
              obtain ⟨p2, hp2⟩ : ∃ p2, 2 ^ m = p2 := ⟨_, rfl⟩
              have hp3 : p2 ≤ 32768 := by rw [← hp2]; exact Nat.pow_le_pow_right (n := 2) (by decide) hm2
              have hw : wrap64 ((2 : Int) ^ m) = (p2 : Int) := by
                have e : ((2 : Int) ^ m) = (p2 : Int) := by rw [← hp2]; simp
                rw [e]
                exact wrap64_id _ (by omega) (by omega)
              have HP2 := Aside0.mk hp2
              rw [hn] at HX2
              rw [hn]
              clear hn hcl hp2
              by_cases hbig : p2 < n
              · have hb5 : decide ((p2 : Int) < (n : Int)) = true := by simp; omega
                have hb5' : decide (p2 < n) = true := by simp; omega
                have HO := Aside0.mk (show okLens l (m : Int) = false from by unfold okLens; rw [HCL.out, Int.toNat_natCast, HP2.out, decide_eq_false (show ¬ n ≤ p2 by omega)]; simp)
                go_wp2_with fail
                go_ret2
                exact LQ.bad HO.out HX2.out.be
              · have hb5 : decide ((p2 : Int) < (n : Int)) = false := by simp; omega
                have hb5' : decide (p2 < n) = false := by simp; omega
                have HO := Aside0.mk (show okLens l (m : Int) = true from by unfold okLens; rw [HCL.out, Int.toNat_natCast, HP2.out, HZ.out, decide_eq_true (show n ≤ p2 by omega), decide_eq_true HL.out, decide_eq_true (show (1 : Int) ≤ (m : Int) ∧ (m : Int) ≤ 15 by omega)]; rfl)
                have HNP := Aside0.mk (show n ≤ 2 ^ m from by rw [HP2.out]; omega)
                go_upto_region 13 with ((with_reducible refine gate_dst (N := 58) rfl ?_); go_must (refine Kd.R_make (Kd.int .i64) (w0 := W) W.heap.size 3 rfl (N := 58) rfl 48 _ _ rfl (l.length : Int) rfl rfl Try.underlying48 (.int .i64 0) 8 info3 rfl (by decide) (by decide) 0 (ok := fun _ => True) (okp := fun _ => True) rfl (fun _ hk => hk) trivial (by omega) (by have := HL.out; omega) HX2.out.be HX2.out.be.size ?_); intro v8 w11 ho hb hg hnew; rw [Int.toNat_natCast] at ho; obtain ⟨b8, hb8, hb8'⟩ := hnew; have HM := Aside0.mk (HX2.out.made ho hb hg hb8 hb8'); clear ho hb hg hb8 hb8')
                have HAB := Aside0.mk HX2.out.ab
                clear HX2 hb5 hb5' hw hbig
                by_cases hn0 : n = 0
                · subst hn0
                  have HLL := Aside0.mk (show lensL l m = List.replicate l.length 0 from by unfold lensL; rw [HCL.out]; rfl)
                  go_wp2_with fail
                  go_ret2
                  exact ⟨v8, by rw [HO.out]; rfl, by rw [HO.out, if_pos rfl, Int.toNat_natCast, HLL.out]; exact HM.out.ou, HM.out.be⟩
                · by_cases hn1 : n = 1
                  · subst hn1
                    obtain ⟨p, hp⟩ := List.length_eq_one_iff.1 HXN.out
                    subst hp
                    obtain ⟨g6, c6, e6⟩ := R_first HM.out.ro (by simp)
                    simp only [List.length_singleton] at e6
                    injection e6 with eA _ ec
                    subst eA; subst ec
                    obtain ⟨p0, p1, p2, p3, p4⟩ := p
                    have hab : [((p0, p4) : PkA)] = coinsF 0 l := HAB.out
                    obtain ⟨i0, hi0⟩ := coins_one l 0 (p0, p4) (by rw [← hab]; exact List.mem_singleton_self _)
                    have hi1 : p4 = [i0] := hi0
                    subst hi1
                    have hrg := (coins_PB (m := l.length) l 0 (fun f hf => by
                      have h9 := HZ.out
                      unfold countedL at h9
                      have := List.all_eq_true.1 h9 f hf
                      unfold freqOk at this
                      exact (of_decide_eq_true this).2) (by omega) (p0, [i0]) (by rw [show ((0 : Nat) : Int) = 0 from rfl, ← hab]; exact List.mem_singleton_self _)).rng i0 (List.mem_singleton_self _)
                    obtain ⟨j, rfl⟩ : ∃ j : Nat, i0 = j := ⟨i0.toNat, by omega⟩
                    have hjl : j < l.length := by omega
                    have HLL := Aside0.mk (show lensL l m = (List.replicate l.length 0).set j 1 from by unfold lensL; rw [HCL.out, if_pos rfl, ← hab]; rfl)
                    have cc : w11.cell? ⟨g6, 1, none⟩ = some (.slice p1 p2 p3) := (atP HM.out.ro 0 (by simp)).2
                    have hpo := (HM.out.po _ (List.mem_singleton_self _)).reads
                    have hp2 : p2 = 1 := hpo.1
                    subst hp2
                    obtain ⟨ad2, hA2, x2⟩ := Kd.at_int hpo.2.2 0 (by decide) (by show (0 : Int) < ((1 : Nat) : Int); decide)
                    have hA3 : p1 = some ad2 := hA2
                    subst hA3
                    have x3 : w11.cell? (ad2.add 0) = some (.int .i64 (j : Int)) := x2
                    have x4 : w11.cell? ad2 = some (.int .i64 (j : Int)) := by rw [← Addr.add_zero' ad2]; exact x3
                    obtain ⟨g8, c8, e8⟩ := R_first HM.out.ou (by rw [List.length_replicate]; omega)
                    rw [List.length_replicate] at e8
                    subst e8
                    have q1 : (0 : Int) ≤ (j : Int) := by omega
                    have q2 : (j : Int) < (l.length : Int) := by omega
                    obtain ⟨y0, z0⟩ := Kd.R_celln 0 HM.out.ou (j : Int) (by omega) (by omega)
                    have hput := Kd.R_putg HM.out.ou (j : Int) 1
                    simp only [Int.toNat_natCast] at y0 z0 hput
                    have HP := Aside0.mk hput
                    have HBE := Aside0.mk (HM.out.be.grown hput.2 HM.out.be.size (fun b hb => Kd.R_base HM.out.ou b (by rw [← hb]; rfl)))
                    clear hab hrg hpo x2 hput hjl hi0 HAB HM
                    go_wp2_with fail
                    go_ret2
                    exact ⟨_, by rw [HO.out]; rfl, by rw [HO.out, if_pos rfl, Int.toNat_natCast, HLL.out]; exact HP.out.1, HBE.out⟩
                  · have hn2 : 2 ≤ n := by omega
                    have hb6 : ((n : Int) == 1) = false := by simp; omega
                    have hb7 : decide ((n : Int) < 2) = false := by simp; omega
                    have hb7' : decide (n < 2) = false := by simp; omega
                    obtain ⟨g6, c6, e6⟩ := R_first HM.out.ro (by rw [HXN.out]; omega)
                    rw [HXN.out] at e6
                    injection e6 with eA _ ec
                    subst eA; subst ec
                    have HSO := Aside0.mk (sort_ok (W := w11) (B := W.heap.size) xs ⟨Fr.refl _ _, HM.out.ro⟩ (by omega))
                    go_upto_region 20 with ((go_at_call 65; refine HSO.out.mono ?_; rintro e w12 ⟨rfl, cs, hs, hp, ho⟩; have HM2 := Aside0.mk (HM.out.sorted hs hp.pm); have HA2 := Aside0.mk (show cs.map Pk.abs = isort (coinsF 0 l) from by rw [← HAB.out]; exact sort_abs HXN.out.symm hp ho); clear hs hp ho))
                    obtain ⟨mm, hmm⟩ : ∃ mm, m = mm + 1 := ⟨m - 1, by omega⟩
                    have hmi : (m : Int) - 1 = (mm : Int) := by omega
                    have HMM := Aside0.mk hmm
                    have HMI := Aside0.mk hmi
                    have hmm64 : mm ≤ 14 := by omega
                    have hw1 : IntKind.i64.wrap ((mm : Nat) : Int) = (mm : Int) := IntWalk.i64_in _ (by omega)
                    have HN2 := Aside0.mk hn2
                    have hcn : cs.length = n := by
                      have h1 := congrArg List.length HA2.out
                      rw [List.length_map, (isort_perm _).length_eq, HCL.out] at h1
                      exact h1
                    have HCN := Aside0.mk hcn
                    have HPB := Aside0.mk (levels_PB (SC := cs.map Pk.abs) (m := l.length) (by
                      intro p hp
                      rw [HA2.out] at hp
                      have hp2 := (isort_perm _).mem_iff.1 hp
                      refine coins_PB l 0 (fun f hf => ?_) (by omega) p (by rw [show ((0 : Nat) : Int) = 0 from rfl]; exact hp2)
                      have h9 := HZ.out
                      unfold countedL at h9
                      have := List.all_eq_true.1 h9 f hf
                      unfold freqOk at this
                      exact (of_decide_eq_true this).2))
                    have HV := Aside0.mk (And.intro HM.out.vb HO.out)
                    clear hmm HM HSO hcn hb6 hb7 hb7' hn1 hn0
                    go_upto_block 2 with (fail)
                    clear hmi hw1
                    go_wp2_with fail
                    go_loopw [11, 80] (fun v11 v80 wr => ∃ (k ga na ca : Nat) (ys : List Pk), v80 = .int .i64 k ∧ v11 = .slice (some ⟨ga, 0, none⟩) na ca ∧ k ≤ mm ∧ Aside0 (L3 W wr (.slice (some ⟨g6, 0, none⟩) n n6) (.slice (some ⟨ga, 0, none⟩) na ca) v8 b8 cs ys (List.replicate l.length 0)) ∧ Aside0 (ys.map Pk.abs = levels (cs.map Pk.abs) k)) (fun _ v80 _ => mm - (intOf v80).toNat)
                    case atStart => exact ⟨0, g6, n, n6, cs, rfl, rfl, Nat.zero_le _, ⟨L3.start HM2.out⟩, ⟨rfl⟩⟩
                    case round =>
                      clear HM2
                      obtain ⟨k, ga, na, ca, ys, rfl, rfl, hk, H3, HY⟩ := hrel
                      have hna := (Kd.R_reads' H3.out.al).1
                      have HNA := Aside0.mk hna
                      have hna64 : na ≤ 576 := by
                        have h1 := congrArg List.length HY.out
                        have h2 := levels_le (cs.map Pk.abs) k
                        rw [List.length_map] at h1 h2
                        have := HCN.out
                        omega
                      by_cases hlt : k < mm
                      · have hb4 : decide ((k : Int) < (mm : Int)) = true := by simp; omega
                        have hb4' : decide (k < mm) = true := by simp; omega
                        have HI := Aside0.mk hlt
                        have hk64 : k ≤ 14 := by omega
                        obtain ⟨w0, hw0⟩ : ∃ w0 : World, w0 = wr := ⟨_, rfl⟩
                        subst hw0
                        clear hlt hk hna
                        go_wp2_with fail
                        go_loopw [12, 13] (fun v12 v13 wr => ∃ (t j : Nat) (ps : List Pk), v13 = .int .i64 (t : Int) ∧ Aside0 (t = 2 * j ∧ t ≤ na + 1) ∧ Aside0 (L4 w0 wr v12 ps) ∧ Aside0 (ps.map Pk.abs = pairsL ((ys.map Pk.abs).take (2 * j)))) (fun _ v13 _ => na + 2 - (intOf v13).toNat)
                        case atStart => exact ⟨0, 0, [], rfl, ⟨⟨rfl, Nat.zero_le _⟩⟩, ⟨L4.start w0⟩, ⟨rfl⟩⟩
                        case round =>
                          obtain ⟨t, j, ps, rfl, HT, H4, HPS⟩ := hrel
                          have ht64 : t ≤ 577 := by have := HT.out; omega
                          have hpl : ps.length ≤ 576 := by
                            have h1 := congrArg List.length HPS.out
                            rw [List.length_map, pairsL_len, List.length_take, List.length_map] at h1
                            have := HNA.out
                            omega
                          by_cases hlt : t + 1 < na
                          · have hb5 : decide ((t : Int) + 1 < (na : Int)) = true := by simp; omega
                            have hyl : t + 1 < ys.length := by rw [← HNA.out]; exact hlt
                            obtain ⟨⟨x0, x1, x2, x3, x4⟩, hx⟩ : ∃ z, rdP ys t = z := ⟨_, rfl⟩
                            obtain ⟨⟨y0, y1, y2, y3, y4⟩, hy⟩ : ∃ z, rdP ys (t + 1) = z := ⟨_, rfl⟩
                            have hx' : ys[t] = ⟨x0, x1, x2, x3, x4⟩ := by rw [← hx, rdP_get ys t (by omega)]
                            have hy' : ys[t + 1] = ⟨y0, y1, y2, y3, y4⟩ := by rw [← hy, rdP_get ys (t + 1) hyl]
                            have hxm : (⟨x0, x1, x2, x3, x4⟩ : Pk) ∈ ys := by rw [← hx']; exact List.getElem_mem _
                            have hym : (⟨y0, y1, y2, y3, y4⟩ : Pk) ∈ ys := by rw [← hy']; exact List.getElem_mem _
                            have hpx := HPB.out k (x0, x4) (by rw [← HY.out]; exact List.mem_map_of_mem (f := Pk.abs) hxm)
                            have hpy := HPB.out k (y0, y4) (by rw [← HY.out]; exact List.mem_map_of_mem (f := Pk.abs) hym)
                            have hp2 : 2 ^ k ≤ 16384 := Nat.pow_le_pow_right (n := 2) (by decide) (show k ≤ 14 by have := HI.out; omega)
                            have hws : IntKind.i64.wrap (x0 + y0) = x0 + y0 := by
                              have a1 := hpx.wle
                              have a2 := hpy.wle
                              have a3 := hpx.pos
                              have a4 := hpy.pos
                              simp only at a1 a2 a3 a4
                              exact IntWalk.i64_in _ (by omega)
                            have hol1 : x4.length ≤ 16384 := Nat.le_trans hpx.ole hp2
                            have hol2 : y4.length ≤ 16384 := Nat.le_trans hpy.ole hp2
                            have hrx := (H3.out.pa _ hxm).reads
                            have hry := (H3.out.pa _ hym).reads
                            have hstep := pairsL_step (ys.map Pk.abs) j (by rw [List.length_map, ← HT.out.1]; exact hyl)
                            have HPS2 : Aside0 ((ps.map Pk.abs) ++ [(x0 + y0, x4 ++ y4)] = pairsL ((ys.map Pk.abs).take (2 * (j + 1)))) := ⟨by
                              rw [hstep, HPS.out]
                              simp only [← HT.out.1, List.getElem_map, hx', hy']
                              rfl⟩
                            obtain ⟨xy, hxy⟩ : ∃ z, x4 ++ y4 = z := ⟨_, rfl⟩
                            rw [hxy] at HPS2
                            have b0 : Below w0.heap.size w0 wr.drew := below_drew H4.out.be
                            have b1 := below_alloc b0 (.cells #[.slice x1 x2 x3, .slice y1 y2 y3] 48)
                            have HCI := Aside0.mk (concI_ok (W := wr.drew.alloc (.cells #[.slice x1 x2 x3, .slice y1 y2 y3] 48)) (g := wr.heap.size) (A1 := x1) (n1 := x2) (c1 := x3) (A2 := y1) (n2 := y2) (c2 := y3) x4 y4 ((blk_cell (blk_new wr.drew _) 0).trans rfl) ((blk_cell (blk_new wr.drew _) 1).trans rfl) (Kd.C_below hrx.2.2 b1) hrx.2.1 (Kd.C_below hry.2.2 b1) hry.2.1 (by have h9 := hrx.1; simp only at h9; omega) (by have h9 := hry.1; simp only at h9; omega))
                            rw [hxy] at HCI
                            have hS : ∀ w' : World, Below w0.heap.size w0 w' → Below w0.heap.size w0 w' ∧ w'.cell? ⟨ga, t * 2, none⟩ = some (.int .i64 x0) ∧ w'.cell? ⟨ga, t * 2 + 1, none⟩ = some (.slice x1 x2 x3) ∧ w'.cell? ⟨ga, (t + 1) * 2, none⟩ = some (.int .i64 y0) ∧ w'.cell? ⟨ga, (t + 1) * 2 + 1, none⟩ = some (.slice y1 y2 y3) := fun w' hb => by
                              have h1 := atP (Kd.R_below H3.out.al hb) t (by omega)
                              have h2 := atP (Kd.R_below H3.out.al hb) (t + 1) hlt
                              rw [hx] at h1
                              rw [hy] at h2
                              exact ⟨hb, h1.1, h1.2, h2.1, h2.2⟩
                            have HSS := Aside0.mk hS
                            have q1 : (0 : Int) ≤ (t : Int) := by omega
                            have q2 : (t : Int) < (na : Int) := by omega
                            have q3 : (0 : Int) ≤ (t : Int) + 1 := by omega
                            have q4 : (t : Int) + 1 < (na : Int) := by omega
                            have q5 : ((t : Int) + 1).toNat = t + 1 := by omega
                            have hw5 : IntKind.i64.wrap ((t : Int) + 1) = (t : Int) + 1 := IntWalk.i64_in _ (by omega)
                            have hw6 : IntKind.i64.wrap ((t : Int) + 2) = (t : Int) + 2 := IntWalk.i64_in _ (by omega)
                            have HI2 := Aside0.mk hlt
                            clear hx hy hx' hy' hxm hym hpx hpy hp2 hrx hry hstep hxy hS hlt hol1 hol2
                            go_upto_region 26 with (fail)
                            go_region_held3 (fun w' => Below w0.heap.size w0 w' ∧ w'.cell? ⟨ga, t * 2, none⟩ = some (.int .i64 x0) ∧ w'.cell? ⟨ga, t * 2 + 1, none⟩ = some (.slice x1 x2 x3) ∧ w'.cell? ⟨ga, (t + 1) * 2, none⟩ = some (.int .i64 y0) ∧ w'.cell? ⟨ga, (t + 1) * 2 + 1, none⟩ = some (.slice y1 y2 y3)) ((exact HSS.out _ (by assumption))) ((first | (go_at_call 66; refine HCI.out.mono ?_; rintro e w2 ⟨v2, rfl, hr2, hb2⟩; obtain ⟨A2, c2, e2⟩ := Kd.R_slice hr2; subst e2; have HR2 := Aside0.mk hr2; have b2 := b1.trans (hb2.mono b1.size); have H42 := Aside0.mk (H4.out.below ((below_alloc (below_drew (Below.refl wr.heap.size wr)) _).trans (hb2.mono (below_alloc (below_drew (Below.refl wr.heap.size wr)) _).size))); have b3 := below_alloc b2 (.cells #[.int .i64 (x0 + y0), .slice A2 xy.length c2] 108); clear hr2 hb2) | (refine Kd.R_append_step kP (w0 := w0) (W := w2) w0.heap.size (by rfl) (.tmp 89) (.tmp 116) 106 108 (.agg #[.int .i64 0, .slice none 0 0]) 32 (by rfl) Try.underlying106 infoPk rfl (by decide) (by decide) u12 ps ⟨x0 + y0, A2, xy.length, c2, xy⟩ [.int .i64 (x0 + y0), .slice A2 xy.length c2] (fun _ => True) (fun _ => False) (by rfl) (by rfl) (kP_mkM _ _ _ _) (fun _ hk => hk.elim) (fun _ _ => trivial) H42.out.pk b2 b2.size (by omega) ?_; intro v9 w9 ho hb hg hat; have b9 := hb; have H49 := Aside0.mk (L4.add H42.out (Kd.R_lower HR2.out b1.size) ho hb hg); clear ho hb hg hat)))
                            go_wp2_with fail
                            go_roundw
                            case rel => exact ⟨t + 2, j + 1, _, by simp, ⟨by have := HT.out; have := HI2.out; omega⟩, H49, ⟨by rw [List.map_append]; exact HPS2.out⟩⟩
                            case measure => simp [intOf]; have := HI2.out; omega
                          · have hb5 : decide ((t : Int) + 1 < (na : Int)) = false := by simp; omega
                            have hw5 : IntKind.i64.wrap ((t : Int) + 1) = (t : Int) + 1 := IntWalk.i64_in _ (by omega)
                            have HPS3 : Aside0 (ps.map Pk.abs = pairsL (levels (cs.map Pk.abs) k)) := ⟨by
                              rw [HPS.out, ← HY.out]
                              refine pairsL_end _ _ ?_
                              rw [List.length_map, ← HNA.out]
                              have := HT.out
                              omega⟩
                            obtain ⟨Ap, cp, ep⟩ := Kd.R_slice H4.out.pk
                            subst ep
                            obtain ⟨np, hnp⟩ : ∃ np, ps.length = np := ⟨_, rfl⟩
                            rw [hnp] at H4
                            rw [hnp]
                            have HNPS := Aside0.mk hnp
                            have hnp64 : np ≤ 576 := by rw [← hnp]; exact hpl
                            have b1 := below_alloc (Below.refl wr.heap.size wr) (.cells #[.slice (some ⟨g6, 0, none⟩) n n6, .slice Ap np cp] 106)
                            have HB1 := Aside0.mk b1
                            have hcc := Kd.R_reads' H3.out.co.ro
                            have hpc := Kd.R_reads' H4.out.pk
                            have HCP := Aside0.mk (concP_ok (W := wr.alloc (.cells #[.slice (some ⟨g6, 0, none⟩) n n6, .slice Ap np cp] 106)) (g := wr.heap.size) (A1 := some ⟨g6, 0, none⟩) (n1 := n) (c1 := n6) (A2 := Ap) (n2 := np) (c2 := cp) cs ps ((blk_cell (blk_new wr _) 0).trans rfl) ((blk_cell (blk_new wr _) 1).trans rfl) (Kd.C_below (by rw [HCN.out] at hcc; exact hcc.2.2) (H4.out.be.trans (b1.mono H4.out.be.size))) hcc.2.1 (Kd.C_below (by rw [hnp] at hpc; exact hpc.2.2) b1) hpc.2.1 (by omega) (by omega))
                            clear hlt hnp hpl hcc hpc b1 HPS
                            go_wp2_with (first | (go_at_call 67; refine HCP.out.mono ?_; rintro e w2 ⟨v2, rfl, hr2, hb2⟩; obtain ⟨g9, c9, e9⟩ := R_first hr2 (by rw [List.length_append, HCN.out]; have := HN2.out; omega); subst e9; obtain ⟨n9, hn9⟩ : ∃ z, (cs ++ ps).length = z := ⟨_, rfl⟩; have hn64 : n9 ≤ 1000000 := (by rw [← hn9, List.length_append, HCN.out, HNPS.out]; omega); have HN9 := Aside0.mk hn9; rw [hn9] at hr2; rw [hn9]; have HG9 := Aside0.mk (Kd.R_base hr2 g9 rfl); have HB2 := Aside0.mk hb2; have HSO := Aside0.mk (sort_ok (W := w2) (B := W.heap.size) (cs ++ ps) ⟨Fr.refl _ _, Kd.R_lower hr2 ((H3.out.co.be.trans ((H4.out.be.trans (HB1.out.mono H4.out.be.size)).mono H3.out.co.be.size)).size)⟩ hn64); clear hr2 hb2 hn9 hn64) | (go_at_call 65; refine HSO.out.mono ?_; rintro e w3 ⟨rfl, us, hs, hp, ho⟩; have H3N := Aside0.mk (H3.out.next (H4.out.below HB1.out) HB2.out HG9.out hs hp.pm); have HYN := Aside0.mk (show us.map Pk.abs = levels (cs.map Pk.abs) (k + 1) from by rw [sort_abs HN9.out.symm hp ho, List.map_append, HPS3.out]; rfl); clear hs hp ho))
                            go_roundw
                            case rel => exact ⟨k + 1, g9, n9, c9, us, by simp, rfl, HI.out, H3N, HYN⟩
                            case measure => simp [intOf]; have := HI.out; omega
                      · have hb4 : decide ((k : Int) < (mm : Int)) = false := by simp; omega
                        have hb4' : decide (k < mm) = false := by simp; omega
                        have hke : k = mm := by omega
                        subst hke
                        obtain ⟨nd, hnd⟩ : ∃ nd, 2 * n = nd := ⟨_, rfl⟩
                        obtain ⟨T, hT⟩ : ∃ T, nd - 2 = T := ⟨_, rfl⟩
                        have e1 : 2 * (n : Int) = (nd : Int) := by omega
                        have e2 : (nd : Int) - 2 = (T : Int) := by have := HN2.out; omega
                        have HTE := Aside0.mk (show 2 * n - 2 = T by omega)
                        have hTn : T ≤ na := by
                          have h1 := levels_ge (cs.map Pk.abs) (m := m) (by rw [List.length_map, HCN.out]; exact HNP.out) k (by have := HMM.out; omega)
                          rw [List.length_map, HCN.out, ← HY.out, List.length_map, ← hna, show m - k = 1 by have := HMM.out; omega] at h1
                          have := HN2.out
                          omega
                        have hTc : T ≤ ca := by have := (Kd.R_reads' H3.out.al).2.1; omega
                        have hT64 : T ≤ 576 := by omega
                        have hw7 : IntKind.i64.wrap ((nd : Nat) : Int) = (nd : Int) := IntWalk.i64_in _ (by omega)
                        have hw8 : IntKind.i64.wrap ((T : Nat) : Int) = (T : Int) := IntWalk.i64_in _ (by omega)
                        have r1 : (0 : Int) ≤ (T : Int) := by omega
                        have r2 : (T : Int) ≤ (ca : Int) := by omega
                        have r3 : decide ((T : Int) ≤ (ca : Int)) = true := by simp; omega
                        obtain ⟨g8, c8, e8⟩ := R_first H3.out.co.ou (by rw [List.length_replicate]; have := coinsF_le l 0; have := HCL.out; have := HN2.out; omega)
                        rw [List.length_replicate] at e8
                        subst e8
                        obtain rfl : g8 = b8 := by have h := HV.out.1; exact Option.some.inj h
                        have H5 := Aside0.mk H3.out.last
                        have HTA := Aside0.mk hTn
                        clear hnd hT hk hlt hna H3
                        go_upto_block 6 with (fail)
                        clear e1 e2 hw7 hw8 r1 r2 r3
                        go_wp2_with fail
                        go_loopw [133] (fun v133 wr => ∃ (j : Nat) (zs : List Int), v133 = .int .i64 j ∧ j ≤ T ∧ Aside0 (L5 W wr (.slice (some ⟨ga, 0, none⟩) na ca) (.slice (some ⟨g8, 0, none⟩) l.length c8) g8 ys zs) ∧ Aside0 (tally (List.replicate l.length 0) ((ys.map Pk.abs).take j) = zs) ∧ Aside0 (Bd zs (j * 16384))) (fun v133 _ => T - (intOf v133).toNat)
                        case atStart => exact ⟨0, _, rfl, Nat.zero_le _, H5, ⟨rfl⟩, ⟨Bd.zero _⟩⟩
                        case round =>
                          clear H5
                          obtain ⟨j, zs, rfl, hj, H5, HZS, HBD⟩ := hrel
                          by_cases hlt : j < T
                          · have hb5 : decide ((j : Int) < (T : Int)) = true := by simp; omega
                            have hjn : j < na := by omega
                            have hj64 : j ≤ 576 := by omega
                            obtain ⟨c0, c1⟩ := atP H5.out.al j hjn
                            obtain ⟨⟨x0, x1, x2, x3, x4⟩, hx⟩ : ∃ z, rdP ys j = z := ⟨_, rfl⟩
                            rw [hx] at c0 c1
                            simp only at c0 c1
                            have hx' : ys[j]'(by rw [← HNA.out]; exact hjn) = ⟨x0, x1, x2, x3, x4⟩ := by rw [← hx, rdP_get ys j (by rw [← HNA.out]; exact hjn)]
                            have hxm : (⟨x0, x1, x2, x3, x4⟩ : Pk) ∈ ys := by rw [← hx']; exact List.getElem_mem _
                            have HPX := Aside0.mk (HPB.out k (x0, x4) (by rw [← HY.out]; exact List.mem_map_of_mem (f := Pk.abs) hxm))
                            have hrx := (H5.out.pa _ hxm).reads
                            have hx2 : x2 = x4.length := hrx.1
                            have HRX := Aside0.mk (And.intro hx2 hxm)
                            have q1 : (0 : Int) ≤ (j : Int) := by omega
                            have q2 : (j : Int) < (T : Int) := by omega
                            have HI := Aside0.mk hlt
                            have HTJ := Aside0.mk (show (ys.map Pk.abs).take (j + 1) = (ys.map Pk.abs).take j ++ [(x0, x4)] from by
                              rw [List.take_succ_eq_append_getElem (by rw [List.length_map, ← HNA.out]; exact hjn), List.getElem_map, hx']
                              rfl)
                            clear hx hx' hxm hrx hx2 hlt
                            go_upto_region 33 with (fail)
                            have HL5 := Aside0.mk (H5.out.below (below_alloc (Below.refl wr.heap.size wr) (.cells #[.int .i64 x0, .slice x1 x2 x3] 108)))
                            have c2 : (wr.alloc (.cells #[.int .i64 x0, .slice x1 x2 x3] 108)).cell? ⟨wr.heap.size, 1, none⟩ = some (.slice x1 x2 x3) := (blk_cell (blk_new wr _) 1).trans rfl
                            obtain ⟨q, hq⟩ : ∃ q, wr.heap.size = q := ⟨_, rfl⟩
                            rw [hq] at c2 ⊢
                            clear hq c0 c1 H5
                            generalize wr.alloc (.cells #[.int .i64 x0, .slice x1 x2 x3] 108) = w9 at c2 HL5 ⊢
                            have hx264 : x2 ≤ 16384 := by
                              rw [HRX.out.1]
                              exact Nat.le_trans HPX.out.ole (Nat.pow_le_pow_right (n := 2) (by decide) (show k ≤ 14 by omega))
                            go_wp2_with fail
                            go_loopw [140] (fun v140 wr => ∃ (i : Nat) (us : List Int), v140 = .int .i64 i ∧ i ≤ x2 ∧ Aside0 (L5 W wr (.slice (some ⟨ga, 0, none⟩) na ca) (.slice (some ⟨g8, 0, none⟩) l.length c8) g8 ys us) ∧ Aside0 ((x4.take i).foldl bump zs = us) ∧ Aside0 (Bd us (j * 16384 + i))) (fun v140 _ => x2 - (intOf v140).toNat)
                            case atStart => exact ⟨0, zs, rfl, Nat.zero_le _, HL5, ⟨rfl⟩, HBD⟩
                            case round =>
                              clear HL5 c2
                              obtain ⟨i, us, rfl, hi, H5, HUS, HBU⟩ := hrel
                              by_cases hlt : i < x2
                              · have hb6 : decide ((i : Int) < (x2 : Int)) = true := by simp; omega
                                have hi64 : i ≤ 16384 := by omega
                                have hrx := (H5.out.pa _ HRX.out.2).reads
                                obtain ⟨ad1, hA1, y1⟩ := Kd.at_int hrx.2.2 (i : Int) (by omega) (by show (i : Int) < (x2 : Int); omega)
                                have hA2 : x1 = some ad1 := hA1
                                subst hA2
                                simp only [Int.toNat_natCast] at y1
                                have hil : i < x4.length := by rw [← HRX.out.1]; exact hlt
                                have hsr := HPX.out.rng (rd x4 (i : Int)) (by show _ ∈ x4; rw [rd_get x4 i hil]; exact List.getElem_mem _)
                                have HTK := Aside0.mk (take_rd x4 i hil)
                                obtain ⟨s0, hs0⟩ : ∃ s, rd x4 (i : Int) = s := ⟨_, rfl⟩
                                have y2 : wr.cell? (ad1.add i) = some (.int .i64 (rd x4 (i : Int))) := y1
                                rw [hs0] at hsr HTK y2
                                obtain ⟨s, rfl⟩ : ∃ s : Nat, s0 = s := ⟨s0.toNat, by omega⟩
                                have hsl : s < l.length := by omega
                                obtain ⟨y0, z0⟩ := Kd.R_celln 0 H5.out.ou (s : Int) (by omega) (by omega)
                                have hvb := HBU.out.at_ (s : Int)
                                obtain ⟨v, hv⟩ : ∃ v, rd us (s : Int) = v := ⟨_, rfl⟩
                                have y3 : wr.cell? ⟨g8, s, none⟩ = some (.int .i64 (rd us (s : Int))) := y0
                                have z3 : wr.frozen? ⟨g8, s, none⟩ = false := z0
                                have hput := Kd.R_putg H5.out.ou (s : Int) (v + 1)
                                simp only [Int.toNat_natCast] at hput
                                have HP := Aside0.mk (H5.out.set hput.1 hput.2)
                                have HUS2 : Aside0 ((x4.take (i + 1)).foldl bump zs = us.set s (v + 1)) := ⟨by
                                  rw [HTK.out, List.foldl_append, HUS.out]
                                  show us.set (s : Int).toNat (rd us (s : Int) + 1) = _
                                  rw [hv, Int.toNat_natCast]⟩
                                have HBU2 : Aside0 (Bd (us.set s (v + 1)) (j * 16384 + (i + 1))) := ⟨by
                                  have h := HBU.out.bump (s : Int)
                                  unfold bump at h
                                  rw [hv, Int.toNat_natCast] at h
                                  exact h⟩
                                rw [hv] at y3 hvb
                                have hv0 := hvb.1
                                have hv1 : v ≤ 10000000 := by
                                  have := hvb.2
                                  omega
                                have q1 : (0 : Int) ≤ (i : Int) := by omega
                                have q2 : (i : Int) < (x2 : Int) := by omega
                                have q3 : (0 : Int) ≤ (s : Int) := by omega
                                have q4 : (s : Int) < (l.length : Int) := by omega
                                have HI2 := Aside0.mk hlt
                                have hwv : IntKind.i64.wrap (v + 1) = v + 1 := IntWalk.i64_in _ (by omega)
                                clear hrx y1 hil hsr hs0 hsl y0 z0 hv hput hvb hlt hi H5
                                go_wp2_with fail
                                go_roundw
                                case rel => exact ⟨i + 1, _, by simp, HI2.out, HP, HUS2, HBU2⟩
                                case measure => simp [intOf]; have := HI2.out; omega
                              · have hie : i = x2 := by omega
                                subst hie
                                have hb6 : decide ((i : Int) < (i : Int)) = false := by simp
                                have HUS2 : Aside0 (tally (List.replicate l.length 0) ((ys.map Pk.abs).take (j + 1)) = us) := ⟨by
                                  have h1 := HUS.out
                                  rw [HRX.out.1, List.take_length] at h1
                                  rw [HTJ.out]
                                  unfold tally at HZS ⊢
                                  rw [List.foldl_append, HZS.out]
                                  exact h1⟩
                                have HBU2 : Aside0 (Bd us ((j + 1) * 16384)) := ⟨HBU.out.mono (by omega)⟩
                                clear hlt hi
                                go_wp2_with fail
                                go_roundw
                                case rel => exact ⟨j + 1, us, by simp, HI.out, H5, HUS2, HBU2⟩
                                case measure => simp [intOf]; have := HI.out; omega
                          · have hb5 : decide ((j : Int) < (T : Int)) = false := by simp; omega
                            have hje : j = T := by omega
                            subst hje
                            have HLL := Aside0.mk (show lensL l m = zs from by
                              have h1 : ¬ n = 1 := by have := HN2.out; omega
                              have h2 : ¬ n < 2 := by have := HN2.out; omega
                              unfold lensL
                              rw [HCL.out, if_neg h1, if_neg h2, HTE.out, ← HA2.out, show m - 1 = k by have := HMM.out; omega, ← HY.out]
                              exact HZS.out)
                            clear hlt hj
                            go_wp2_with fail
                            go_ret2
                            exact ⟨_, by rw [HO.out]; rfl, by rw [HO.out, if_pos rfl, Int.toNat_natCast, HLL.out]; exact H5.out.ou, H5.out.be⟩
end Go.Proofs.Ytaghmhcccighgaa.HF
end
section
/- How often a symbol stands in the first packs of a level, plain. -/
namespace Go.Proofs.Ytaghmhcccighgaa.HF
open Go.Proofs.YtaghmhcccighgaaW.PrintWords
def mrg : List PkA → List PkA → List PkA
  | [], B => B
  | x :: A, [] => x :: A
  | x :: A, y :: B => if x.1 ≤ y.1 then x :: mrg A (y :: B) else y :: mrg (x :: A) B
termination_by A B => A.length + B.length
theorem mrg_nil (B : List PkA) : mrg [] B = B := by rw [mrg]
theorem mrg_nil2 (A : List PkA) : mrg A [] = A := by cases A <;> rw [mrg]
theorem mrg_cons (x y : PkA) (A B : List PkA) : mrg (x :: A) (y :: B) = if x.1 ≤ y.1 then x :: mrg A (y :: B) else y :: mrg (x :: A) B := by rw [mrg]
theorem mrg_perm : ∀ (A B : List PkA), (mrg A B).Perm (A ++ B)
  | [], B => by rw [mrg_nil]; exact .refl _
  | x :: A, [] => by rw [mrg_nil2, List.append_nil]
  | x :: A, y :: B => by
    rw [mrg_cons]
    split
    · exact (mrg_perm A (y :: B)).cons x
    · exact ((mrg_perm (x :: A) B).cons y).trans List.perm_middle.symm
termination_by A B => A.length + B.length
theorem mrg_sorted : ∀ (A B : List PkA), A.Pairwise LeA → B.Pairwise LeA → (mrg A B).Pairwise LeA
  | [], B, _, h => by rw [mrg_nil]; exact h
  | x :: A, [], h, _ => by rw [mrg_nil2]; exact h
  | x :: A, y :: B, h1, h2 => by
    obtain ⟨a1, a2⟩ := List.pairwise_cons.1 h1
    obtain ⟨b1, b2⟩ := List.pairwise_cons.1 h2
    rw [mrg_cons]
    split
    · rename_i hxy
      refine List.pairwise_cons.2 ⟨fun z hz => ?_, mrg_sorted A (y :: B) a2 h2⟩
      rcases List.mem_append.1 ((mrg_perm A (y :: B)).mem_iff.1 hz) with hz | hz
      · exact a1 z hz
      · rcases List.mem_cons.1 hz with rfl | hz
        · exact hxy
        · exact Int.le_trans hxy (b1 z hz)
    · rename_i hxy
      have hyx : y.1 ≤ x.1 := by omega
      refine List.pairwise_cons.2 ⟨fun z hz => ?_, mrg_sorted (x :: A) B h1 b2⟩
      rcases List.mem_append.1 ((mrg_perm (x :: A) B).mem_iff.1 hz) with hz | hz
      · rcases List.mem_cons.1 hz with rfl | hz
        · exact hyx
        · exact Int.le_trans hyx (a1 z hz)
      · exact b1 z hz
termination_by A B => A.length + B.length
theorem mrg_fil (w : Int) : ∀ (A B : List PkA), A.Pairwise LeA → (mrg A B).filter (fun p => p.1 == w) = (A ++ B).filter (fun p => p.1 == w)
  | [], B, _ => by rw [mrg_nil]; rfl
  | x :: A, [], _ => by rw [mrg_nil2, List.append_nil]
  | x :: A, y :: B, h1 => by
    obtain ⟨a1, a2⟩ := List.pairwise_cons.1 h1
    rw [mrg_cons]
    split
    · rw [List.filter_cons, mrg_fil w A (y :: B) a2, List.cons_append, List.filter_cons]
    · rename_i hxy
      rw [List.filter_cons, mrg_fil w (x :: A) B h1, List.filter_append, List.filter_append]
      by_cases e : y.1 = w
      · have z : List.filter (fun p => p.1 == w) (x :: A) = [] := by
          rw [List.filter_eq_nil_iff]
          intro q hq
          simp only [beq_iff_eq]
          rcases List.mem_cons.1 hq with rfl | hq
          · omega
          · have : x.1 ≤ q.1 := a1 q hq
            omega
        rw [z, List.filter_cons]
        simp [e]
      · rw [List.filter_cons (x := y)]
        simp [e]
termination_by A B => A.length + B.length
theorem isort_mrg {A B : List PkA} (h1 : A.Pairwise LeA) (h2 : B.Pairwise LeA) : isort (A ++ B) = mrg A B :=
  sorted_uniq _ _ (isort_sorted _) (mrg_sorted A B h1 h2) (fun w => (isort_fil w _).trans (mrg_fil w A B h1).symm)
theorem mrg_take : ∀ (A B : List PkA) (t : Nat), t ≤ A.length + B.length → ∃ c p, c ≤ A.length ∧ p ≤ B.length ∧ c + p = t ∧ ((mrg A B).take t).Perm (A.take c ++ B.take p)
  | A, B, 0, _ => ⟨0, 0, Nat.zero_le _, Nat.zero_le _, rfl, by simp⟩
  | [], B, t + 1, h => ⟨0, t + 1, Nat.zero_le _, by simpa using h, by omega, by rw [mrg_nil]; simp⟩
  | x :: A, [], t + 1, h => ⟨t + 1, 0, by simpa using h, Nat.zero_le _, by omega, by rw [mrg_nil2]; simp⟩
  | x :: A, y :: B, t + 1, h => by
    rw [mrg_cons]
    split
    · obtain ⟨c, p, h1, h2, h3, h4⟩ := mrg_take A (y :: B) t (by simp at h ⊢; omega)
      exact ⟨c + 1, p, by simp; omega, h2, by omega, by rw [List.take_succ_cons, List.take_succ_cons]; exact h4.cons x⟩
    · obtain ⟨c, p, h1, h2, h3, h4⟩ := mrg_take (x :: A) B t (by simp at h ⊢; omega)
      exact ⟨c, p + 1, h1, by simp; omega, by omega, by rw [List.take_succ_cons, List.take_succ_cons]; exact (h4.cons y).trans List.perm_middle.symm⟩
termination_by A B => A.length + B.length
theorem pairs_sorted : ∀ (l : List PkA), l.Pairwise LeA → (pairsL l).Pairwise LeA
  | [], _ => List.Pairwise.nil
  | [_], _ => List.Pairwise.nil
  | x :: y :: r, h => by
    obtain ⟨a1, a2⟩ := List.pairwise_cons.1 h
    obtain ⟨b1, b2⟩ := List.pairwise_cons.1 a2
    unfold pairsL
    refine List.pairwise_cons.2 ⟨?_, pairs_sorted r b2⟩
    have key : ∀ (r : List PkA) (m1 m2 : Int), (∀ z ∈ r, m1 ≤ z.1) → (∀ z ∈ r, m2 ≤ z.1) → ∀ q ∈ pairsL r, m1 + m2 ≤ q.1 := by
      intro r
      induction r using pairsL.induct with
      | case1 u v r ih =>
        intro m1 m2 h1 h2 q hq
        unfold pairsL at hq
        rcases List.mem_cons.1 hq with rfl | hq
        · have k1 := h1 u (by simp)
          have k2 := h2 v (by simp)
          show m1 + m2 ≤ u.1 + v.1
          omega
        · exact ih m1 m2 (fun z hz => h1 z (by simp [hz])) (fun z hz => h2 z (by simp [hz])) q hq
      | case2 l hl =>
        intro m1 m2 h1 h2 q hq
        rw [pairsL] at hq
        · cases hq
        · exact hl
    intro q hq
    exact key r x.1 y.1 (fun z hz => a1 z (by simp [hz])) (fun z hz => b1 z hz) q hq
theorem pairs_take : ∀ (l : List PkA) (p : Nat), (pairsL l).take p = pairsL (l.take (2 * p))
  | [], _ => by simp [pairsL]
  | [x], 0 => by simp [pairsL]
  | [x], p + 1 => by
    have e2 : [x].take (2 * (p + 1)) = [x] := by rw [show 2 * (p + 1) = 2 * p + 1 + 1 by omega]; rfl
    rw [e2]
    simp [pairsL]
  | x :: y :: r, 0 => by simp [pairsL]
  | x :: y :: r, p + 1 => by
    have e2 : (x :: y :: r).take (2 * (p + 1)) = x :: y :: r.take (2 * p) := by rw [show 2 * (p + 1) = 2 * p + 1 + 1 by omega]; rfl
    rw [e2]
    simp only [pairsL, List.take_succ_cons, pairs_take r p]
def symsL (l : List PkA) : List Int := l.flatMap Prod.snd
theorem syms_app (a b : List PkA) : symsL (a ++ b) = symsL a ++ symsL b := by unfold symsL; rw [List.flatMap_append]
theorem syms_cons (a : PkA) (b : List PkA) : symsL (a :: b) = a.2 ++ symsL b := by unfold symsL; rw [List.flatMap_cons]
theorem syms_pairs : ∀ (l : List PkA), l.length % 2 = 0 → symsL (pairsL l) = symsL l
  | [], _ => rfl
  | [_], h => by simp at h
  | x :: y :: r, h => by
    unfold pairsL
    rw [syms_cons, syms_cons, syms_cons, syms_pairs r (by simp at h; omega), List.append_assoc]
theorem syms_perm {a b : List PkA} (h : a.Perm b) : (symsL a).Perm (symsL b) := h.flatMap_right _
theorem levels_sorted {SC : List PkA} (h : SC.Pairwise LeA) : ∀ k, (levels SC k).Pairwise LeA
  | 0 => h
  | _ + 1 => isort_sorted _
theorem coin_mem : ∀ (l : List Int) (i : Int) (p : PkA), p ∈ coinsF i l → ∃ j : Nat, ∃ h : j < l.length, 0 < l[j] ∧ p = (l[j], [i + j])
  | [], _, _, h => by cases h
  | f :: r, i, p, h => by
    unfold coinsF at h
    have go : p ∈ coinsF (i + 1) r → ∃ j : Nat, ∃ h : j < (f :: r).length, 0 < (f :: r)[j] ∧ p = ((f :: r)[j], [i + j]) := fun hp => by
      obtain ⟨j, hj, h1, h2⟩ := coin_mem r (i + 1) p hp
      refine ⟨j + 1, by simp; omega, by simpa using h1, ?_⟩
      rw [h2]
      simp
      omega
    split at h
    · rename_i hf
      rcases List.mem_cons.1 h with rfl | h
      · exact ⟨0, by simp, by simpa using hf, by simp⟩
      · exact go h
    · exact go h
theorem mem_coin : ∀ (l : List Int) (i : Int) (j : Nat) (h : j < l.length), 0 < l[j] → (l[j], [i + (j : Int)]) ∈ coinsF i l
  | [], _, _, h, _ => by simp at h
  | f :: r, i, 0, h, h1 => by
    unfold coinsF
    have : 0 < f := by simpa using h1
    rw [if_pos this]
    simp
  | f :: r, i, j + 1, h, h1 => by
    have ih := mem_coin r (i + 1) j (by simp at h; omega) (by simpa using h1)
    have e : i + 1 + (j : Int) = i + ((j + 1 : Nat) : Int) := by omega
    rw [e] at ih
    unfold coinsF
    split
    · exact List.mem_cons_of_mem _ (by simpa using ih)
    · simpa using ih
theorem coins_nodup : ∀ (l : List Int) (i : Int), (symsL (coinsF i l)).Nodup ∧ ∀ s ∈ symsL (coinsF i l), i ≤ s
  | [], _ => ⟨List.nodup_nil, (fun s hs => by cases hs)⟩
  | f :: r, i => by
    obtain ⟨h1, h2⟩ := coins_nodup r (i + 1)
    unfold coinsF
    split
    · rw [syms_cons]
      refine ⟨?_, fun s hs => ?_⟩
      · show (i :: symsL (coinsF (i + 1) r)).Nodup
        exact List.nodup_cons.2 ⟨fun hm => by have := h2 i hm; omega, h1⟩
      · rcases List.mem_append.1 hs with hs | hs
        · rw [List.mem_singleton.1 hs]; exact Int.le_refl _
        · have := h2 s hs; omega
    · exact ⟨h1, fun s hs => by have := h2 s hs; omega⟩
/-- How often a symbol stands in the coins' prefixes. -/
def depth (SC : List PkA) (cs : List Nat) (s : Int) : Nat := (cs.flatMap fun c => symsL (SC.take c)).count s
theorem depth_cons (SC : List PkA) (c : Nat) (cs : List Nat) (s : Int) : depth SC (c :: cs) s = (symsL (SC.take c)).count s + depth SC cs s := by
  unfold depth
  rw [List.flatMap_cons, List.count_append]
theorem tally_eq (o : List Int) : ∀ ps : List PkA, tally o ps = (symsL ps).foldl bump o := by
  intro ps
  induction ps generalizing o with
  | nil => rfl
  | cons p ps ih =>
    rw [syms_cons, List.foldl_append]
    exact ih _
theorem bumps_rd : ∀ (is o : List Int) (s : Nat), s < o.length → (∀ i ∈ is, 0 ≤ i ∧ i < o.length) → rd (is.foldl bump o) (s : Int) = rd o (s : Int) + (is.count (s : Int) : Int)
  | [], o, s, _, _ => by simp
  | i :: is, o, s, hs, h => by
    have hi := h i (by simp)
    rw [List.foldl_cons, bumps_rd is (bump o i) s (by rw [bump_len]; exact hs) (fun j hj => by rw [bump_len]; exact h j (by simp [hj])), List.count_cons]
    unfold bump rd
    rw [Int.toNat_natCast, List.getD_eq_getElem?_getD, List.getElem?_set, List.getD_eq_getElem?_getD (l := o) (i := s)]
    by_cases e : i.toNat = s
    · have e2 : i = (s : Int) := by omega
      subst e2
      simp [hs]
      omega
    · have e2 : ¬ i = (s : Int) := by omega
      simp [e, e2]
theorem syms_take (L : List PkA) (c : Nat) : (symsL (L.take c)).Sublist (symsL L) := by
  have h := syms_app (L.take c) (L.drop c)
  rw [List.take_append_drop] at h
  rw [h]
  exact List.sublist_append_left _ _
theorem depth_le {l : List Int} (cs : List Nat) (s : Int) : depth (isort (coinsF 0 l)) cs s ≤ cs.length := by
  induction cs with
  | nil => exact Nat.le_refl _
  | cons c cs ih =>
    rw [depth_cons]
    have nd : (symsL (isort (coinsF 0 l))).Nodup := (syms_perm (isort_perm _)).nodup_iff.2 (coins_nodup l 0).1
    have nd2 : (symsL ((isort (coinsF 0 l)).take c)).Nodup := nd.sublist (syms_take _ c)
    have := List.nodup_iff_count.1 nd2 s
    simp only [List.length_cons]
    omega
end Go.Proofs.Ytaghmhcccighgaa.HF
end
section
/- The first packs of each level: nested prefixes of the coins, their weights, their shares; plain. -/
namespace Go.Proofs.Ytaghmhcccighgaa.HF
open Go.Proofs.YtaghmhcccighgaaW.PrintWords
theorem mrg_take2 (A B : List PkA) (t : Nat) (ht : t ≤ A.length + B.length) : ∃ c p, c ≤ A.length ∧ p ≤ B.length ∧ c + p = t ∧ ((mrg A B).take t).Perm (A.take c ++ B.take p) ∧ ((mrg A B).drop t).Perm (A.drop c ++ B.drop p) := by
  obtain ⟨c, p, h1, h2, h3, h4⟩ := mrg_take A B t ht
  refine ⟨c, p, h1, h2, h3, h4, ?_⟩
  have a1 : ((mrg A B).take t ++ (mrg A B).drop t).Perm (A ++ B) := by rw [List.take_append_drop]; exact mrg_perm A B
  have a2 : (A ++ B).Perm ((A.take c ++ B.take p) ++ (A.drop c ++ B.drop p)) := by
    have e1 : A ++ B = (A.take c ++ A.drop c) ++ (B.take p ++ B.drop p) := by rw [List.take_append_drop, List.take_append_drop]
    rw [e1, List.append_assoc, List.append_assoc]
    refine List.Perm.append_left _ ?_
    rw [← List.append_assoc, ← List.append_assoc]
    exact List.Perm.append_right _ List.perm_append_comm
  exact (List.perm_append_left_iff _).1 ((h4.symm.append_right _).trans (a1.trans a2))
def sumW (l : List PkA) : Int := (l.map Prod.fst).sum
theorem sumW_app (a b : List PkA) : sumW (a ++ b) = sumW a + sumW b := by unfold sumW; rw [List.map_append, List.sum_append]
theorem sumW_cons (a : PkA) (b : List PkA) : sumW (a :: b) = a.1 + sumW b := by unfold sumW; rw [List.map_cons, List.sum_cons]
theorem sumW_perm {a b : List PkA} (h : a.Perm b) : sumW a = sumW b := by
  induction h with
  | nil => rfl
  | cons x _ ih => rw [sumW_cons, sumW_cons, ih]
  | swap x y l => rw [sumW_cons, sumW_cons, sumW_cons, sumW_cons]; omega
  | trans _ _ ih1 ih2 => exact ih1.trans ih2
theorem sumW_pairs : ∀ (l : List PkA), l.length % 2 = 0 → sumW (pairsL l) = sumW l
  | [], _ => rfl
  | [_], h => by simp at h
  | x :: y :: r, h => by
    unfold pairsL
    rw [sumW_cons, sumW_cons, sumW_cons, sumW_pairs r (by simp at h; omega)]
    simp only
    omega
/-- A pack weighs more than each of its two parts. -/
theorem in_pair : ∀ (l : List PkA), l.length % 2 = 0 → (∀ p ∈ l, 0 < p.1) → ∀ z ∈ l, ∃ q ∈ pairsL l, z.1 < q.1
  | [], _, _ => fun z hz => by cases hz
  | [_], h, _ => by simp at h
  | x :: y :: r, h, hp => fun z hz => by
    have hx := hp x (by simp)
    have hy := hp y (by simp)
    unfold pairsL
    rcases List.mem_cons.1 hz with rfl | hz
    · exact ⟨_, List.mem_cons_self, by show z.1 < z.1 + y.1; omega⟩
    · rcases List.mem_cons.1 hz with rfl | hz
      · exact ⟨_, List.mem_cons_self, by show z.1 < x.1 + z.1; omega⟩
      · obtain ⟨q, q1, q2⟩ := in_pair r (by simp at h; omega) (fun p hp' => hp p (by simp [hp'])) z hz
        exact ⟨q, List.mem_cons_of_mem _ q1, q2⟩
theorem pairs_pos : ∀ (l : List PkA), (∀ p ∈ l, 0 < p.1) → ∀ p ∈ pairsL l, 0 < p.1
  | [], _ => fun p hp => by cases hp
  | [_], _ => fun p hp => by cases hp
  | x :: y :: r, h => fun p hp => by
    unfold pairsL at hp
    rcases List.mem_cons.1 hp with rfl | hp
    · have := h x (by simp)
      have := h y (by simp)
      show 0 < x.1 + y.1
      omega
    · exact pairs_pos r (fun q hq => h q (by simp [hq])) p hp
theorem levels_pos {SC : List PkA} (h : ∀ p ∈ SC, 0 < p.1) : ∀ k, ∀ p ∈ levels SC k, 0 < p.1
  | 0 => h
  | k + 1 => fun p hp => by
    rcases List.mem_append.1 ((isort_perm _).mem_iff.1 hp) with hp | hp
    · exact h p hp
    · exact pairs_pos _ (levels_pos h k) p hp
theorem levels_lt {SC : List PkA} (h : 0 < SC.length) : ∀ k, (levels SC k).length ≤ 2 * SC.length - 1
  | 0 => by show SC.length ≤ _; omega
  | k + 1 => by have := levels_lt h k; rw [levels_len]; omega
/-- The share of prefixes, the top one first. -/
def kr : List Nat → Nat
  | [] => 0
  | c :: cs => c * 2 ^ cs.length + kr cs
structure Chain (SC : List PkA) (k t c : Nat) (cs : List Nat) : Prop where
  len : cs.length = k
  le : ∀ x ∈ c :: cs, x ≤ SC.length
  sy : (symsL ((levels SC k).take t)).Perm ((c :: cs).flatMap fun c => symsL (SC.take c))
  wt : sumW ((levels SC k).take t) = ((c :: cs).map fun c => sumW (SC.take c)).sum
  ne : (c :: cs).Pairwise (fun a b => b ≤ a)
  kr_ : kr (c :: cs) = t * 2 ^ k
  mem : ∀ q ∈ SC.take c, q ∈ (levels SC k).take t
  top : 2 ≤ SC.length → t = 2 * SC.length - 2 → c = SC.length
theorem chain {SC : List PkA} (h : SC.Pairwise LeA) (hp : ∀ p ∈ SC, 0 < p.1) : ∀ (k t : Nat), t ≤ (levels SC k).length → ∃ c cs, Chain SC k t c cs
  | 0, t, ht => ⟨t, [], rfl, (fun c hc => by rw [List.mem_singleton.1 hc]; exact ht), by simp [levels], by simp [levels], List.pairwise_singleton _ _, by simp [kr], fun q hq => hq, fun h1 h2 => by have : t ≤ SC.length := ht; omega⟩
  | k + 1, t, ht => by
    have hs := levels_sorted h k
    have e : levels SC (k + 1) = mrg SC (pairsL (levels SC k)) := isort_mrg h (pairs_sorted _ hs)
    have hsm := mrg_sorted SC _ h (pairs_sorted _ hs)
    have ht2 := ht
    rw [e, (mrg_perm _ _).length_eq, List.length_append] at ht2
    obtain ⟨c, p, h1, h2, h3, h4, h5⟩ := mrg_take2 SC (pairsL (levels SC k)) t ht2
    rw [pairsL_len] at h2
    obtain ⟨c', cs, C⟩ := chain h hp k (2 * p) (by omega)
    have hc : c' ≤ c := by
      by_cases hlt : c' ≤ c
      · exact hlt
      · exfalso
        have hcl : c < SC.length := by have := C.le c' (by simp); omega
        have hz : SC[c] ∈ SC.take c' := List.mem_iff_getElem.2 ⟨c, by rw [List.length_take]; omega, by rw [List.getElem_take]⟩
        obtain ⟨q, q1, q2⟩ := in_pair ((levels SC k).take (2 * p)) (by rw [List.length_take]; omega) (fun z hz => levels_pos hp k z (List.mem_of_mem_take hz)) SC[c] (C.mem _ hz)
        rw [← pairs_take] at q1
        have k1 : q ∈ (mrg SC (pairsL (levels SC k))).take t := h4.symm.mem_iff.1 (List.mem_append.2 (Or.inr q1))
        have k2 : SC[c] ∈ (mrg SC (pairsL (levels SC k))).drop t := h5.symm.mem_iff.1 (List.mem_append.2 (Or.inl (List.mem_iff_getElem.2 ⟨0, by rw [List.length_drop]; omega, by rw [List.getElem_drop]; rfl⟩)))
        have hss := hsm
        rw [← List.take_append_drop t (mrg SC (pairsL (levels SC k)))] at hss
        have := (List.pairwise_append.1 hss).2.2 q k1 _ k2
        unfold LeA at this
        omega
    refine ⟨c, c' :: cs, ?_⟩
    refine ⟨by simp [C.len], fun x hx => ?_, ?_, ?_, ?_, ?_, ?_, fun g1 g2 => ?_⟩
    · rcases List.mem_cons.1 hx with rfl | hx
      · exact h1
      · exact C.le x hx
    · rw [e]
      refine (syms_perm h4).trans ?_
      rw [syms_app, pairs_take, syms_pairs _ (by rw [List.length_take]; omega), List.flatMap_cons]
      exact List.Perm.append_left _ C.sy
    · rw [e, sumW_perm h4, sumW_app, pairs_take, sumW_pairs _ (by rw [List.length_take]; omega), C.wt, List.map_cons (l := c' :: cs), List.sum_cons]
    · refine List.pairwise_cons.2 ⟨fun x hx => ?_, C.ne⟩
      rcases List.mem_cons.1 hx with rfl | hx
      · exact hc
      · exact Nat.le_trans ((List.pairwise_cons.1 C.ne).1 x hx) hc
    · show c * 2 ^ (c' :: cs).length + kr (c' :: cs) = t * 2 ^ (k + 1)
      rw [C.kr_, List.length_cons, C.len, ← h3, Nat.add_mul, Nat.pow_succ]
      congr 1
      rw [Nat.mul_comm 2 p, Nat.mul_assoc, Nat.mul_comm 2]
    · intro q hq
      rw [e]
      exact h4.symm.mem_iff.1 (List.mem_append.2 (Or.inl hq))
    · have hlt := levels_lt (SC := SC) (by omega) k
      by_cases g3 : c = SC.length
      · exact g3
      · have hpn : p = SC.length - 1 := by omega
        have := C.top g1 (by omega)
        omega
end Go.Proofs.Ytaghmhcccighgaa.HF
end
section
/- The lengths' shares are whole, their cost is the first packs' weight: plain. -/
namespace Go.Proofs.Ytaghmhcccighgaa.HF
open Go.Proofs.YtaghmhcccighgaaW.PrintWords
def sig (p : PkA) : Int := p.2.headD 0
def sumG (g : Int → Int → Int) (l : List PkA) : Int := (l.map fun p => g p.1 (sig p)).sum
theorem sumG_nil (g : Int → Int → Int) : sumG g [] = 0 := rfl
theorem sumG_cons (g : Int → Int → Int) (p : PkA) (l : List PkA) : sumG g (p :: l) = g p.1 (sig p) + sumG g l := by unfold sumG; rw [List.map_cons, List.sum_cons]
theorem sumG_app (g : Int → Int → Int) (a b : List PkA) : sumG g (a ++ b) = sumG g a + sumG g b := by unfold sumG; rw [List.map_append, List.sum_append]
theorem sumG_perm (g : Int → Int → Int) {a b : List PkA} (h : a.Perm b) : sumG g a = sumG g b := by
  induction h with
  | nil => rfl
  | cons x _ ih => rw [sumG_cons, sumG_cons, ih]
  | swap x y l => rw [sumG_cons, sumG_cons, sumG_cons, sumG_cons]; omega
  | trans _ _ ih1 ih2 => exact ih1.trans ih2
theorem sumG_congr {g g' : Int → Int → Int} {l : List PkA} (h : ∀ p ∈ l, g p.1 (sig p) = g' p.1 (sig p)) : sumG g l = sumG g' l := by
  unfold sumG
  rw [List.map_congr_left h]
theorem sumG_const (x : Int) (l : List PkA) : sumG (fun _ _ => x) l = l.length * x := by
  induction l with
  | nil => simp [sumG]
  | cons p l ih => rw [sumG_cons, ih, List.length_cons]; simp only [Int.natCast_succ, Int.add_mul, Int.one_mul]; omega
/-- Each coin bears one symbol, no two the same. -/
structure Coins (SC : List PkA) : Prop where
  one : ∀ p ∈ SC, ∃ s, p.2 = [s]
  nd : (symsL SC).Nodup
theorem coin_single (l : List Int) (i : Int) (p : PkA) (h : p ∈ coinsF i l) : ∃ s, p.2 = [s] := by
  obtain ⟨j, _, _, rfl⟩ := coin_mem l i p h
  exact ⟨_, rfl⟩
theorem Coins.of (l : List Int) : Coins (isort (coinsF 0 l)) :=
  ⟨fun p hp => coin_single l 0 p ((isort_perm _).mem_iff.1 hp), (syms_perm (isort_perm _)).nodup_iff.2 (coins_nodup l 0).1⟩
theorem Coins.in_ {SC : List PkA} (h : Coins SC) {c : Nat} {p : PkA} (hp : p ∈ SC.take c) : (symsL (SC.take c)).count (sig p) = 1 := by
  obtain ⟨s, hs⟩ := h.one p (List.mem_of_mem_take hp)
  have e : sig p = s := by unfold sig; rw [hs]; rfl
  rw [e]
  have nd := h.nd.sublist (syms_take SC c)
  have m : s ∈ symsL (SC.take c) := List.mem_flatMap.2 ⟨p, hp, by rw [hs]; exact List.mem_singleton_self _⟩
  have c1 := List.nodup_iff_count.1 nd s
  have c2 := List.count_pos_iff.2 m
  omega
theorem Coins.out {SC : List PkA} (h : Coins SC) {c c' : Nat} (hc : c' ≤ c) {p : PkA} (hp : p ∈ SC.drop c) : (symsL (SC.take c')).count (sig p) = 0 := by
  obtain ⟨s, hs⟩ := h.one p (List.mem_of_mem_drop hp)
  have e : sig p = s := by unfold sig; rw [hs]; rfl
  rw [e]
  refine List.count_eq_zero.2 fun hm => ?_
  obtain ⟨q, q1, q2⟩ := List.mem_flatMap.1 hm
  have q3 : q ∈ SC.take c := by
    have : SC.take c' = (SC.take c).take c' := by rw [List.take_take, Nat.min_eq_left hc]
    rw [this] at q1
    exact List.mem_of_mem_take q1
  have nd := h.nd
  have e2 := syms_app (SC.take c) (SC.drop c)
  rw [List.take_append_drop] at e2
  rw [e2, List.nodup_append] at nd
  exact nd.2.2 s (List.mem_flatMap.2 ⟨q, q3, q2⟩) s (List.mem_flatMap.2 ⟨p, hp, by rw [hs]; exact List.mem_singleton_self _⟩) rfl
theorem depth_nil (SC : List PkA) (s : Int) : depth SC [] s = 0 := rfl
theorem depth_out {SC : List PkA} (h : Coins SC) {c : Nat} {p : PkA} (hp : p ∈ SC.drop c) : ∀ cs : List Nat, (∀ x ∈ cs, x ≤ c) → depth SC cs (sig p) = 0
  | [], _ => rfl
  | x :: cs, hx => by rw [depth_cons, h.out (hx x (by simp)) hp, depth_out h hp cs (fun y hy => hx y (by simp [hy]))]
/-- The weight of all, so often as they stand. -/
theorem cost_sum {SC : List PkA} (h : Coins SC) : ∀ D : List Nat, sumG (fun f s => f * (depth SC D s : Int)) SC = (D.map fun c => sumW (SC.take c)).sum
  | [] => by
    rw [List.map_nil, List.sum_nil]
    have := sumG_congr (g := fun f s => f * (depth SC [] s : Int)) (g' := fun _ _ => 0) (l := SC) (fun p _ => by simp [depth_nil])
    rw [this, sumG_const, Int.mul_zero]
  | c :: cs => by
    have ih := cost_sum h cs
    rw [List.map_cons, List.sum_cons, ← ih]
    have e1 : sumG (fun f s => f * (depth SC (c :: cs) s : Int)) SC = sumG (fun f s => f * ((symsL (SC.take c)).count s : Int)) SC + sumG (fun f s => f * (depth SC cs s : Int)) SC := by
      generalize hX : symsL (SC.take c) = X
      have : ∀ L : List PkA, sumG (fun f s => f * (depth SC (c :: cs) s : Int)) L = sumG (fun f s => f * (X.count s : Int)) L + sumG (fun f s => f * (depth SC cs s : Int)) L := by
        intro L
        induction L with
        | nil => rfl
        | cons p L ih2 =>
          rw [sumG_cons, sumG_cons, sumG_cons, ih2, depth_cons, hX]
          simp only [Int.natCast_add, Int.mul_add]
          omega
      exact this SC
    rw [e1]
    congr 1
    have e2 : sumG (fun f s => f * ((symsL (SC.take c)).count s : Int)) (SC.take c ++ SC.drop c) = sumW (SC.take c) := by
      rw [sumG_app, sumG_congr (l := SC.take c) (g' := fun f _ => f) (fun p hp => by rw [h.in_ hp]; omega), sumG_congr (l := SC.drop c) (g' := fun _ _ => 0) (fun p hp => by rw [h.out (Nat.le_refl c) hp]; omega), sumG_const, Int.mul_zero, Int.add_zero]
      rfl
    rw [List.take_append_drop] at e2
    exact e2
/-- The shares of nested prefixes. -/
theorem kraft_sum {SC : List PkA} (h : Coins SC) : ∀ D : List Nat, D.Pairwise (fun a b => b ≤ a) → (∀ x ∈ D, x ≤ SC.length) → sumG (fun _ s => ((2 ^ (D.length - depth SC D s) : Nat) : Int)) SC + (kr D : Int) = ((SC.length * 2 ^ D.length : Nat) : Int)
  | [], _, _ => by
    have := sumG_congr (g := fun _ s => ((2 ^ (([] : List Nat).length - depth SC [] s) : Nat) : Int)) (g' := fun _ _ => 1) (l := SC) (fun p _ => by simp [depth_nil])
    rw [this, sumG_const]
    simp [kr]
  | c :: cs, hn, hl => by
    obtain ⟨n1, n2⟩ := List.pairwise_cons.1 hn
    have ih := kraft_sum h cs n2 (fun x hx => hl x (by simp [hx]))
    have hc := hl c (by simp)
    have key : sumG (fun _ s => ((2 ^ ((c :: cs).length - depth SC (c :: cs) s) : Nat) : Int)) SC = sumG (fun _ s => ((2 ^ (cs.length - depth SC cs s) : Nat) : Int)) SC + ((SC.length - c : Nat) : Int) * ((2 ^ cs.length : Nat) : Int) := by
      have d1 : sumG (fun _ s => ((2 ^ ((c :: cs).length - depth SC (c :: cs) s) : Nat) : Int)) (SC.take c ++ SC.drop c) = sumG (fun _ s => ((2 ^ (cs.length - depth SC cs s) : Nat) : Int)) (SC.take c) + ((SC.length - c : Nat) : Int) * ((2 * 2 ^ cs.length : Nat) : Int) := by
        rw [sumG_app, sumG_congr (l := SC.take c) (g' := fun _ s => ((2 ^ (cs.length - depth SC cs s) : Nat) : Int)) (fun p hp => by
            rw [depth_cons, h.in_ hp, List.length_cons, show cs.length + 1 - (1 + depth SC cs (sig p)) = cs.length - depth SC cs (sig p) by omega]),
          sumG_congr (l := SC.drop c) (g' := fun _ _ => ((2 * 2 ^ cs.length : Nat) : Int)) (fun p hp => by
            rw [depth_out h hp (c :: cs) (fun x hx => by
              rcases List.mem_cons.1 hx with rfl | hx
              · exact Nat.le_refl _
              · exact n1 x hx), List.length_cons, Nat.sub_zero, Nat.pow_succ, Nat.mul_comm]), sumG_const, List.length_drop]
      have d2 : sumG (fun _ s => ((2 ^ (cs.length - depth SC cs s) : Nat) : Int)) (SC.take c ++ SC.drop c) = sumG (fun _ s => ((2 ^ (cs.length - depth SC cs s) : Nat) : Int)) (SC.take c) + ((SC.length - c : Nat) : Int) * ((2 ^ cs.length : Nat) : Int) := by
        rw [sumG_app, sumG_congr (l := SC.drop c) (g' := fun _ _ => ((2 ^ cs.length : Nat) : Int)) (fun p hp => by
            rw [depth_out h hp cs n1, Nat.sub_zero]), sumG_const, List.length_drop]
      rw [List.take_append_drop] at d1 d2
      rw [d1, d2]
      generalize 2 ^ cs.length = y
      rw [Int.natCast_mul, show ((SC.length - c : Nat) : Int) * (((2 : Nat) : Int) * (y : Int)) = ((SC.length - c : Nat) : Int) * (y : Int) + ((SC.length - c : Nat) : Int) * (y : Int) by
        rw [← Int.mul_assoc, Int.mul_comm _ ((2 : Nat) : Int), Int.mul_assoc]; omega]
      omega
    rw [key]
    show _ + ((c * 2 ^ cs.length + kr cs : Nat) : Int) = ((SC.length * 2 ^ (cs.length + 1) : Nat) : Int)
    have e3 : SC.length * 2 ^ (cs.length + 1) = SC.length * 2 ^ cs.length + SC.length * 2 ^ cs.length := by rw [Nat.pow_succ, ← Nat.mul_assoc, Nat.mul_two]
    have e4 : (SC.length - c) * 2 ^ cs.length + c * 2 ^ cs.length = SC.length * 2 ^ cs.length := by rw [← Nat.add_mul, Nat.sub_add_cancel hc]
    rw [e3]
    rw [← Int.natCast_mul]
    omega
end Go.Proofs.Ytaghmhcccighgaa.HF
end
