/- inflate's copies: walked. (printed by mkinf7.py) inflate's packed, block: walked. -/
import Derived.Test.YteffjbjhkaobfaaGD
namespace Go.Proofs.Yteffjbjhkaobfaa.HI
open Go.RowKit Go.Proofs.YteffjbjhkaobfaaW.PrintWords Go.Proofs.YteffjbjhkaobfaaW.PrintLast Go.Proofs.YteffjbjhkaobfaaW.PrintMore Go.Proofs.Yteffjbjhkaobfaa.HW Go.Proofs.Yteffjbjhkaobfaa.MB Go.Proofs.Yteffjbjhkaobfaa.Fn Go.Proofs.Yteffjbjhkaobfaa.HF Go.Proofs.Yteffjbjhkaobfaa.RT Go.Proofs.Yteffjbjhkaobfaa.RT.Rd
attribute [local go_sem] max2_int min2_int max_two min_two max_three min_three max_four min_four   -- for this text's walks alone
theorem copyN_succ (far : Nat) : ∀ (n : Nat) (out : List Int), copyN far (n + 1) out = copyN far n out ++ [(copyN far n out).getD ((copyN far n out).length - far) 0]
  | 0, _ => rfl
  | n + 1, out => copyN_succ far n (out ++ [out.getD (out.length - far) 0])
theorem copyN_len (far : Nat) : ∀ (n : Nat) (out : List Int), (copyN far n out).length = out.length + n
  | 0, out => rfl
  | n + 1, out => by
    show (copyN far n (out ++ [out.getD (out.length - far) 0])).length = _
    rw [copyN_len far n, List.length_append, List.length_singleton]
    omega
theorem DistIs.keepX {W W' : World} {B x g Bd : Nat} {ov d : Value} {s : ByteArray} {a most : Nat} {out : List Int} {o : Option (List Int)} (hd : DistIs W Bd d o) (hx : IsX W B x g ov s a most out) (hf : Fr (XS x g ov) W W') : DistIs W' Bd d o := by
  cases o with
  | none => exact hd
  | some l =>
    obtain ⟨h1, h2, h3, t, lv, wv, sv, h4, h5⟩ := hd
    exact ⟨h1, h2, h3, t, lv, wv, sv, h4, IsTab.keepX h5 hx hf⟩
theorem lenS (k : Nat) (h1 : 256 < k) (h2 : k < 286) : ∃ r1 r2 : Int, inflate_spread.f ((k : Int) - 257) 4 3 = some (r1, r2) ∧ (k ≠ 285 → r1 = (lenB k).1 ∧ r2 = (lenB k).2) := by
  by_cases h : k = 285
  · subst h
    exact ⟨259, 6, spread_28, fun h => (h rfl).elim⟩
  · obtain ⟨q, rfl⟩ : ∃ q, k = 257 + q := ⟨k - 257, by omega⟩
    have := spread_len q (by omega)
    rw [show ((257 + q : Nat) : Int) - 257 = (q : Int) by omega]
    exact ⟨_, _, this, fun _ => ⟨rfl, rfl⟩⟩
theorem lenK (k : Nat) (h1 : 256 < k) (h2 : k < 286) : (lenB k).1 ≤ 258 ∧ 3 ≤ (lenB k).1 ∧ (lenB k).2 ≤ 5 := by
  obtain ⟨q, rfl⟩ : ∃ q, k = 257 + q := ⟨k - 257, by omega⟩
  exact lenB_le q (by omega)
/-- A copy under way. -/
structure CpS (W w : World) (B x g : Nat) (ov : Value) (s : ByteArray) (most a1 : Nat) (ov1 : Value) (o1 : List Int) : Prop where
  ix : IsX w B x g ov1 s a1 most o1
  fr : Fr (XS x g ov) W w
  atb : AtB W ov ov1
theorem CpS.grow {W w w1 : World} {B x g : Nat} {ov : Value} {s : ByteArray} {most a1 : Nat} {ov1 v1 : Value} {o1 zs : List Int} (h : CpS W w B x g ov s most a1 ov1 o1) (ho : Kd.R (Kd.int .u8) 5 w1 B (fun _ => True) v1 zs) (hg : w.grownBy w1 ov1.ownBlock) (hat : v1.ownBlock = ov1.ownBlock ∨ ∃ b, v1.ownBlock = some b ∧ w.heap.size ≤ b) (hz : zs.length ≤ most) :
    CpS W (w1.setCell ⟨x, 2, none⟩ v1) B x g ov s most a1 v1 zs := by
  obtain ⟨h1, h2, h3⟩ := h.ix.grow ho hg hat hz
  exact ⟨h1, XS_then h.fr h2 h.atb, AtB.trans h.atb h3 h.fr.size⟩
theorem CpS.below {W w w1 : World} {B x g : Nat} {ov : Value} {s : ByteArray} {most a1 : Nat} {ov1 : Value} {o1 : List Int} (h : CpS W w B x g ov s most a1 ov1 o1) (hb : Below w.heap.size w w1) : CpS W w1 B x g ov s most a1 ov1 o1 := ⟨h.ix.below hb, h.fr.add hb, h.atb⟩
set_option maxRecDepth 100000 in
set_option maxHeartbeats 80000000 in
theorem copiesX {W : World} {B x g : Nat} {ov : Value} {s : ByteArray} {a most : Nat} {out : List Int} (h : IsX W B x g ov s a most out) {Bd : Nat} {d : Value} {o : Option (List Int)} (hd : DistIs W Bd d o) (k : Nat) (hk : 256 < k) (hk2 : k ≤ 400) :
    Calls Try.prog 50 #[.pointer (some ⟨x, 0, none⟩), .int .i64 k, d] W (PX (fun _ : List Int => .tuple #[]) (fun o => o) B x g ov s most W ((copiesT most out k o).run s a)) := by
  have H := Aside0.mk h
  have HD := Aside0.mk hd
  have HX0 : Aside0 (XG W W B x g ov s most out a ov) := ⟨h, Fr.refl _ _, AtB.refl _ _⟩
  by_cases h285 : 285 < k
  · have hb1 : decide ((k : Int) ≤ 285) = false := decide_eq_false (by omega)
    have HRUN := Aside0.mk (show (copiesT most out k o).run s a = .no 40 by unfold copiesT; rw [if_pos h285]; rfl)
    clear h hd hk hk2 h285
    go_enter Try.func50, Try.ntmps50
    go_wp2_with fail
    refine (right_no _).mono ?_
    rintro e w1 ⟨rfl, rfl⟩
    exact ⟨rfl, PX_no HRUN.out (Below.refl _ _)⟩
  · have hb1 : decide ((k : Int) ≤ 285) = true := decide_eq_true (by omega)
    have hrun : (copiesT most out k o).run s a = match (bitsN (lenB k).2).run s a with
      | .no er => .no er
      | .ok n a1 => (match o with
        | none => err 40
        | some dl => (symT dl).bind fun j => if 30 ≤ j then err 40 else (bitsN (distB j.toNat).2).bind fun y => if out.length < (distB j.toNat).1 + y then err 40 else if most < out.length + ((lenB k).1 + n) then err 4 else ret (copyN ((distB j.toNat).1 + y) ((lenB k).1 + n) out)).run s a1 := by
      unfold copiesT
      rw [if_neg h285, run_bind]
      cases (bitsN (lenB k).2).run s a with
      | no er => rfl
      | ok n a1 => cases o <;> rfl
    have HRUN := Aside0.mk hrun
    obtain ⟨r1, r2, hsp, hre⟩ := lenS k hk (by omega)
    have hlk := lenK k hk (by omega)
    have HSP := Aside0.mk (fun w => inflate_spread.calls ((k : Int) - 257) 4 3 r1 r2 w hsp)
    have HRE := Aside0.mk hre
    have HLK := Aside0.mk hlk
    have hw1 : IntKind.i64.wrap ((k : Int) - 257) = (k : Int) - 257 := IntWalk.i64_in _ (by omega)
    have HK := Aside0.mk (show 256 < k ∧ k < 286 by omega)
    obtain ⟨lb, hlb⟩ : ∃ z, (lenB k).1 = z := ⟨_, rfl⟩
    obtain ⟨le, hle⟩ : ∃ z, (lenB k).2 = z := ⟨_, rfl⟩
    rw [hlb, hle] at HRUN HRE HLK
    have HLL := Aside0.mk (show k = 285 → lb = 258 ∧ le = 0 by intro h; subst h; rw [← hlb, ← hle]; exact ⟨rfl, rfl⟩)
    clear h hd hk hk2 h285 hrun hsp hre hlk hlb hle
    go_enter Try.func50, Try.ntmps50
    go_wp2_with fail
    refine (right_ok _).mono ?_
    rintro e w1 ⟨rfl, rfl⟩
    go_upto_if 20 with (fail)
    refine (HSP.out _).mono ?_
    rintro e w1 ⟨rfl, hdr⟩
    have HX1 := Aside0.mk (HX0.out.below hdr.below)
    clear hdr HSP HX0
    go_upto_if 20 with (fail)
    go_cut [6, 7] from 10 to 20 (fun v6 v7 w => v6 = .int .i64 lb ∧ v7 = .int .i64 le ∧ Aside0 (XG W w B x g ov s most out a ov))
    case first =>
      by_cases h5 : k = 285
      · have hb2 : decide ((k : Int) = 285) = true := decide_eq_true (by omega)
        have hb3 : ((k : Int) == 285) = true := by rw [beq_iff_eq]; omega
        have hb4 : decide (k = 285) = true := decide_eq_true h5
        have HL := Aside0.mk (HLL.out h5)
        clear h5
        go_wp2_with fail
        go_meet
        case rel => exact ⟨by rw [HL.out.1]; rfl, by rw [HL.out.2]; rfl, HX1⟩
      · have hb2 : decide ((k : Int) = 285) = false := decide_eq_false (by omega)
        have hb3 : ((k : Int) == 285) = false := by rw [beq_eq_false_iff_ne]; omega
        have hb4 : decide (k = 285) = false := decide_eq_false h5
        obtain ⟨rfl, rfl⟩ := HRE.out h5
        clear h5
        go_wp2_with fail
        go_meet
        case rel => exact ⟨rfl, rfl, HX1⟩
    case rest =>
      obtain ⟨rfl, rfl, HX2⟩ := hcut
      rename_i w2 _ _
      have hle5 := HLK.out.2.2
      have HB3 := Aside0.mk (bitsX_ok HX2.out.ix le (by omega))
      clear HX1 HRE HLL hle5
      go_wp2_with fail
      refine HB3.out.mono ?_
      cases hb3 : (bitsN le).run s a with
      | no er =>
        rintro e w3 ⟨rfl, hb⟩
        have hr := HRUN.out
        rw [hb3] at hr
        exact ⟨rfl, PX_no hr ((HX2.out.beB H.out).trans hb)⟩
      | ok n a1 =>
        rintro e w3 ⟨rfl, ov3, hx3, hf3, hat3⟩
        have HX3 := Aside0.mk (HX2.out.used hx3 hf3 hat3)
        have hr := HRUN.out
        rw [hb3] at hr
        simp only at hr
        have HR3 := Aside0.mk hr
        have hn := bitsN_lt le a hb3
        have hn32 : n < 32 := Nat.lt_of_lt_of_le hn (Nat.le_trans (Nat.pow_le_pow_right (by decide) HLK.out.2.2) (by decide))
        have hlb := HLK.out.1
        have hw2 : IntKind.i64.wrap ((lb : Int) + (n : Int)) = (lb : Int) + (n : Int) := IntWalk.i64_in _ (by omega)
        have HN := Aside0.mk hn32
        have HDx := Aside0.mk (HD.out.keepX H.out HX3.out.fr)
        clear hr HRUN HB3 HX2 hx3 hf3 hat3 hb3 hn hn32 hlb
        cases o with
        | none =>
          have hd0 : d = .pointer none := HD.out
          subst hd0
          have HR4 : Aside0 ((copiesT most out k none).run s a = .no 40) := ⟨HR3.out⟩
          clear HR3
          go_wp2_with fail
          refine (right_no _).mono ?_
          rintro e w4 ⟨rfl, rfl⟩
          exact ⟨rfl, PX_no HR4.out (HX3.out.beB H.out)⟩
        | some dl =>
          obtain ⟨ho, hl0, hl1, t, lv, wv, sv, rfl, ht⟩ := HDx.out
          have hr := HR3.out
          simp only at hr
          rw [run_bind] at hr
          have HR4 := Aside0.mk hr
          have HL0 := Aside0.mk hl0
          have HSY := Aside0.mk (symX_ok HX3.out.ix ht ho)
          clear hr HR3 ho hl0 hl1 ht HDx HD
          go_wp2_with fail
          refine (right_ok _).mono ?_
          rintro e w4 ⟨rfl, rfl⟩
          go_wp2_with fail
          refine HSY.out.mono ?_
          cases hsy : (symT dl).run s a1 with
          | no er =>
            rintro e w4 ⟨rfl, hb⟩
            have hr := HR4.out
            rw [hsy] at hr
            exact ⟨rfl, PX_no hr ((HX3.out.beB H.out).trans hb)⟩
          | ok j a2 =>
            rintro e w4 ⟨rfl, ov4, hx4, hf4, hat4⟩
            have HX4 := Aside0.mk (HX3.out.used hx4 hf4 hat4)
            have hr := HR4.out
            rw [hsy] at hr
            simp only at hr
            have hj := symT_rng HL0.out hsy
            obtain ⟨j, rfl⟩ : ∃ m : Nat, j = m := ⟨j.toNat, by omega⟩
            rw [Int.toNat_natCast] at hr
            have HR5 := Aside0.mk hr
            clear hr HR4 HSY HX3 hx4 hf4 hat4 hsy hj
            by_cases h30 : 30 ≤ (j : Int)
            · have hb5 : decide ((j : Int) < 30) = false := decide_eq_false (by omega)
              have hb6 : decide (j < 30) = false := decide_eq_false (by omega)
              rw [if_pos h30] at HR5
              clear h30
              go_wp2_with fail
              refine (right_no _).mono ?_
              rintro e w5 ⟨rfl, rfl⟩
              exact ⟨rfl, PX_no HR5.out (HX4.out.beB H.out)⟩
            · have hb5 : decide ((j : Int) < 30) = true := decide_eq_true (by omega)
              have hb6 : decide (j < 30) = true := decide_eq_true (by omega)
              rw [if_neg h30, run_bind] at HR5
              have HSP := Aside0.mk (fun w => inflate_spread.calls (j : Int) 2 1 _ _ w (spread_dist j (by omega)))
              have HDL := Aside0.mk (distB_le j (by omega))
              obtain ⟨db, hdb⟩ : ∃ z, (distB j).1 = z := ⟨_, rfl⟩
              obtain ⟨de, hde⟩ : ∃ z, (distB j).2 = z := ⟨_, rfl⟩
              rw [hdb, hde] at HSP HDL HR5
              clear hdb hde h30
              go_wp2_with fail
              refine (right_ok _).mono ?_
              rintro e w5 ⟨rfl, rfl⟩
              go_wp2_with fail
              refine (HSP.out _).mono ?_
              rintro e w5 ⟨rfl, hdr⟩
              have HX5 := Aside0.mk (HX4.out.below hdr.below)
              clear hdr HSP HX4
              have hde13 := HDL.out.2.2
              have HB6 := Aside0.mk (bitsX_ok HX5.out.ix de (by omega))
              clear hde13
              go_wp2_with fail
              refine HB6.out.mono ?_
              cases hb6' : (bitsN de).run s a2 with
              | no er =>
                rintro e w6 ⟨rfl, hb⟩
                have hr := HR5.out
                rw [hb6'] at hr
                exact ⟨rfl, PX_no hr ((HX5.out.beB H.out).trans hb)⟩
              | ok y a3 =>
                rintro e w6 ⟨rfl, ov6, hx6, hf6, hat6⟩
                have HX6 := Aside0.mk (HX5.out.used hx6 hf6 hat6)
                have hr := HR5.out
                rw [hb6'] at hr
                simp only at hr
                have HR6 := Aside0.mk hr
                have hy := bitsN_lt de a2 hb6'
                have hy2 : y < 8192 := Nat.lt_of_lt_of_le hy (Nat.le_trans (Nat.pow_le_pow_right (by decide) HDL.out.2.2) (by decide))
                have hdb := HDL.out.1
                have hw6 : IntKind.i64.wrap ((db : Int) + (y : Int)) = (db : Int) + (y : Int) := IntWalk.i64_in _ (by omega)
                have hfar : 1 ≤ db + y := by have := HDL.out.2.1; omega
                obtain ⟨far, hfe⟩ : ∃ z, db + y = z := ⟨_, rfl⟩
                have hfi : (db : Int) + (y : Int) = (far : Int) := by omega
                rw [hfi] at hw6
                rw [hfe] at HR6 hfar
                have hfl : far ≤ 40000 := by omega
                have HFL := Aside0.mk (And.intro hfar hfl)
                clear hr HR5 HB6 HX5 hx6 hf6 hat6 hb6' hy hy2 hdb hfar
                obtain ⟨oA, oc, hov6⟩ := HX6.out.ix.slice
                have c2 := HX6.out.ix.c2
                rw [hov6] at c2
                have HOV := Aside0.mk hov6
                clear hov6
                by_cases hof : out.length < far
                · rw [if_pos hof] at HR6
                  have hb7 : decide (far ≤ out.length) = false := decide_eq_false (by omega)
                  have hb8 : decide ((far : Int) ≤ (out.length : Int)) = false := decide_eq_false (by omega)
                  clear hof hfl hfe
                  go_wp2_with fail
                  (try rw [hfi])
                  (try rw [hb8])
                  refine (right_no _).mono ?_
                  rintro e w7 ⟨rfl, rfl⟩
                  exact ⟨rfl, PX_no HR6.out (HX6.out.beB H.out)⟩
                · rw [if_neg hof] at HR6
                  have hb7 : decide (far ≤ out.length) = true := decide_eq_true (by omega)
                  have hb8 : decide ((far : Int) ≤ (out.length : Int)) = true := decide_eq_true (by omega)
                  have HOF := Aside0.mk hof
                  clear hof hfl hfe
                  have hnn : (lb : Int) + (n : Int) = ((lb + n : Nat) : Int) := by omega
                  obtain ⟨m, hm⟩ : ∃ z, lb + n = z := ⟨_, rfl⟩
                  rw [hm] at hnn HR6
                  have HM := Aside0.mk (show m ≤ 300 by have := HLK.out.1; have := HN.out; omega)
                  go_wp2_with fail
                  (try rw [hfi])
                  (try rw [hb8])
                  refine (right_ok _).mono ?_
                  rintro e w7 ⟨rfl, rfl⟩
                  by_cases hmo : most < out.length + m
                  · rw [if_pos hmo] at HR6
                    have HRO := Aside0.mk (room_no HX6.out.ix m (by have := HM.out; omega) hmo)
                    clear hmo c2
                    go_wp2_with fail
                    refine HRO.out.mono ?_
                    rintro e w7 ⟨rfl, hb⟩
                    exact ⟨rfl, PX_no HR6.out ((HX6.out.beB H.out).trans (hb.mono HX6.out.ix.base))⟩
                  · rw [if_neg hmo] at HR6
                    have HRO := Aside0.mk (room_ok HX6.out.ix m (by have := HM.out; omega) hmo)
                    have HMO := Aside0.mk hmo
                    clear hmo c2
                    go_wp2_with fail
                    refine HRO.out.mono ?_
                    rintro e w7 ⟨rfl, hb⟩
                    have HC0 : Aside0 (CpS W w7 B x g ov s most a3 ov6 out) := ⟨HX6.out.ix.below hb, HX6.out.fr.add hb, HX6.out.atb⟩
                    clear hb HRO HX6 HOV hm
                    go_wp2_with fail
                    (try rw [hnn])
                    (try rw [hfi])
                    go_loopw [57] (fun v57 wr => ∃ (i : Nat) (ov1 : Value), v57 = .int .i64 i ∧ i ≤ m ∧ Aside0 (CpS W wr B x g ov s most a3 ov1 (copyN far i out))) (fun v57 _ => m - (intOf v57).toNat)
                    case atStart => exact ⟨0, ov6, rfl, Nat.zero_le _, HC0⟩
                    case round =>
                      clear HC0
                      obtain ⟨i, ov1, rfl, hi, HC⟩ := hrel
                      by_cases hlt : i < m
                      · have hb9 : decide (i < m) = true := decide_eq_true hlt
                        have hb10 : decide ((i : Int) < (m : Int)) = true := decide_eq_true (by omega)
                        have HI := Aside0.mk hlt
                        obtain ⟨zs, hzs⟩ : ∃ z, copyN far i out = z := ⟨_, rfl⟩
                        have hlen := copyN_len far i out
                        have hsu := copyN_succ far i out
                        rw [hzs] at HC hlen hsu
                        have HOF2 := HOF.out
                        have HFL2 := HFL.out
                        have hm3 := HM.out
                        have hzl : zs.length + 1 ≤ most := by have := HMO.out; omega
                        have hmost := HC.out.ix.ml
                        obtain ⟨A1, c1, hov1⟩ := HC.out.ix.slice
                        subst hov1
                        have c2 := HC.out.ix.c2
                        have f2 := HC.out.ix.fz 2
                        have q1 : (0 : Int) ≤ (zs.length : Int) - (far : Int) := by omega
                        have q2 : (zs.length : Int) - (far : Int) < (zs.length : Int) := by omega
                        have q3 : ((zs.length : Int) - (far : Int)).toNat = zs.length - far := by omega
                        have q4 : IntKind.i64.wrap ((zs.length : Int) - (far : Int)) = (zs.length : Int) - (far : Int) := IntWalk.i64_in _ (by omega)
                        have q6 : far ≤ zs.length := by omega
                        have q5 : IntKind.i64.wrap ((i : Int) + 1) = (i : Int) + 1 := IntWalk.i64_in _ (by omega)
                        obtain ⟨gA, c1', eA⟩ := HF.R_first HC.out.ix.ro (by omega)
                        injection eA with eA _ ec
                        subst eA
                        subst ec
                        have HCd := Aside0.mk (HC.out.below (below_drew (Below.refl _ _)))
                        obtain ⟨y0, z0⟩ := Kd.R_celln 0 HCd.out.ix.ro ((zs.length : Int) - (far : Int)) q1 q2
                        rw [q3] at y0 z0
                        have hrd : rdOf 0 zs ((zs.length : Int) - (far : Int)) = zs.getD (zs.length - far) 0 := by unfold rdOf; rw [q3]
                        rw [hrd] at y0
                        obtain ⟨u, hu⟩ : ∃ z, zs.getD (zs.length - far) 0 = z := ⟨_, rfl⟩
                        rw [hu] at y0 hsu
                        change wr.drew.cell? ⟨gA, zs.length - far, none⟩ = some (.int .u8 u) at y0
                        have HSU := Aside0.mk hsu
                        have HZL := Aside0.mk (And.intro hzl hmost)
                        have c2d := HCd.out.ix.c2
                        have c2a : (wr.drew.alloc (.cells #[.int .u8 u] 5)).cell? ⟨x, 2, none⟩ = some (.slice (some ⟨gA, 0, none⟩) zs.length c1) := (HCd.out.ix.below (below_alloc (Below.refl _ _) _)).c2
                        clear HOF2 HFL2 hm3 hzl hmost hlen hzs hrd hu hsu hlt hi c2 f2 z0 HC
                        go_upto_region 14 with (fail)
                        refine wp_region_any (by kernel_rfl) ?_
                        change wpAny _ _ _ _ _ _ _ (World.drew _)
                        generalize wr.drew = wd at y0 HCd c2d c2a ⊢
                        refine wpAny_take (i := 0) (v := ?vk1) rfl (by kernel_rfl) (by kernel_rfl) (by kernel_rfl) (fun _ _ _ h => h) (Or.inl ⟨by kernel_rfl, ?yk1⟩) ?_
                        case yk1 => (intro w; go_simp; try with_reducible rfl)
                        refine wpAny_take (i := 1) (v := ?vk2) rfl (by kernel_rfl) (by kernel_rfl) (by kernel_rfl) (fun _ _ _ h => h) (Or.inl ⟨by kernel_rfl, ?yk2⟩) ?_
                        case yk2 => (intro w; go_simp; try with_reducible rfl)
                        refine wpAny_take (i := 2) (v := ?vk3) rfl (by kernel_rfl) (by kernel_rfl) (by kernel_rfl) (fun _ _ _ h => h) (Or.inl ⟨by kernel_rfl, ?yk3⟩) ?_
                        case yk3 => (intro w; go_simp; try with_reducible rfl)
                        refine wpAny_take (i := 3) (v := ?vk4) rfl (by kernel_rfl) (by kernel_rfl) (by kernel_rfl) (fun _ _ _ h => h) (Or.inl ⟨by kernel_rfl, ?yk4⟩) ?_
                        case yk4 => (intro w; go_simp; try with_reducible rfl)
                        refine wpAny_take (i := 5) (v := ?vk5) rfl (by kernel_rfl) (by kernel_rfl) (by kernel_rfl) (fun _ _ _ h => h) (Or.inl ⟨by kernel_rfl, ?yk5⟩) ?_
                        case yk5 => (intro w; go_simp; try with_reducible rfl)
                        refine wpAny_take (i := 6) (v := ?vk6) rfl (by kernel_rfl) (by kernel_rfl) (by kernel_rfl) (fun _ _ _ h => h) (Or.inl ⟨by kernel_rfl, ?yk6⟩) ?_
                        case yk6 => (intro w; go_simp; try with_reducible rfl)
                        refine wpAny_take (i := 7) (v := ?vk7) rfl (by kernel_rfl) (by kernel_rfl) (by kernel_rfl) (fun _ _ _ h => h) (Or.inl ⟨by kernel_rfl, ?yk7⟩) ?_
                        case yk7 => (intro w; go_simp; try with_reducible rfl)
                        refine wpAny_take (i := 9) (v := ?vk8) rfl (by kernel_rfl) (by kernel_rfl) (by kernel_rfl) (fun _ _ _ h => h) (Or.inl ⟨by kernel_rfl, ?yk8⟩) ?_
                        case yk8 => (intro w; go_simp; try with_reducible rfl)
                        refine wpAny_take (i := 10) (v := ?vk9) rfl (by kernel_rfl) (by kernel_rfl) (by kernel_rfl) (fun _ _ _ h => h) (Or.inl ⟨by kernel_rfl, ?yk9⟩) ?_
                        case yk9 => (intro w; go_simp; try with_reducible rfl)
                        refine wpAny_take (i := 11) (v := ?vk10) rfl (by kernel_rfl) (by kernel_rfl) (by kernel_rfl) (fun _ _ _ h => h) (Or.inl ⟨by kernel_rfl, ?yk10⟩) ?_
                        case yk10 => (intro w; go_simp; try with_reducible rfl)
                        refine wpAny_take (i := 14) (v := ?vk11) rfl (by kernel_rfl) (by kernel_rfl) (by kernel_rfl) (fun _ _ _ h => h) (Or.inl ⟨by kernel_rfl, ?yk11⟩) ?_
                        case yk11 => (intro w; go_simp; try with_reducible rfl)
                        refine wpAny_ready (rs := [4, 8, 12]) (by kernel_rfl) (by simp) ?_
                        refine (AllReady.cons rfl (fun K hK => ?_) (AllReady.cons rfl (fun K hK => ?_) (AllReady.cons rfl (fun K hK => ?_) AllReady.nil)))
                        · skip
                          go_simp
                          refine hK _ _ ?_
                          clear hK K
                          refine wpAny_ready (rs := [8, 12]) (by kernel_rfl) (by simp) ?_
                          refine (AllReady.cons rfl (fun K hK => ?_) (AllReady.cons rfl (fun K hK => ?_) AllReady.nil))
                          · skip
                            go_simp
                            refine hK _ _ ?_
                            clear hK K
                            refine wpAny_ready (rs := [12]) (by kernel_rfl) (by simp) ?_
                            refine (AllReady.cons rfl (fun K hK => ?_) AllReady.nil)
                            go_simp
                            refine hK _ _ ?_
                            clear hK K
                            refine wpAny_take (i := 13) (v := ?vk12) rfl (by kernel_rfl) (by kernel_rfl) (by kernel_rfl) (fun _ _ _ h => h) (Or.inl ⟨by kernel_rfl, ?yk12⟩) ?_
                            case yk12 => (intro w; go_simp; try with_reducible rfl)
                            refine wpAny_take (i := 15) (v := ?vk13) rfl (by kernel_rfl) (by kernel_rfl) (by kernel_rfl) (fun _ _ _ h => h) (Or.inl ⟨by kernel_rfl, ?yk13⟩) ?_
                            case yk13 => (intro w; go_simp; try with_reducible rfl)
                            refine wpAny_take (i := 16) (v := ?vk14) rfl (by kernel_rfl) (by kernel_rfl) (by kernel_rfl) (fun _ _ _ h => h) (Or.inl ⟨by kernel_rfl, ?yk14⟩) ?_
                            case yk14 => (intro w; go_simp; try with_reducible rfl)
                            refine wpAny_ready (rs := [17]) (by kernel_rfl) (by simp) ?_
                            refine (AllReady.cons rfl (fun K hK => ?_) AllReady.nil)
                            go_simp
                            refine hK _ _ ?_
                            clear hK K
                            refine wpAny_ready (rs := [18]) (by kernel_rfl) (by simp) ?_
                            refine (AllReady.cons rfl (fun K hK => ?_) AllReady.nil)
                            go_simp
                            refine hK _ _ ?_
                            clear hK K
                            refine wpAny_ready (rs := [19]) (by kernel_rfl) (by simp) ?_
                            refine (AllReady.cons rfl (fun K hK => ?_) AllReady.nil)
                            refine Kd.R_append_step (Kd.int .u8) (w0 := wd) (W := wd) B (by kernel_rfl) (.tmp 63) (.tmp 77) 33 5 (.int .u8 0) 1 (by rfl) Try.underlying33 info5 (by decide) (by decide) (by decide) (.slice (some ⟨gA, 0, none⟩) zs.length c1) zs u [.int .u8 u] (fun _ => True) (fun _ => False) (by rfl) (by rfl) rfl (fun _ hk => hk.elim) (fun _ _ => trivial) HCd.out.ix.ro (Below.refl _ _) HCd.out.ix.base (by have := HZL.out; omega) ?_
                            intro v1 w8 ho hb hg hat
                            have cw8 := (hg.block x HCd.out.ix.lt.1 (fun e => HCd.out.ix.ne.2.1 e.symm)).trans HCd.out.ix.bx
                            have c28 := (blk_cell cw8 2).trans (rfl : _ = some (Value.slice (some ⟨gA, 0, none⟩) zs.length c1))
                            have f28 := blk_frozen cw8 2
                            have HGR := Aside0.mk (HCd.out.grow ho hg hat (by rw [List.length_append]; exact HZL.out.1))
                            obtain ⟨A9, c9, e9⟩ := Kd.R_slice ho
                            subst e9
                            rw [List.length_append, List.length_singleton] at HGR
                            clear ho hb hg hat cw8
                            refine hK _ _ ?_
                            clear hK K
                            refine wpAny_take (i := 20) (v := ?vk15) rfl (by kernel_rfl) (by kernel_rfl) (by kernel_rfl) (fun _ _ _ h => h) (Or.inl ⟨by kernel_rfl, ?yk15⟩) ?_
                            case yk15 => (intro w; go_simp; try with_reducible rfl)
                            refine wpAny_take (i := 21) (v := ?vk16) rfl (by kernel_rfl) (by kernel_rfl) (by kernel_rfl) (fun _ _ _ h => h) (Or.inl ⟨by kernel_rfl, ?yk16⟩) ?_
                            case yk16 => (intro w; go_simp; try with_reducible rfl)
                            refine wpAny_ready (rs := [22]) (by kernel_rfl) (by simp) ?_
                            refine (AllReady.cons rfl (fun K hK => ?_) AllReady.nil)
                            go_simp
                            refine hK _ _ ?_
                            clear hK K
                            refine wpAny_done (by kernel_rfl) ?_ _
                            go_wp2_with fail
                            go_roundw
                            case rel => exact ⟨i + 1, _, by simp, HI.out, by rw [HSU.out]; exact HGR⟩
                            case measure => simp [intOf]; have := HI.out; omega
                          · skip
                            go_simp
                            refine hK _ _ ?_
                            clear hK K
                            refine wpAny_take (i := 13) (v := ?vk17) rfl (by kernel_rfl) (by kernel_rfl) (by kernel_rfl) (fun _ _ _ h => h) (Or.inl ⟨by kernel_rfl, ?yk17⟩) ?_
                            case yk17 => (intro w; go_simp; try with_reducible rfl)
                            refine wpAny_take (i := 15) (v := ?vk18) rfl (by kernel_rfl) (by kernel_rfl) (by kernel_rfl) (fun _ _ _ h => h) (Or.inl ⟨by kernel_rfl, ?yk18⟩) ?_
                            case yk18 => (intro w; go_simp; try with_reducible rfl)
                            refine wpAny_ready (rs := [8]) (by kernel_rfl) (by simp) ?_
                            refine (AllReady.cons rfl (fun K hK => ?_) AllReady.nil)
                            go_simp
                            refine hK _ _ ?_
                            clear hK K
                            refine wpAny_take (i := 16) (v := ?vk19) rfl (by kernel_rfl) (by kernel_rfl) (by kernel_rfl) (fun _ _ _ h => h) (Or.inl ⟨by kernel_rfl, ?yk19⟩) ?_
                            case yk19 => (intro w; go_simp; try with_reducible rfl)
                            refine wpAny_ready (rs := [17]) (by kernel_rfl) (by simp) ?_
                            refine (AllReady.cons rfl (fun K hK => ?_) AllReady.nil)
                            go_simp
                            refine hK _ _ ?_
                            clear hK K
                            refine wpAny_ready (rs := [18]) (by kernel_rfl) (by simp) ?_
                            refine (AllReady.cons rfl (fun K hK => ?_) AllReady.nil)
                            go_simp
                            refine hK _ _ ?_
                            clear hK K
                            refine wpAny_ready (rs := [19]) (by kernel_rfl) (by simp) ?_
                            refine (AllReady.cons rfl (fun K hK => ?_) AllReady.nil)
                            refine Kd.R_append_step (Kd.int .u8) (w0 := wd) (W := wd) B (by kernel_rfl) (.tmp 63) (.tmp 77) 33 5 (.int .u8 0) 1 (by rfl) Try.underlying33 info5 (by decide) (by decide) (by decide) (.slice (some ⟨gA, 0, none⟩) zs.length c1) zs u [.int .u8 u] (fun _ => True) (fun _ => False) (by rfl) (by rfl) rfl (fun _ hk => hk.elim) (fun _ _ => trivial) HCd.out.ix.ro (Below.refl _ _) HCd.out.ix.base (by have := HZL.out; omega) ?_
                            intro v1 w8 ho hb hg hat
                            have cw8 := (hg.block x HCd.out.ix.lt.1 (fun e => HCd.out.ix.ne.2.1 e.symm)).trans HCd.out.ix.bx
                            have c28 := (blk_cell cw8 2).trans (rfl : _ = some (Value.slice (some ⟨gA, 0, none⟩) zs.length c1))
                            have f28 := blk_frozen cw8 2
                            have HGR := Aside0.mk (HCd.out.grow ho hg hat (by rw [List.length_append]; exact HZL.out.1))
                            obtain ⟨A9, c9, e9⟩ := Kd.R_slice ho
                            subst e9
                            rw [List.length_append, List.length_singleton] at HGR
                            clear ho hb hg hat cw8
                            refine hK _ _ ?_
                            clear hK K
                            refine wpAny_take (i := 20) (v := ?vk20) rfl (by kernel_rfl) (by kernel_rfl) (by kernel_rfl) (fun _ _ _ h => h) (Or.inl ⟨by kernel_rfl, ?yk20⟩) ?_
                            case yk20 => (intro w; go_simp; try with_reducible rfl)
                            refine wpAny_take (i := 21) (v := ?vk21) rfl (by kernel_rfl) (by kernel_rfl) (by kernel_rfl) (fun _ _ _ h => h) (Or.inl ⟨by kernel_rfl, ?yk21⟩) ?_
                            case yk21 => (intro w; go_simp; try with_reducible rfl)
                            refine wpAny_ready (rs := [22]) (by kernel_rfl) (by simp) ?_
                            refine (AllReady.cons rfl (fun K hK => ?_) AllReady.nil)
                            go_simp
                            refine hK _ _ ?_
                            clear hK K
                            refine wpAny_done (by kernel_rfl) ?_ _
                            go_wp2_with fail
                            go_roundw
                            case rel => exact ⟨i + 1, _, by simp, HI.out, by rw [HSU.out]; exact HGR⟩
                            case measure => simp [intOf]; have := HI.out; omega
                        · skip
                          go_simp
                          refine hK _ _ ?_
                          clear hK K
                          refine wpAny_ready (rs := [4, 12]) (by kernel_rfl) (by simp) ?_
                          refine (AllReady.cons rfl (fun K hK => ?_) (AllReady.cons rfl (fun K hK => ?_) AllReady.nil))
                          · skip
                            go_simp
                            refine hK _ _ ?_
                            clear hK K
                            refine wpAny_ready (rs := [12]) (by kernel_rfl) (by simp) ?_
                            refine (AllReady.cons rfl (fun K hK => ?_) AllReady.nil)
                            go_simp
                            refine hK _ _ ?_
                            clear hK K
                            refine wpAny_take (i := 13) (v := ?vk22) rfl (by kernel_rfl) (by kernel_rfl) (by kernel_rfl) (fun _ _ _ h => h) (Or.inl ⟨by kernel_rfl, ?yk22⟩) ?_
                            case yk22 => (intro w; go_simp; try with_reducible rfl)
                            refine wpAny_take (i := 15) (v := ?vk23) rfl (by kernel_rfl) (by kernel_rfl) (by kernel_rfl) (fun _ _ _ h => h) (Or.inl ⟨by kernel_rfl, ?yk23⟩) ?_
                            case yk23 => (intro w; go_simp; try with_reducible rfl)
                            refine wpAny_take (i := 16) (v := ?vk24) rfl (by kernel_rfl) (by kernel_rfl) (by kernel_rfl) (fun _ _ _ h => h) (Or.inl ⟨by kernel_rfl, ?yk24⟩) ?_
                            case yk24 => (intro w; go_simp; try with_reducible rfl)
                            refine wpAny_ready (rs := [17]) (by kernel_rfl) (by simp) ?_
                            refine (AllReady.cons rfl (fun K hK => ?_) AllReady.nil)
                            go_simp
                            refine hK _ _ ?_
                            clear hK K
                            refine wpAny_ready (rs := [18]) (by kernel_rfl) (by simp) ?_
                            refine (AllReady.cons rfl (fun K hK => ?_) AllReady.nil)
                            go_simp
                            refine hK _ _ ?_
                            clear hK K
                            refine wpAny_ready (rs := [19]) (by kernel_rfl) (by simp) ?_
                            refine (AllReady.cons rfl (fun K hK => ?_) AllReady.nil)
                            refine Kd.R_append_step (Kd.int .u8) (w0 := wd) (W := wd) B (by kernel_rfl) (.tmp 63) (.tmp 77) 33 5 (.int .u8 0) 1 (by rfl) Try.underlying33 info5 (by decide) (by decide) (by decide) (.slice (some ⟨gA, 0, none⟩) zs.length c1) zs u [.int .u8 u] (fun _ => True) (fun _ => False) (by rfl) (by rfl) rfl (fun _ hk => hk.elim) (fun _ _ => trivial) HCd.out.ix.ro (Below.refl _ _) HCd.out.ix.base (by have := HZL.out; omega) ?_
                            intro v1 w8 ho hb hg hat
                            have cw8 := (hg.block x HCd.out.ix.lt.1 (fun e => HCd.out.ix.ne.2.1 e.symm)).trans HCd.out.ix.bx
                            have c28 := (blk_cell cw8 2).trans (rfl : _ = some (Value.slice (some ⟨gA, 0, none⟩) zs.length c1))
                            have f28 := blk_frozen cw8 2
                            have HGR := Aside0.mk (HCd.out.grow ho hg hat (by rw [List.length_append]; exact HZL.out.1))
                            obtain ⟨A9, c9, e9⟩ := Kd.R_slice ho
                            subst e9
                            rw [List.length_append, List.length_singleton] at HGR
                            clear ho hb hg hat cw8
                            refine hK _ _ ?_
                            clear hK K
                            refine wpAny_take (i := 20) (v := ?vk25) rfl (by kernel_rfl) (by kernel_rfl) (by kernel_rfl) (fun _ _ _ h => h) (Or.inl ⟨by kernel_rfl, ?yk25⟩) ?_
                            case yk25 => (intro w; go_simp; try with_reducible rfl)
                            refine wpAny_take (i := 21) (v := ?vk26) rfl (by kernel_rfl) (by kernel_rfl) (by kernel_rfl) (fun _ _ _ h => h) (Or.inl ⟨by kernel_rfl, ?yk26⟩) ?_
                            case yk26 => (intro w; go_simp; try with_reducible rfl)
                            refine wpAny_ready (rs := [22]) (by kernel_rfl) (by simp) ?_
                            refine (AllReady.cons rfl (fun K hK => ?_) AllReady.nil)
                            go_simp
                            refine hK _ _ ?_
                            clear hK K
                            refine wpAny_done (by kernel_rfl) ?_ _
                            go_wp2_with fail
                            go_roundw
                            case rel => exact ⟨i + 1, _, by simp, HI.out, by rw [HSU.out]; exact HGR⟩
                            case measure => simp [intOf]; have := HI.out; omega
                          · skip
                            go_simp
                            refine hK _ _ ?_
                            clear hK K
                            refine wpAny_take (i := 13) (v := ?vk27) rfl (by kernel_rfl) (by kernel_rfl) (by kernel_rfl) (fun _ _ _ h => h) (Or.inl ⟨by kernel_rfl, ?yk27⟩) ?_
                            case yk27 => (intro w; go_simp; try with_reducible rfl)
                            refine wpAny_take (i := 15) (v := ?vk28) rfl (by kernel_rfl) (by kernel_rfl) (by kernel_rfl) (fun _ _ _ h => h) (Or.inl ⟨by kernel_rfl, ?yk28⟩) ?_
                            case yk28 => (intro w; go_simp; try with_reducible rfl)
                            refine wpAny_take (i := 16) (v := ?vk29) rfl (by kernel_rfl) (by kernel_rfl) (by kernel_rfl) (fun _ _ _ h => h) (Or.inl ⟨by kernel_rfl, ?yk29⟩) ?_
                            case yk29 => (intro w; go_simp; try with_reducible rfl)
                            refine wpAny_ready (rs := [4, 17]) (by kernel_rfl) (by simp) ?_
                            refine (AllReady.cons rfl (fun K hK => ?_) (AllReady.cons rfl (fun K hK => ?_) AllReady.nil))
                            · skip
                              go_simp
                              refine hK _ _ ?_
                              clear hK K
                              refine wpAny_ready (rs := [17]) (by kernel_rfl) (by simp) ?_
                              refine (AllReady.cons rfl (fun K hK => ?_) AllReady.nil)
                              go_simp
                              refine hK _ _ ?_
                              clear hK K
                              refine wpAny_ready (rs := [18]) (by kernel_rfl) (by simp) ?_
                              refine (AllReady.cons rfl (fun K hK => ?_) AllReady.nil)
                              go_simp
                              refine hK _ _ ?_
                              clear hK K
                              refine wpAny_ready (rs := [19]) (by kernel_rfl) (by simp) ?_
                              refine (AllReady.cons rfl (fun K hK => ?_) AllReady.nil)
                              refine Kd.R_append_step (Kd.int .u8) (w0 := wd) (W := wd) B (by kernel_rfl) (.tmp 63) (.tmp 77) 33 5 (.int .u8 0) 1 (by rfl) Try.underlying33 info5 (by decide) (by decide) (by decide) (.slice (some ⟨gA, 0, none⟩) zs.length c1) zs u [.int .u8 u] (fun _ => True) (fun _ => False) (by rfl) (by rfl) rfl (fun _ hk => hk.elim) (fun _ _ => trivial) HCd.out.ix.ro (Below.refl _ _) HCd.out.ix.base (by have := HZL.out; omega) ?_
                              intro v1 w8 ho hb hg hat
                              have cw8 := (hg.block x HCd.out.ix.lt.1 (fun e => HCd.out.ix.ne.2.1 e.symm)).trans HCd.out.ix.bx
                              have c28 := (blk_cell cw8 2).trans (rfl : _ = some (Value.slice (some ⟨gA, 0, none⟩) zs.length c1))
                              have f28 := blk_frozen cw8 2
                              have HGR := Aside0.mk (HCd.out.grow ho hg hat (by rw [List.length_append]; exact HZL.out.1))
                              obtain ⟨A9, c9, e9⟩ := Kd.R_slice ho
                              subst e9
                              rw [List.length_append, List.length_singleton] at HGR
                              clear ho hb hg hat cw8
                              refine hK _ _ ?_
                              clear hK K
                              refine wpAny_take (i := 20) (v := ?vk30) rfl (by kernel_rfl) (by kernel_rfl) (by kernel_rfl) (fun _ _ _ h => h) (Or.inl ⟨by kernel_rfl, ?yk30⟩) ?_
                              case yk30 => (intro w; go_simp; try with_reducible rfl)
                              refine wpAny_take (i := 21) (v := ?vk31) rfl (by kernel_rfl) (by kernel_rfl) (by kernel_rfl) (fun _ _ _ h => h) (Or.inl ⟨by kernel_rfl, ?yk31⟩) ?_
                              case yk31 => (intro w; go_simp; try with_reducible rfl)
                              refine wpAny_ready (rs := [22]) (by kernel_rfl) (by simp) ?_
                              refine (AllReady.cons rfl (fun K hK => ?_) AllReady.nil)
                              go_simp
                              refine hK _ _ ?_
                              clear hK K
                              refine wpAny_done (by kernel_rfl) ?_ _
                              go_wp2_with fail
                              go_roundw
                              case rel => exact ⟨i + 1, _, by simp, HI.out, by rw [HSU.out]; exact HGR⟩
                              case measure => simp [intOf]; have := HI.out; omega
                            · skip
                              go_simp
                              refine hK _ _ ?_
                              clear hK K
                              refine wpAny_ready (rs := [4, 18]) (by kernel_rfl) (by simp) ?_
                              refine (AllReady.cons rfl (fun K hK => ?_) (AllReady.cons rfl (fun K hK => ?_) AllReady.nil))
                              · skip
                                go_simp
                                refine hK _ _ ?_
                                clear hK K
                                refine wpAny_ready (rs := [18]) (by kernel_rfl) (by simp) ?_
                                refine (AllReady.cons rfl (fun K hK => ?_) AllReady.nil)
                                go_simp
                                refine hK _ _ ?_
                                clear hK K
                                refine wpAny_ready (rs := [19]) (by kernel_rfl) (by simp) ?_
                                refine (AllReady.cons rfl (fun K hK => ?_) AllReady.nil)
                                refine Kd.R_append_step (Kd.int .u8) (w0 := wd) (W := wd) B (by kernel_rfl) (.tmp 63) (.tmp 77) 33 5 (.int .u8 0) 1 (by rfl) Try.underlying33 info5 (by decide) (by decide) (by decide) (.slice (some ⟨gA, 0, none⟩) zs.length c1) zs u [.int .u8 u] (fun _ => True) (fun _ => False) (by rfl) (by rfl) rfl (fun _ hk => hk.elim) (fun _ _ => trivial) HCd.out.ix.ro (Below.refl _ _) HCd.out.ix.base (by have := HZL.out; omega) ?_
                                intro v1 w8 ho hb hg hat
                                have cw8 := (hg.block x HCd.out.ix.lt.1 (fun e => HCd.out.ix.ne.2.1 e.symm)).trans HCd.out.ix.bx
                                have c28 := (blk_cell cw8 2).trans (rfl : _ = some (Value.slice (some ⟨gA, 0, none⟩) zs.length c1))
                                have f28 := blk_frozen cw8 2
                                have HGR := Aside0.mk (HCd.out.grow ho hg hat (by rw [List.length_append]; exact HZL.out.1))
                                obtain ⟨A9, c9, e9⟩ := Kd.R_slice ho
                                subst e9
                                rw [List.length_append, List.length_singleton] at HGR
                                clear ho hb hg hat cw8
                                refine hK _ _ ?_
                                clear hK K
                                refine wpAny_take (i := 20) (v := ?vk32) rfl (by kernel_rfl) (by kernel_rfl) (by kernel_rfl) (fun _ _ _ h => h) (Or.inl ⟨by kernel_rfl, ?yk32⟩) ?_
                                case yk32 => (intro w; go_simp; try with_reducible rfl)
                                refine wpAny_take (i := 21) (v := ?vk33) rfl (by kernel_rfl) (by kernel_rfl) (by kernel_rfl) (fun _ _ _ h => h) (Or.inl ⟨by kernel_rfl, ?yk33⟩) ?_
                                case yk33 => (intro w; go_simp; try with_reducible rfl)
                                refine wpAny_ready (rs := [22]) (by kernel_rfl) (by simp) ?_
                                refine (AllReady.cons rfl (fun K hK => ?_) AllReady.nil)
                                go_simp
                                refine hK _ _ ?_
                                clear hK K
                                refine wpAny_done (by kernel_rfl) ?_ _
                                go_wp2_with fail
                                go_roundw
                                case rel => exact ⟨i + 1, _, by simp, HI.out, by rw [HSU.out]; exact HGR⟩
                                case measure => simp [intOf]; have := HI.out; omega
                              · skip
                                go_simp
                                refine hK _ _ ?_
                                clear hK K
                                refine wpAny_ready (rs := [4]) (by kernel_rfl) (by simp) ?_
                                refine (AllReady.cons rfl (fun K hK => ?_) AllReady.nil)
                                go_simp
                                refine hK _ _ ?_
                                clear hK K
                                refine wpAny_ready (rs := [19]) (by kernel_rfl) (by simp) ?_
                                refine (AllReady.cons rfl (fun K hK => ?_) AllReady.nil)
                                refine Kd.R_append_step (Kd.int .u8) (w0 := wd) (W := wd) B (by kernel_rfl) (.tmp 63) (.tmp 77) 33 5 (.int .u8 0) 1 (by rfl) Try.underlying33 info5 (by decide) (by decide) (by decide) (.slice (some ⟨gA, 0, none⟩) zs.length c1) zs u [.int .u8 u] (fun _ => True) (fun _ => False) (by rfl) (by rfl) rfl (fun _ hk => hk.elim) (fun _ _ => trivial) HCd.out.ix.ro (Below.refl _ _) HCd.out.ix.base (by have := HZL.out; omega) ?_
                                intro v1 w8 ho hb hg hat
                                have cw8 := (hg.block x HCd.out.ix.lt.1 (fun e => HCd.out.ix.ne.2.1 e.symm)).trans HCd.out.ix.bx
                                have c28 := (blk_cell cw8 2).trans (rfl : _ = some (Value.slice (some ⟨gA, 0, none⟩) zs.length c1))
                                have f28 := blk_frozen cw8 2
                                have HGR := Aside0.mk (HCd.out.grow ho hg hat (by rw [List.length_append]; exact HZL.out.1))
                                obtain ⟨A9, c9, e9⟩ := Kd.R_slice ho
                                subst e9
                                rw [List.length_append, List.length_singleton] at HGR
                                clear ho hb hg hat cw8
                                refine hK _ _ ?_
                                clear hK K
                                refine wpAny_take (i := 20) (v := ?vk34) rfl (by kernel_rfl) (by kernel_rfl) (by kernel_rfl) (fun _ _ _ h => h) (Or.inl ⟨by kernel_rfl, ?yk34⟩) ?_
                                case yk34 => (intro w; go_simp; try with_reducible rfl)
                                refine wpAny_take (i := 21) (v := ?vk35) rfl (by kernel_rfl) (by kernel_rfl) (by kernel_rfl) (fun _ _ _ h => h) (Or.inl ⟨by kernel_rfl, ?yk35⟩) ?_
                                case yk35 => (intro w; go_simp; try with_reducible rfl)
                                refine wpAny_ready (rs := [22]) (by kernel_rfl) (by simp) ?_
                                refine (AllReady.cons rfl (fun K hK => ?_) AllReady.nil)
                                go_simp
                                refine hK _ _ ?_
                                clear hK K
                                refine wpAny_done (by kernel_rfl) ?_ _
                                go_wp2_with fail
                                go_roundw
                                case rel => exact ⟨i + 1, _, by simp, HI.out, by rw [HSU.out]; exact HGR⟩
                                case measure => simp [intOf]; have := HI.out; omega
                        · skip
                          go_simp
                          refine hK _ _ ?_
                          clear hK K
                          refine wpAny_take (i := 13) (v := ?vk36) rfl (by kernel_rfl) (by kernel_rfl) (by kernel_rfl) (fun _ _ _ h => h) (Or.inl ⟨by kernel_rfl, ?yk36⟩) ?_
                          case yk36 => (intro w; go_simp; try with_reducible rfl)
                          refine wpAny_take (i := 15) (v := ?vk37) rfl (by kernel_rfl) (by kernel_rfl) (by kernel_rfl) (fun _ _ _ h => h) (Or.inl ⟨by kernel_rfl, ?yk37⟩) ?_
                          case yk37 => (intro w; go_simp; try with_reducible rfl)
                          refine wpAny_ready (rs := [4, 8]) (by kernel_rfl) (by simp) ?_
                          refine (AllReady.cons rfl (fun K hK => ?_) (AllReady.cons rfl (fun K hK => ?_) AllReady.nil))
                          · skip
                            go_simp
                            refine hK _ _ ?_
                            clear hK K
                            refine wpAny_ready (rs := [8]) (by kernel_rfl) (by simp) ?_
                            refine (AllReady.cons rfl (fun K hK => ?_) AllReady.nil)
                            go_simp
                            refine hK _ _ ?_
                            clear hK K
                            refine wpAny_take (i := 16) (v := ?vk38) rfl (by kernel_rfl) (by kernel_rfl) (by kernel_rfl) (fun _ _ _ h => h) (Or.inl ⟨by kernel_rfl, ?yk38⟩) ?_
                            case yk38 => (intro w; go_simp; try with_reducible rfl)
                            refine wpAny_ready (rs := [17]) (by kernel_rfl) (by simp) ?_
                            refine (AllReady.cons rfl (fun K hK => ?_) AllReady.nil)
                            go_simp
                            refine hK _ _ ?_
                            clear hK K
                            refine wpAny_ready (rs := [18]) (by kernel_rfl) (by simp) ?_
                            refine (AllReady.cons rfl (fun K hK => ?_) AllReady.nil)
                            go_simp
                            refine hK _ _ ?_
                            clear hK K
                            refine wpAny_ready (rs := [19]) (by kernel_rfl) (by simp) ?_
                            refine (AllReady.cons rfl (fun K hK => ?_) AllReady.nil)
                            refine Kd.R_append_step (Kd.int .u8) (w0 := wd) (W := wd) B (by kernel_rfl) (.tmp 63) (.tmp 77) 33 5 (.int .u8 0) 1 (by rfl) Try.underlying33 info5 (by decide) (by decide) (by decide) (.slice (some ⟨gA, 0, none⟩) zs.length c1) zs u [.int .u8 u] (fun _ => True) (fun _ => False) (by rfl) (by rfl) rfl (fun _ hk => hk.elim) (fun _ _ => trivial) HCd.out.ix.ro (Below.refl _ _) HCd.out.ix.base (by have := HZL.out; omega) ?_
                            intro v1 w8 ho hb hg hat
                            have cw8 := (hg.block x HCd.out.ix.lt.1 (fun e => HCd.out.ix.ne.2.1 e.symm)).trans HCd.out.ix.bx
                            have c28 := (blk_cell cw8 2).trans (rfl : _ = some (Value.slice (some ⟨gA, 0, none⟩) zs.length c1))
                            have f28 := blk_frozen cw8 2
                            have HGR := Aside0.mk (HCd.out.grow ho hg hat (by rw [List.length_append]; exact HZL.out.1))
                            obtain ⟨A9, c9, e9⟩ := Kd.R_slice ho
                            subst e9
                            rw [List.length_append, List.length_singleton] at HGR
                            clear ho hb hg hat cw8
                            refine hK _ _ ?_
                            clear hK K
                            refine wpAny_take (i := 20) (v := ?vk39) rfl (by kernel_rfl) (by kernel_rfl) (by kernel_rfl) (fun _ _ _ h => h) (Or.inl ⟨by kernel_rfl, ?yk39⟩) ?_
                            case yk39 => (intro w; go_simp; try with_reducible rfl)
                            refine wpAny_take (i := 21) (v := ?vk40) rfl (by kernel_rfl) (by kernel_rfl) (by kernel_rfl) (fun _ _ _ h => h) (Or.inl ⟨by kernel_rfl, ?yk40⟩) ?_
                            case yk40 => (intro w; go_simp; try with_reducible rfl)
                            refine wpAny_ready (rs := [22]) (by kernel_rfl) (by simp) ?_
                            refine (AllReady.cons rfl (fun K hK => ?_) AllReady.nil)
                            go_simp
                            refine hK _ _ ?_
                            clear hK K
                            refine wpAny_done (by kernel_rfl) ?_ _
                            go_wp2_with fail
                            go_roundw
                            case rel => exact ⟨i + 1, _, by simp, HI.out, by rw [HSU.out]; exact HGR⟩
                            case measure => simp [intOf]; have := HI.out; omega
                          · skip
                            go_simp
                            refine hK _ _ ?_
                            clear hK K
                            refine wpAny_take (i := 16) (v := ?vk41) rfl (by kernel_rfl) (by kernel_rfl) (by kernel_rfl) (fun _ _ _ h => h) (Or.inl ⟨by kernel_rfl, ?yk41⟩) ?_
                            case yk41 => (intro w; go_simp; try with_reducible rfl)
                            refine wpAny_ready (rs := [4, 17]) (by kernel_rfl) (by simp) ?_
                            refine (AllReady.cons rfl (fun K hK => ?_) (AllReady.cons rfl (fun K hK => ?_) AllReady.nil))
                            · skip
                              go_simp
                              refine hK _ _ ?_
                              clear hK K
                              refine wpAny_ready (rs := [17]) (by kernel_rfl) (by simp) ?_
                              refine (AllReady.cons rfl (fun K hK => ?_) AllReady.nil)
                              go_simp
                              refine hK _ _ ?_
                              clear hK K
                              refine wpAny_ready (rs := [18]) (by kernel_rfl) (by simp) ?_
                              refine (AllReady.cons rfl (fun K hK => ?_) AllReady.nil)
                              go_simp
                              refine hK _ _ ?_
                              clear hK K
                              refine wpAny_ready (rs := [19]) (by kernel_rfl) (by simp) ?_
                              refine (AllReady.cons rfl (fun K hK => ?_) AllReady.nil)
                              refine Kd.R_append_step (Kd.int .u8) (w0 := wd) (W := wd) B (by kernel_rfl) (.tmp 63) (.tmp 77) 33 5 (.int .u8 0) 1 (by rfl) Try.underlying33 info5 (by decide) (by decide) (by decide) (.slice (some ⟨gA, 0, none⟩) zs.length c1) zs u [.int .u8 u] (fun _ => True) (fun _ => False) (by rfl) (by rfl) rfl (fun _ hk => hk.elim) (fun _ _ => trivial) HCd.out.ix.ro (Below.refl _ _) HCd.out.ix.base (by have := HZL.out; omega) ?_
                              intro v1 w8 ho hb hg hat
                              have cw8 := (hg.block x HCd.out.ix.lt.1 (fun e => HCd.out.ix.ne.2.1 e.symm)).trans HCd.out.ix.bx
                              have c28 := (blk_cell cw8 2).trans (rfl : _ = some (Value.slice (some ⟨gA, 0, none⟩) zs.length c1))
                              have f28 := blk_frozen cw8 2
                              have HGR := Aside0.mk (HCd.out.grow ho hg hat (by rw [List.length_append]; exact HZL.out.1))
                              obtain ⟨A9, c9, e9⟩ := Kd.R_slice ho
                              subst e9
                              rw [List.length_append, List.length_singleton] at HGR
                              clear ho hb hg hat cw8
                              refine hK _ _ ?_
                              clear hK K
                              refine wpAny_take (i := 20) (v := ?vk42) rfl (by kernel_rfl) (by kernel_rfl) (by kernel_rfl) (fun _ _ _ h => h) (Or.inl ⟨by kernel_rfl, ?yk42⟩) ?_
                              case yk42 => (intro w; go_simp; try with_reducible rfl)
                              refine wpAny_take (i := 21) (v := ?vk43) rfl (by kernel_rfl) (by kernel_rfl) (by kernel_rfl) (fun _ _ _ h => h) (Or.inl ⟨by kernel_rfl, ?yk43⟩) ?_
                              case yk43 => (intro w; go_simp; try with_reducible rfl)
                              refine wpAny_ready (rs := [22]) (by kernel_rfl) (by simp) ?_
                              refine (AllReady.cons rfl (fun K hK => ?_) AllReady.nil)
                              go_simp
                              refine hK _ _ ?_
                              clear hK K
                              refine wpAny_done (by kernel_rfl) ?_ _
                              go_wp2_with fail
                              go_roundw
                              case rel => exact ⟨i + 1, _, by simp, HI.out, by rw [HSU.out]; exact HGR⟩
                              case measure => simp [intOf]; have := HI.out; omega
                            · skip
                              go_simp
                              refine hK _ _ ?_
                              clear hK K
                              refine wpAny_ready (rs := [4, 18]) (by kernel_rfl) (by simp) ?_
                              refine (AllReady.cons rfl (fun K hK => ?_) (AllReady.cons rfl (fun K hK => ?_) AllReady.nil))
                              · skip
                                go_simp
                                refine hK _ _ ?_
                                clear hK K
                                refine wpAny_ready (rs := [18]) (by kernel_rfl) (by simp) ?_
                                refine (AllReady.cons rfl (fun K hK => ?_) AllReady.nil)
                                go_simp
                                refine hK _ _ ?_
                                clear hK K
                                refine wpAny_ready (rs := [19]) (by kernel_rfl) (by simp) ?_
                                refine (AllReady.cons rfl (fun K hK => ?_) AllReady.nil)
                                refine Kd.R_append_step (Kd.int .u8) (w0 := wd) (W := wd) B (by kernel_rfl) (.tmp 63) (.tmp 77) 33 5 (.int .u8 0) 1 (by rfl) Try.underlying33 info5 (by decide) (by decide) (by decide) (.slice (some ⟨gA, 0, none⟩) zs.length c1) zs u [.int .u8 u] (fun _ => True) (fun _ => False) (by rfl) (by rfl) rfl (fun _ hk => hk.elim) (fun _ _ => trivial) HCd.out.ix.ro (Below.refl _ _) HCd.out.ix.base (by have := HZL.out; omega) ?_
                                intro v1 w8 ho hb hg hat
                                have cw8 := (hg.block x HCd.out.ix.lt.1 (fun e => HCd.out.ix.ne.2.1 e.symm)).trans HCd.out.ix.bx
                                have c28 := (blk_cell cw8 2).trans (rfl : _ = some (Value.slice (some ⟨gA, 0, none⟩) zs.length c1))
                                have f28 := blk_frozen cw8 2
                                have HGR := Aside0.mk (HCd.out.grow ho hg hat (by rw [List.length_append]; exact HZL.out.1))
                                obtain ⟨A9, c9, e9⟩ := Kd.R_slice ho
                                subst e9
                                rw [List.length_append, List.length_singleton] at HGR
                                clear ho hb hg hat cw8
                                refine hK _ _ ?_
                                clear hK K
                                refine wpAny_take (i := 20) (v := ?vk44) rfl (by kernel_rfl) (by kernel_rfl) (by kernel_rfl) (fun _ _ _ h => h) (Or.inl ⟨by kernel_rfl, ?yk44⟩) ?_
                                case yk44 => (intro w; go_simp; try with_reducible rfl)
                                refine wpAny_take (i := 21) (v := ?vk45) rfl (by kernel_rfl) (by kernel_rfl) (by kernel_rfl) (fun _ _ _ h => h) (Or.inl ⟨by kernel_rfl, ?yk45⟩) ?_
                                case yk45 => (intro w; go_simp; try with_reducible rfl)
                                refine wpAny_ready (rs := [22]) (by kernel_rfl) (by simp) ?_
                                refine (AllReady.cons rfl (fun K hK => ?_) AllReady.nil)
                                go_simp
                                refine hK _ _ ?_
                                clear hK K
                                refine wpAny_done (by kernel_rfl) ?_ _
                                go_wp2_with fail
                                go_roundw
                                case rel => exact ⟨i + 1, _, by simp, HI.out, by rw [HSU.out]; exact HGR⟩
                                case measure => simp [intOf]; have := HI.out; omega
                              · skip
                                go_simp
                                refine hK _ _ ?_
                                clear hK K
                                refine wpAny_ready (rs := [4]) (by kernel_rfl) (by simp) ?_
                                refine (AllReady.cons rfl (fun K hK => ?_) AllReady.nil)
                                go_simp
                                refine hK _ _ ?_
                                clear hK K
                                refine wpAny_ready (rs := [19]) (by kernel_rfl) (by simp) ?_
                                refine (AllReady.cons rfl (fun K hK => ?_) AllReady.nil)
                                refine Kd.R_append_step (Kd.int .u8) (w0 := wd) (W := wd) B (by kernel_rfl) (.tmp 63) (.tmp 77) 33 5 (.int .u8 0) 1 (by rfl) Try.underlying33 info5 (by decide) (by decide) (by decide) (.slice (some ⟨gA, 0, none⟩) zs.length c1) zs u [.int .u8 u] (fun _ => True) (fun _ => False) (by rfl) (by rfl) rfl (fun _ hk => hk.elim) (fun _ _ => trivial) HCd.out.ix.ro (Below.refl _ _) HCd.out.ix.base (by have := HZL.out; omega) ?_
                                intro v1 w8 ho hb hg hat
                                have cw8 := (hg.block x HCd.out.ix.lt.1 (fun e => HCd.out.ix.ne.2.1 e.symm)).trans HCd.out.ix.bx
                                have c28 := (blk_cell cw8 2).trans (rfl : _ = some (Value.slice (some ⟨gA, 0, none⟩) zs.length c1))
                                have f28 := blk_frozen cw8 2
                                have HGR := Aside0.mk (HCd.out.grow ho hg hat (by rw [List.length_append]; exact HZL.out.1))
                                obtain ⟨A9, c9, e9⟩ := Kd.R_slice ho
                                subst e9
                                rw [List.length_append, List.length_singleton] at HGR
                                clear ho hb hg hat cw8
                                refine hK _ _ ?_
                                clear hK K
                                refine wpAny_take (i := 20) (v := ?vk46) rfl (by kernel_rfl) (by kernel_rfl) (by kernel_rfl) (fun _ _ _ h => h) (Or.inl ⟨by kernel_rfl, ?yk46⟩) ?_
                                case yk46 => (intro w; go_simp; try with_reducible rfl)
                                refine wpAny_take (i := 21) (v := ?vk47) rfl (by kernel_rfl) (by kernel_rfl) (by kernel_rfl) (fun _ _ _ h => h) (Or.inl ⟨by kernel_rfl, ?yk47⟩) ?_
                                case yk47 => (intro w; go_simp; try with_reducible rfl)
                                refine wpAny_ready (rs := [22]) (by kernel_rfl) (by simp) ?_
                                refine (AllReady.cons rfl (fun K hK => ?_) AllReady.nil)
                                go_simp
                                refine hK _ _ ?_
                                clear hK K
                                refine wpAny_done (by kernel_rfl) ?_ _
                                go_wp2_with fail
                                go_roundw
                                case rel => exact ⟨i + 1, _, by simp, HI.out, by rw [HSU.out]; exact HGR⟩
                                case measure => simp [intOf]; have := HI.out; omega
                      · have hie : i = m := by omega
                        have hb9 : decide (i < m) = false := decide_eq_false hlt
                        have hb10 : decide ((i : Int) < (m : Int)) = false := decide_eq_false (by omega)
                        rw [hie] at HC
                        clear hlt hi
                        go_wp2_with fail
                        go_end0
                        rw [HR6.out]
                        exact ⟨rfl, _, HC.out.ix, HC.out.fr, HC.out.atb⟩
end Go.Proofs.Yteffjbjhkaobfaa.HI
namespace Go.Proofs.Yteffjbjhkaobfaa.HI
open Go.RowKit Go.Proofs.YteffjbjhkaobfaaW.PrintWords Go.Proofs.YteffjbjhkaobfaaW.PrintLast Go.Proofs.YteffjbjhkaobfaaW.PrintMore Go.Proofs.Yteffjbjhkaobfaa.HW Go.Proofs.Yteffjbjhkaobfaa.MB Go.Proofs.Yteffjbjhkaobfaa.Fn Go.Proofs.Yteffjbjhkaobfaa.HF Go.Proofs.Yteffjbjhkaobfaa.RT Go.Proofs.Yteffjbjhkaobfaa.RT.Rd
attribute [local go_sem] max2_int min2_int max_two min_two max_three min_three max_four min_four   -- for this text's walks alone
/-- Where a reader stands. -/
def posOf (g : Nat) (w : World) : Nat :=
  match w.heap[g]? with
  | some (.cells cs _ _) => (intOf (cs.getD 2 undef)).toNat
  | _ => 0
theorem posOf_is {w : World} {g : Nat} {s : ByteArray} {a : Nat} (h : IsR w g s a) : posOf g w = a := by
  unfold posOf
  rw [show w.heap[g]? = _ from h]
  rfl
/-- A symbol takes a bit at least. -/
theorem symT_pos {lens : List Int} {s : ByteArray} {a a' : Nat} {v : Int} (ha : a ≤ 8 * s.size) (h : (symT lens).run s a = .ok v a') : a < a' ∧ a' ≤ 8 * s.size := by
  have hp := run_place s (symT lens) a v a' ha h
  refine ⟨?_, hp.2⟩
  unfold symT symG run at h
  split at h
  · have := run_place s _ (a + 1) v a' (by omega) h
    omega
  · cases h
theorem packedT_step (most : Nat) (lens : List Int) (o : Option (List Int)) (f : Nat) (out : List Int) (s : ByteArray) (a : Nat) : (packedT most lens o (f + 1) out).run s a = match (symT lens).run s a with
    | .no er => .no er
    | .ok k a1 => (if k = 256 then ret out else if 256 < k then (copiesT most out k.toNat o).bind fun q => packedT most lens o f q else if most < out.length + 1 then err 4 else packedT most lens o f (out ++ [k])).run s a1 := by
  show ((symT lens).bind _).run s a = _
  rw [run_bind]
  cases (symT lens).run s a <;> rfl
set_option maxRecDepth 100000 in
set_option maxHeartbeats 8000000 in
theorem packedX {W : World} {B x g : Nat} {ov : Value} {s : ByteArray} {a most : Nat} {out : List Int} (h : IsX W B x g ov s a most out) {Bt t : Nat} {lens : List Int} {lv wv sv : Value} (ht : IsTab W Bt t lens lv wv sv) (ho : okL lens = true) (h0 : 0 < lens.length) (h1 : lens.length ≤ 288) {Bd : Nat} {d : Value} {o : Option (List Int)} (hd : DistIs W Bd d o) (F : Nat) (hF : 8 * s.size < F + a) :
    Calls Try.prog 32 #[.pointer (some ⟨x, 0, none⟩), .pointer (some ⟨t, 0, none⟩), d] W (PX (fun _ : List Int => .tuple #[]) (fun o => o) B x g ov s most W ((packedT most lens o F out).run s a)) := by
  have H := Aside0.mk h
  have HT := Aside0.mk ht
  have HO := Aside0.mk ho
  have H0 := Aside0.mk (And.intro h0 h1)
  have HD := Aside0.mk hd
  have HC0 : Aside0 (CpS W W B x g ov s most a ov out) := ⟨h, Fr.refl _ _, AtB.refl _ _⟩
  have HF := Aside0.mk hF
  clear h ht ho h0 h1 hd hF
  go_enter Try.func32, Try.ntmps32
  go_wp2_with fail
  go_loopw [6] (fun v6 wr => ∃ (f a1 : Nat) (ov1 : Value) (o1 : List Int), 8 * s.size < f + a1 ∧ Aside0 (CpS W wr B x g ov s most a1 ov1 o1) ∧ Aside0 ((packedT most lens o F out).run s a = (packedT most lens o f o1).run s a1)) (fun _ wr => 8 * s.size - posOf g wr)
  case atStart => exact ⟨F, a, ov, out, HF.out, HC0, ⟨rfl⟩⟩
  case round =>
    clear HC0
    obtain ⟨f, a1, ov1, o1, hf, HC, HRUN⟩ := hrel
    have hle := HC.out.ix.le
    obtain ⟨f, rfl⟩ : ∃ f', f = f' + 1 := ⟨f - 1, by omega⟩
    have hrun := HRUN.out
    rw [packedT_step] at hrun
    have HR := Aside0.mk hrun
    have HSY := Aside0.mk (symX_ok HC.out.ix (IsTab.keepX HT.out H.out HC.out.fr) HO.out)
    have HPO := Aside0.mk (posOf_is HC.out.ix.rd)
    have HFF := Aside0.mk hf
    have HLE := Aside0.mk hle
    clear hrun HRUN hf hle
    go_wp2_with fail
    refine HSY.out.mono ?_
    cases hsy : (symT lens).run s a1 with
    | no er =>
      rintro e w1 ⟨rfl, hb⟩
      have hr := HR.out
      rw [hsy] at hr
      exact ⟨rfl, PX_no hr ((HC.out.fr.below H.out.base H.out.ge).trans hb)⟩
    | ok k a2 =>
      rintro e w1 ⟨rfl, ov2, hx2, hf2, hat2⟩
      have HC2 : Aside0 (CpS W w1 B x g ov s most a2 ov2 o1) := ⟨hx2, XS_then HC.out.fr hf2 HC.out.atb, AtB.trans HC.out.atb hat2 HC.out.fr.size⟩
      have hr := HR.out
      rw [hsy] at hr
      simp only at hr
      have HR2 := Aside0.mk hr
      have hk := symT_rng H0.out.1 hsy
      have HPS := Aside0.mk (symT_pos HLE.out hsy)
      obtain ⟨k, rfl⟩ : ∃ m : Nat, k = m := ⟨k.toNat, by omega⟩
      rw [Int.toNat_natCast] at HR2
      have hk2 : k < 288 := by have := H0.out.2; omega
      clear hr HR HSY HC hx2 hf2 hat2 hsy hk
      by_cases h256 : k = 256
      · rw [if_pos (by omega)] at HR2
        subst h256
        clear hk2
        go_wp2_with fail
        go_end0
        rw [HR2.out]
        exact ⟨rfl, _, HC2.out.ix, HC2.out.fr, HC2.out.atb⟩
      · rw [if_neg (by omega)] at HR2
        have b1 : decide ((k : Int) = 256) = false := decide_eq_false (by omega)
        have b2 : ((k : Int) == 256) = false := by rw [beq_eq_false_iff_ne]; omega
        have b3 : decide (k = 256) = false := decide_eq_false h256
        by_cases hgt : 256 < k
        · rw [if_pos (by omega), run_bind] at HR2
          have b4 : decide ((256 : Int) < (k : Int)) = true := decide_eq_true (by omega)
          have b5 : decide (256 < k) = true := decide_eq_true hgt
          have HCP := Aside0.mk (copiesX HC2.out.ix (DistIs.keepX HD.out H.out HC2.out.fr) k hgt (by omega))
          clear h256 hgt hk2
          go_wp2_with fail
          refine HCP.out.mono ?_
          cases hcp : (copiesT most o1 k o).run s a2 with
          | no er =>
            rintro e w2 ⟨rfl, hb⟩
            have hr := HR2.out
            rw [hcp] at hr
            exact ⟨rfl, PX_no hr ((HC2.out.fr.below H.out.base H.out.ge).trans hb)⟩
          | ok o2 a3 =>
            rintro e w2 ⟨rfl, ov3, hx3, hf3, hat3⟩
            have HC3 : Aside0 (CpS W w2 B x g ov s most a3 ov3 o2) := ⟨hx3, XS_then HC2.out.fr hf3 HC2.out.atb, AtB.trans HC2.out.atb hat3 HC2.out.fr.size⟩
            have hr := HR2.out
            rw [hcp] at hr
            simp only at hr
            have HR3 := Aside0.mk hr
            have HP3 := Aside0.mk (run_place s _ a2 _ a3 HPS.out.2 hcp)
            have HPO3 := Aside0.mk (posOf_is HC3.out.ix.rd)
            clear hr HR2 HCP HC2 hx3 hf3 hat3 hcp
            go_wp2_with fail
            go_roundw
            case rel => exact ⟨f, a3, ov3, o2, by have := HFF.out; have := HPS.out; have := HP3.out; omega, HC3, HR3⟩
            case measure => rw [HPO.out, HPO3.out]; have := HPS.out; have := HP3.out; omega
        · rw [if_neg (by omega)] at HR2
          have b4 : decide ((256 : Int) < (k : Int)) = false := decide_eq_false (by omega)
          have b5 : decide (256 < k) = false := decide_eq_false hgt
          by_cases hmo : most < o1.length + 1
          · rw [if_pos hmo] at HR2
            have HRO := Aside0.mk (room_no HC2.out.ix 1 (by decide) hmo)
            clear h256 hgt hk2 hmo
            go_wp2_with fail
            refine HRO.out.mono ?_
            rintro e w2 ⟨rfl, hb⟩
            exact ⟨rfl, PX_no HR2.out ((HC2.out.fr.below H.out.base H.out.ge).trans (hb.mono HC2.out.ix.base))⟩
          · rw [if_neg hmo] at HR2
            have HRO := Aside0.mk (room_ok HC2.out.ix 1 (by decide) hmo)
            have HMO := Aside0.mk hmo
            have hwc : IntKind.u8.wrap (k : Int) = (k : Int) := IntWalk.u8_in _ (by omega)
            clear h256 hgt hk2 hmo
            go_wp2_with fail
            refine HRO.out.mono ?_
            rintro e w2 ⟨rfl, hb⟩
            have HC3 := Aside0.mk (HC2.out.below hb)
            obtain ⟨A1, c1, hov⟩ := HC3.out.ix.slice
            subst hov
            have c2 := HC3.out.ix.c2
            have c2a : (w2.alloc (.cells #[.int .u8 (k : Int)] 5)).cell? ⟨x, 2, none⟩ = some (.slice A1 o1.length c1) := (HC3.out.ix.below (below_alloc (Below.refl _ _) _)).c2
            clear hb HC2 HRO
            go_wp2_with ((with_reducible refine gate_builtin (b := .append) (xs := #[.tmp 16, .tmp 19]) rfl ?_); at_builtin; go_must (refine Kd.R_append (Kd.int .u8) (w0 := w2) B rfl (.tmp 16) (.tmp 19) 33 5 (.int .u8 0) 1 rfl Try.underlying33 info5 (by decide) (by decide) (by decide) (.slice A1 o1.length c1) o1 (k : Int) [.int .u8 (k : Int)] (fun _ => True) (fun _ => False) rfl rfl ?aP (fun _ hk => hk.elim) ?aF ?aO ?aB ?aS ?aL ?_); (case aP => exact rfl); (case aF => exact (fun _ _ => trivial)); (case aO => exact HC3.out.ix.ro); (case aB => exact Below.refl _ _); (case aS => exact HC3.out.ix.base); (case aL => have := HMO.out; have := HC3.out.ix.ml; omega); intro v1 w8 ho hb hg hat; have cw8 := (hg.block x HC3.out.ix.lt.1 (fun e => HC3.out.ix.ne.2.1 e.symm)).trans HC3.out.ix.bx; have c28 := (blk_cell cw8 2).trans (rfl : _ = some (Value.slice A1 o1.length c1)); have f28 := blk_frozen cw8 2; have HGR := Aside0.mk (HC3.out.grow ho hg hat (by rw [List.length_append]; have := HMO.out; exact Nat.le_of_not_lt this)); obtain ⟨A9, c9, e9⟩ := Kd.R_slice ho; subst e9; rw [List.length_append, List.length_singleton] at HGR; clear ho hb hg hat cw8)
            have HPO3 := Aside0.mk (posOf_is HGR.out.ix.rd)
            go_roundw
            case rel => exact ⟨f, a2, _, _, by have := HFF.out; have := HPS.out; omega, HGR, HR2⟩
            case measure => rw [HPO.out, HPO3.out]; have := HPS.out; omega
end Go.Proofs.Yteffjbjhkaobfaa.HI
