/- Parts: HWBD HTPut HFix PSyT HCput -/
import Derived.Test.YtaghmhcccighgaaK03
import Derived.Outline
import Derived.Test.YtaghmhcccighgaaK05
import Derived.Test.YtaghmhcccighgaaK10
import Derived.RegionTactic
import Derived.Test.YtaghmhcccighgaaK01
import Derived.Test.YtaghmhcccighgaaK11
set_option linter.unusedVariables false
set_option linter.unusedSimpArgs false
section
/- A writer's methods: what each does to the writer. -/
namespace Go.Proofs.Ytaghmhcccighgaa.HW
open Go.RowKit Go.Proofs.YtaghmhcccighgaaW.PrintWords Go.Proofs.YtaghmhcccighgaaW.PrintLast Go.Proofs.YtaghmhcccighgaaW.PrintMore Go.Proofs.Ytaghmhcccighgaa.MB
attribute [local go_sem] max2_int min2_int max_two min_two max_three min_three max_four min_four   -- for this text's walks alone
theorem info5 : (Try.prog.info? 5).map (fun i => (i.zero, i.size, i.bytes)) = some (some (.int .u8 0), 1, 1) := by kernel_rfl
theorem given_any (g : Nat) (is : Bool) (v : Value) (n : Int) (w : World) (h : WBlk w g is v n) :
    Calls Try.prog 36 #[.pointer (some ⟨g, 0, none⟩)] w fun e w' => e = .returned (.bool is) ∧ w = w' := by
  have hc := h.c0
  clear h
  go_enter Try.func36, Try.ntmps36
  go_wp2
  go_ret
  exact ⟨rfl, rfl⟩
theorem div_lt_pow {x j r m : Nat} (h : x < 2 ^ m) (hj : j + r = m) : x / 2 ^ j < 2 ^ r := by
  rw [Nat.div_lt_iff_lt_mul (Nat.two_pow_pos j), ← Nat.pow_add, Nat.add_comm r j, hj]
  exact h
theorem mul_lt_64 {a t : Nat} (ha : a < 2 ^ 57) (ht : t < 8) : a * 2 ^ t < 2 ^ 64 := by
  have a2 : 2 ^ t ≤ 2 ^ 7 := Nat.pow_le_pow_right (by decide) (by omega)
  have h1 : a * 2 ^ t ≤ a * 2 ^ 7 := Nat.mul_le_mul_left _ a2
  omega
theorem new_byte {o a t : Nat} (ho : o < 256) (ha : a < 2 ^ 57) (ht : t < 8) :
    bits BinOp.or IntKind.u8 (o : Int) (IntKind.u64.wrap ((a : Int) * 2 ^ t) % 256) = ((o ||| (a * 2 ^ t % 256) : Nat) : Int) := by
  have hlt := mul_lt_64 ha ht
  have e3 : (a : Int) * 2 ^ t = ((a * 2 ^ t : Nat) : Int) := by simp
  generalize a * 2 ^ t = z at hlt e3
  have e4 : ((z : Nat) : Int) % 256 = ((z % 256 : Nat) : Int) := by omega
  rw [e3, wraps_u64 _ (by omega) (cast_lt_two_pow hlt), e4, or_u8 o _ (by omega) (Nat.mod_lt _ (by decide))]
theorem wb_round {B g : Nat} {v : Value} {l : List Bool} {x m : Nat} {w W2 : World} {gb cap q L j r st : Nat} {bs : List Int} {nb_ : Int} (HJ : j + r = m) (HL : L = l.length + j) (HLEN : (l ++ bitsOf x j).length = L)
    (HP : Packs bs (l ++ bitsOf x j)) (HQ : q = L / 8) (HRM : (room bs L).length = q + 1) (H2 : x < 2 ^ m) (h1 : m ≤ 57) (hl : l.length ≤ 1000000000000) (hs0 : 0 < st) (hs1 : st ≤ r) (HS8 : st ≤ 8 - L % 8) (HSr : st = 8 - L % 8 ∨ st = r)
    (HNB : bits BinOp.or IntKind.u8 (rd (room bs L) (q : Int)) (IntKind.u64.wrap ((x : Int) / 2 ^ j * 2 ^ (L % 8)) % 256) = nb_)
    (HW2 : WBlk W2 g true (.slice (some ⟨gb, 0, none⟩) (q + 1) cap) L) (HO2 : W2.ownsRow B 5 1 (.slice (some ⟨gb, 0, none⟩) (q + 1) cap) (q + 1) (nums .u8 ((room bs L).set q nb_)))
    (HF2 : Fr (WS g v) w W2) (HA : AtB w v (.slice (some ⟨gb, 0, none⟩) (q + 1) cap)) (HGB : B ≤ g) :
    (∃ j_1 r_1 vr, Value.int IntKind.i64 (wrap64 ((r : Int) - (st : Int))) = Value.int IntKind.i64 ((r_1 : Nat) : Int) ∧ Value.int IntKind.u64 ((x : Int) / 2 ^ j / 2 ^ st) = Value.int IntKind.u64 ((x / 2 ^ j_1 : Nat) : Int) ∧
      Aside0 (j_1 + r_1 = m) ∧ Aside0 (IsW (W2.setCell { block := g, off := 2 } (Value.int IntKind.i64 (wrap64 ((L : Int) + (st : Int))))) B g vr (l ++ bitsOf x j_1)) ∧
      Aside0 (Fr (WS g v) w (W2.setCell { block := g, off := 2 } (Value.int IntKind.i64 (wrap64 ((L : Int) + (st : Int)))))) ∧ Aside0 (AtB w v vr)) ∧
    (intOf (Value.int IntKind.i64 (wrap64 ((r : Int) - (st : Int))))).toNat < (intOf (Value.int IntKind.i64 ((r : Nat) : Int))).toNat := by
  have HN := Aside0.mk HNB
  clear HNB
  have hr57 : r ≤ 57 := by omega
  have e1 : wrap64 ((r : Int) - (st : Int)) = ((r - st : Nat) : Int) := by rw [wrap64_id _ (by omega) (by omega)]; omega
  have e2 : wrap64 ((L : Int) + (st : Int)) = ((L + st : Nat) : Int) := by rw [wrap64_id _ (by omega) (by omega)]; omega
  rw [e1, e2]
  clear e1 e2
  have f0 : WS g v g := Or.inl rfl
  have f1 := HF2.setCell (p := ⟨g, 2, none⟩) (Or.inl f0) (Value.int IntKind.i64 ((L + st : Nat) : Int))
  have f2 : j + st + (r - st) = m := by omega
  refine ⟨⟨j + st, r - st, .slice (some ⟨gb, 0, none⟩) (q + 1) cap, rfl, ?_, ⟨f2⟩, ?_, ⟨f1⟩, ⟨HA⟩⟩, ?_⟩
  · have : (x : Int) / 2 ^ j / 2 ^ st = ((x / 2 ^ j / 2 ^ st : Nat) : Int) := by simp
    rw [this, Nat.div_div_eq_div_mul, ← Nat.pow_add]
  · constructor
    have hu : x / 2 ^ j < 2 ^ r := div_lt_pow H2 HJ
    have hps := packs_step HP (x / 2 ^ j) st hs0 (by rw [HLEN]; exact HS8) (by rw [HLEN]; rcases HSr with e | e; exact .inl e; exact .inr (e ▸ hu))
    rw [HLEN, ← HQ, List.append_assoc, ← bitsOf_add] at hps
    have hold := rd_mem (P := fun b => 0 ≤ b ∧ b < 256) (by have := room_rng HP; rwa [HLEN] at this) ⟨by omega, by omega⟩ (q : Int)
    have hnew : nb_ = (((rd (room bs L) (q : Int)).toNat ||| (x / 2 ^ j * 2 ^ (L % 8) % 256) : Nat) : Int) := by
      rw [← HN.out]
      obtain ⟨o, ho⟩ := Int.eq_ofNat_of_zero_le hold.1
      have a1 : x / 2 ^ j < 2 ^ 57 := Nat.lt_of_lt_of_le hu (Nat.pow_le_pow_right (by decide) hr57)
      have e5 : (x : Int) / 2 ^ j = ((x / 2 ^ j : Nat) : Int) := by simp
      rw [ho] at hold ⊢
      rw [e5]
      exact new_byte (by omega) a1 (Nat.mod_lt _ (by decide))
    rw [← hnew] at hps
    refine ⟨?_, HGB, (room bs L).set q nb_, ?_, hps⟩
    · have := HW2.set2 ((L + st : Nat) : Int)
      rwa [List.length_append, bitsOf_length, show l.length + (j + st) = L + st from by omega]
    · rw [List.length_set, HRM]
      exact own_setCell HO2 (p := ⟨g, 2, none⟩) (fun e => own_ne HO2 HW2 (by decide) (by rw [← e])) _
  · simp [intOf]; omega
set_option maxHeartbeats 2000000 in
set_option maxRecDepth 100000 in
theorem bits_ok (B g : Nat) (v : Value) (l : List Bool) (x m : Nat) (w : World) (h : IsW w B g v l) (h1 : m ≤ 57) (h2 : x < 2 ^ m) (hl : l.length ≤ 1000000000000) (hB : B ≤ w.heap.size) :
    Calls Try.prog 20 #[.pointer (some ⟨g, 0, none⟩), .int .i64 x, .int .i64 m] w fun e w' => e = .returned (.int .i64 0) ∧ ∃ v', IsW w' B g v' (l ++ bitsOf x m) ∧ Fr (WS g v) w w' ∧ AtB w v v' := by
  have b0 : decide ((m : Int) < 0) = false := by simp
  have b1 : decide (57 < (m : Int)) = false := by simp; omega
  have b2 : decide ((x : Int) < 0) = false := by simp
  have b3 : ((x : Int) / 2 ^ m != 0) = false := by
    have : (x : Int) / 2 ^ m = ((x / 2 ^ m : Nat) : Int) := by simp
    rw [this, Nat.div_eq_of_lt h2]; rfl
  have H2 := Aside0.mk h2
  have HB := Aside0.mk hB
  have H := Aside0.mk h
  clear h h2 hB
  go_enter Try.func20, Try.ntmps20
  go_wp2_with (first | (go_at_call 36; refine (given_any g true v _ _ H.out.1).mono ?_; rintro e w' ⟨rfl, rfl⟩))
  clear b0 b1 b2 b3
  go_loopw [2, 7] (fun v2 v7 wr => ∃ (j r : Nat) (vr : Value), v2 = .int .i64 (r : Nat) ∧ v7 = .int .u64 ((x / 2 ^ j : Nat) : Int) ∧ Aside0 (j + r = m) ∧ Aside0 (IsW wr B g vr (l ++ bitsOf x j)) ∧ Aside0 (Fr (WS g v) w wr) ∧ Aside0 (AtB w v vr)) (fun v2 _ _ => (intOf v2).toNat)
  case atStart => exact ⟨0, m, v, rfl, by rw [Nat.pow_zero, Nat.div_one, wraps_u64 _ (by omega) (Int.lt_of_lt_of_le (cast_lt_two_pow H2.out) (by exact_mod_cast Nat.pow_le_pow_right (by decide) (by omega : m ≤ 64)))], ⟨by omega⟩, ⟨by simpa [bitsOf] using H.out⟩, ⟨Fr.refl _ _⟩, ⟨AtB.refl _ _⟩⟩
  case round =>
    obtain ⟨j, r, vr, rfl, rfl, HJ, HI, HF, HA⟩ := hrel
    obtain ⟨L, hlen, hL⟩ : ∃ L, (l ++ bitsOf x j).length = L ∧ L = l.length + j := ⟨_, rfl, by rw [List.length_append, bitsOf_length]⟩
    have HL := Aside0.mk hL
    clear hL
    by_cases hr : 0 < r
    · have hc2 := HI.out.1.c2
      rw [hlen] at hc2
      have hc1 := HI.out.1.c1
      have hf1 := HI.out.1.fz 1
      have hgB := HI.out.2.1
      have hne := HI.out.row_ne
      obtain ⟨bs, ho0, hp0⟩ := HI.out.2.2
      have hbl := hp0.len
      rw [hlen] at hbl
      have HO := Aside0.mk ho0
      have HP := Aside0.mk hp0
      have HNE := Aside0.mk hne
      have HGB := Aside0.mk hgB
      have HWB := Aside0.mk HI.out.1
      have hbw : B ≤ wr.heap.size := Nat.le_trans HB.out HF.out.size
      have HBW := Aside0.mk hbw
      have HBL := Aside0.mk hbl
      have HLEN := Aside0.mk hlen
      clear ho0 hp0 hne hgB hbw hbl hlen HI
      have hrm : (room bs L).length = L / 8 + 1 := by have := room_len HP.out; rwa [HLEN.out] at this
      obtain ⟨q, hq⟩ : ∃ q, q = L / 8 := ⟨_, rfl⟩
      have HQ := Aside0.mk hq
      rw [← hq] at hrm
      have HRM := Aside0.mk hrm
      clear hrm hq
      by_cases hz : L % 8 = 0
      · have b0 : ((L : Int) % 8 == 0) = true := by simp; omega
        have HR0 := Aside0.mk (show bs ++ [0] = room bs L from by unfold room; rw [if_pos hz])
        clear hz
        go_wp2_with (first | (at_builtin; refine print_append_num (w0 := wr) B rfl (.tmp 45) (.tmp 46) 28 5 .u8 1 rfl Try.underlying28 info5 (by decide) vr bs 0 rfl rfl HO.out (Below.refl _ _) HBW.out ?hl ?_; (case hl => (have := HBL.out; have := HJ.out; have := HL.out; omega)); intro v1 w1 ho hb hg hat; rw [HR0.out, HRM.out] at ho; obtain ⟨gb, cap, hv1, hgb, hglt⟩ := ho.form (by omega); subst hv1; have hb1 : WBlk w1 g true vr _ := blk_grown HWB.out hg (fun e => HNE.out e.symm); have hx1 := hb1.c1; have hx2 := hb1.c2; rw [HLEN.out] at hx2; have hx3 := hb1.fz 1; have HO1 := Aside0.mk ho; have HG1 := Aside0.mk hg; have HT1 := Aside0.mk hat; have HB1 := Aside0.mk hb1; have HGL := Aside0.mk hglt; have HGB2 := Aside0.mk hgb; clear ho hb hg hat hb1 hgb hglt))
        have hgne : gb ≠ g := fun e => own_ne HO1.out HB1.out (by decide) (by subst e; rfl)
        have HW := Aside0.mk (show WBlk (w1.setCell ⟨g, 1, none⟩ (.slice (some ⟨gb, 0, none⟩) (q + 1) cap)) g true (.slice (some ⟨gb, 0, none⟩) (q + 1) cap) L from by have := HB1.out.set1 (.slice (some ⟨gb, 0, none⟩) (q + 1) cap); rwa [HLEN.out] at this)
        have HOW := Aside0.mk (own_setCell HO1.out (p := ⟨g, 1, none⟩) (fun e => hgne (by simpa [Value.ownBlock] using e.symm)) (.slice (some ⟨gb, 0, none⟩) (q + 1) cap))
        have HFW := Aside0.mk ((Fr.grown HG1.out HF.out (fun k hk => by rcases HA.out with e | ⟨b, e, hb⟩; exact .inl (.inr (e ▸ hk)); rw [e] at hk; injection hk with hk; exact .inr (hk ▸ hb))).setCell (p := ⟨g, 1, none⟩) (.inl (.inl rfl)) (.slice (some ⟨gb, 0, none⟩) (q + 1) cap))
        have HAW := Aside0.mk (HA.out.trans HT1.out HF.out.size)
        clear hc1 hf1 hc2 hx1 hx2 hx3 HG1 HT1 HB1 HO1 HF HA HO HWB HNE HBW
        generalize w1.setCell ⟨g, 1, none⟩ (.slice (some ⟨gb, 0, none⟩) (q + 1) cap) = W at HW HOW HFW ⊢
        clear HR0 HGL HGB2 b0
        have hx1 := HW.out.c1
        have hx2 := HW.out.c2
        have hxf := HW.out.fz 2
        obtain ⟨hcq, hfq⟩ := own_at HOW.out (q : Int) (by omega) (by omega)
        simp only [Int.toNat_natCast] at hcq hfq
        have hqs : (q : Int) ≤ 1000000000100 := by have := HQ.out; have := HL.out; have := HJ.out; omega
        have hw1 : wrap64 (q : Int) = q := wrap64_id _ (by omega) (by omega)
        have hw2 : IntKind.i64.wrap (q : Int) = q := by rw [i64_w]; exact hw1
        have p1 : (0 : Int) ≤ q := by omega
        have p2 : (q : Int) < q + 1 := by omega
        obtain ⟨st, hst⟩ : ∃ st : Nat, (if (r : Int) < 8 - (L : Int) % 8 then (r : Int) else 8 - (L : Int) % 8) = (st : Int) := ⟨if (r : Int) < 8 - (L : Int) % 8 then r else 8 - L % 8, by split <;> omega⟩
        have HST := Aside0.mk hst
        have hs0 : 0 < st := by split at hst <;> omega
        have hs1 : st ≤ r := by split at hst <;> omega
        have HS8 := Aside0.mk (show st ≤ 8 - L % 8 from by split at hst <;> omega)
        have HSr := Aside0.mk (show st = 8 - L % 8 ∨ st = r from by split at hst <;> omega)
        clear hst
        obtain ⟨nb_, hnb⟩ : ∃ nb_ : Int, bits BinOp.or IntKind.u8 (rd (room bs L) ↑q) (IntKind.u64.wrap (↑x / 2 ^ j * 2 ^ (L % 8)) % 256) = nb_ := ⟨_, rfl⟩
        go_region
        have HNB := Aside0.mk hnb
        clear hnb
        have HW2 := Aside0.mk (show WBlk (W.setCell ⟨gb, q, none⟩ (.int .u8 nb_)).drew g true (.slice (some ⟨gb, 0, none⟩) (q + 1) cap) L from HW.out.far (p := ⟨gb, q, none⟩) (fun e => hgne e.symm) (.int .u8 nb_))
        have HO2 := Aside0.mk (show (W.setCell ⟨gb, q, none⟩ (.int .u8 nb_)).drew.ownsRow B 5 1 (.slice (some ⟨gb, 0, none⟩) (q + 1) cap) (q + 1) (nums .u8 ((room bs L).set q nb_)) from by have := (own_store HOW.out (q : Int) nb_).1; simp only [Int.toNat_natCast] at this; exact this)
        have HF2 := Aside0.mk (show Fr (WS g v) w (W.setCell ⟨gb, q, none⟩ (.int .u8 nb_)).drew from (HFW.out.setCell (p := ⟨gb, q, none⟩) (by rcases HAW.out with e | ⟨b, e, hb⟩; exact .inl (.inr e.symm); injection e with e; exact .inr (e ▸ hb)) (.int .u8 nb_)).drew)
        clear hx1 hx2 hxf hcq hfq HFW HOW HW hw1 hw2
        generalize (W.setCell ⟨gb, q, none⟩ (.int .u8 nb_)).drew = W2 at HW2 HO2 HF2 ⊢
        have hx1 := HW2.out.c1
        have hx2 := HW2.out.c2
        have hxf := HW2.out.fz 2
        have hst := HST.out
        go_wp2
        exact wb_round HJ.out HL.out HLEN.out HP.out HQ.out HRM.out H2.out h1 hl hs0 hs1 HS8.out HSr.out HNB.out HW2.out HO2.out HF2.out HAW.out HGB.out
      · have b0 : ((L : Int) % 8 == 0) = false := by simp; omega
        have HR0 := Aside0.mk (show bs = room bs L from by unfold room; rw [if_neg hz])
        go_wp2_with (fail)
        have ho := HO.out
        have hl := HRM.out
        rw [HR0.out, HRM.out] at ho
        obtain ⟨gb, cap, hv1, hgb, hglt⟩ := ho.form (by omega)
        subst hv1
        have HW := HWB
        rw [HLEN.out] at HW
        have HOW := Aside0.mk ho
        have HFW := HF
        have HAW := HA
        have hgne : gb ≠ g := fun e => own_ne HOW.out HW.out (by decide) (by subst e; rfl)
        clear hc1 hf1 hc2 HF HA HO HWB HNE HBW HR0 ho hl hgb hglt b0 hz
        generalize wr = W at HW HOW HFW ⊢
        have hx1 := HW.out.c1
        have hx2 := HW.out.c2
        have hxf := HW.out.fz 2
        obtain ⟨hcq, hfq⟩ := own_at HOW.out (q : Int) (by omega) (by omega)
        simp only [Int.toNat_natCast] at hcq hfq
        have hqs : (q : Int) ≤ 1000000000100 := by have := HQ.out; have := HL.out; have := HJ.out; omega
        have hw1 : wrap64 (q : Int) = q := wrap64_id _ (by omega) (by omega)
        have hw2 : IntKind.i64.wrap (q : Int) = q := by rw [i64_w]; exact hw1
        have p1 : (0 : Int) ≤ q := by omega
        have p2 : (q : Int) < q + 1 := by omega
        obtain ⟨st, hst⟩ : ∃ st : Nat, (if (r : Int) < 8 - (L : Int) % 8 then (r : Int) else 8 - (L : Int) % 8) = (st : Int) := ⟨if (r : Int) < 8 - (L : Int) % 8 then r else 8 - L % 8, by split <;> omega⟩
        have HST := Aside0.mk hst
        have hs0 : 0 < st := by split at hst <;> omega
        have hs1 : st ≤ r := by split at hst <;> omega
        have HS8 := Aside0.mk (show st ≤ 8 - L % 8 from by split at hst <;> omega)
        have HSr := Aside0.mk (show st = 8 - L % 8 ∨ st = r from by split at hst <;> omega)
        clear hst
        obtain ⟨nb_, hnb⟩ : ∃ nb_ : Int, bits BinOp.or IntKind.u8 (rd (room bs L) ↑q) (IntKind.u64.wrap (↑x / 2 ^ j * 2 ^ (L % 8)) % 256) = nb_ := ⟨_, rfl⟩
        go_region
        have HNB := Aside0.mk hnb
        clear hnb
        have HW2 := Aside0.mk (show WBlk (W.setCell ⟨gb, q, none⟩ (.int .u8 nb_)).drew g true (.slice (some ⟨gb, 0, none⟩) (q + 1) cap) L from HW.out.far (p := ⟨gb, q, none⟩) (fun e => hgne e.symm) (.int .u8 nb_))
        have HO2 := Aside0.mk (show (W.setCell ⟨gb, q, none⟩ (.int .u8 nb_)).drew.ownsRow B 5 1 (.slice (some ⟨gb, 0, none⟩) (q + 1) cap) (q + 1) (nums .u8 ((room bs L).set q nb_)) from by have := (own_store HOW.out (q : Int) nb_).1; simp only [Int.toNat_natCast] at this; exact this)
        have HF2 := Aside0.mk (show Fr (WS g v) w (W.setCell ⟨gb, q, none⟩ (.int .u8 nb_)).drew from (HFW.out.setCell (p := ⟨gb, q, none⟩) (by rcases HAW.out with e | ⟨b, e, hb⟩; exact .inl (.inr e.symm); injection e with e; exact .inr (e ▸ hb)) (.int .u8 nb_)).drew)
        clear hx1 hx2 hxf hcq hfq HFW HOW HW hw1 hw2
        generalize (W.setCell ⟨gb, q, none⟩ (.int .u8 nb_)).drew = W2 at HW2 HO2 HF2 ⊢
        have hx1 := HW2.out.c1
        have hx2 := HW2.out.c2
        have hxf := HW2.out.fz 2
        have hst := HST.out
        go_wp2
        exact wb_round HJ.out HL.out HLEN.out HP.out HQ.out HRM.out H2.out h1 hl hs0 hs1 HS8.out HSr.out HNB.out HW2.out HO2.out HF2.out HAW.out HGB.out
    · have b0 : decide (0 < (r : Int)) = false := by simp; omega
      go_wp2
      go_ret
      have hj : j = m := by have := HJ.out; omega
      subst hj
      exact ⟨rfl, vr, HI.out, HF.out, HA.out⟩
set_option maxHeartbeats 1000000 in
theorem newWriter (w : World) :
    Calls Try.prog 19 #[] w fun e w' => e = .returned (.pointer (some ⟨w.heap.size, 0, none⟩)) ∧ IsW w' w.heap.size w.heap.size (.slice none 0 0) [] ∧ Below w.heap.size w w' := by
  have hu := Try.underlying69
  go_enter Try.func19, Try.ntmps19
  go_wp2
  go_ret
  exact ⟨rfl, ⟨heap_alloc_new w _, Nat.le_refl _, [], own_nil _ _ _ _, Packs.nil⟩, below_alloc (Below.refl _ _) _⟩
set_option maxHeartbeats 1000000 in
theorem w_done (B g : Nat) (v : Value) (l : List Bool) (w : World) (h : IsW w B g v l) :
    Calls Try.prog 23 #[.pointer (some ⟨g, 0, none⟩)] w fun e w' => ∃ s, e = .returned (.string s) ∧ STold s l ∧ w = w' := by
  have H := Aside0.mk h.1
  have hc := h.1.c1
  obtain ⟨bs, ho, hp⟩ := h.2.2
  have hcv := own_string (P := Try.prog) Try.underlying28 Try.underlying5 Try.underlying9 ho
  have hs := Aside0.mk (told_strOfNums hp)
  obtain ⟨A, c, hv⟩ := own_slice ho
  subst hv
  generalize strOfNums bs = s at hs hcv
  clear h ho hp
  go_enter Try.func23, Try.ntmps23
  go_wp2_with (first | (go_at_call 36; refine (given_any g true _ _ _ H.out).mono ?_; rintro e w' ⟨rfl, rfl⟩))
  go_ret
  exact ⟨s, rfl, hs.out, rfl⟩
set_option maxHeartbeats 1000000 in
theorem w_align (B g : Nat) (v : Value) (l : List Bool) (w : World) (h : IsW w B g v l) (hl : l.length ≤ 100000000000000) :
    Calls Try.prog 21 #[.pointer (some ⟨g, 0, none⟩)] w fun e w' => e = .returned (.int .i64 0) ∧ IsW w' B g v (l ++ List.replicate (pad l.length) false) ∧ Fr (WS g v) w w' := by
  have H := Aside0.mk h
  have hc := h.1.c1
  have hc2 := h.1.c2
  have hf := h.1.fz 2
  obtain ⟨bs, ho, hp⟩ := h.2.2
  have hbl := hp.len
  obtain ⟨K, hK⟩ : ∃ K, bs.length = K := ⟨_, rfl⟩
  have hk8 : K ≤ 12500000000001 := by omega
  have HK := Aside0.mk (show 8 * K = (l ++ List.replicate (pad l.length) false).length from by rw [List.length_append, List.length_replicate, pad_len, ← hK, hbl])
  rw [hK] at ho
  have HO := Aside0.mk ho
  have HP := Aside0.mk hp
  have HKL := Aside0.mk hK
  obtain ⟨A, c, hv⟩ := own_slice ho
  subst hv
  clear h ho hp hbl hK
  go_enter Try.func21, Try.ntmps21
  go_wp2_with (first | (go_at_call 36; refine (given_any g true _ _ _ H.out.1).mono ?_; rintro e w' ⟨rfl, rfl⟩))
  go_ret
  have e1 : (8 * (K : Int)) = (((l ++ List.replicate (pad l.length) false).length : Nat) : Int) := by rw [← HK.out]; omega
  rw [e1]
  exact ⟨rfl, ⟨H.out.1.set2 _, H.out.2.1, bs, own_setCell (by rw [HKL.out]; exact HO.out) (p := ⟨g, 2, none⟩) (fun e => H.out.row_ne e.symm) _, packs_align HP.out⟩, (Fr.refl _ _).setCell (p := ⟨g, 2, none⟩) (Or.inl (Or.inl rfl)) _⟩
set_option maxHeartbeats 1000000 in
theorem w_bytes_bad (B g : Nat) (v : Value) (l : List Bool) (s : ByteArray) (w : World) (h : IsW w B g v l) (hb : l.length % 8 ≠ 0) :
    Calls Try.prog 22 #[.pointer (some ⟨g, 0, none⟩), .string s] w fun e w' => e = .returned (.int .i64 10) ∧ w = w' := by
  have H := Aside0.mk h.1
  have hc2 := h.1.c2
  have b0 : ((l.length : Int) % 8 != 0) = true := by simp; omega
  clear h hb
  go_enter Try.func22, Try.ntmps22
  go_wp2_with (first | (go_at_call 36; refine (given_any g true _ _ _ H.out).mono ?_; rintro e w' ⟨rfl, rfl⟩))
  go_ret
  exact ⟨rfl, rfl⟩
set_option maxHeartbeats 1000000 in
theorem w_bytes (B g : Nat) (v : Value) (l : List Bool) (s : ByteArray) (w : World) (h : IsW w B g v l) (hb : l.length % 8 = 0) (hl : l.length ≤ 1000000000000) (hs : s.size ≤ 100000000000) (hB : B ≤ w.heap.size) :
    Calls Try.prog 22 #[.pointer (some ⟨g, 0, none⟩), .string s] w fun e w' => e = .returned (.int .i64 0) ∧ ∃ v', IsW w' B g v' (l ++ bitsS s) ∧ Fr (WS g v) w w' ∧ AtB w v v' := by
  have H := Aside0.mk h
  have hc1 := h.1.c1
  have hc2 := h.1.c2
  have hf1 := h.1.fz 1
  have b0 : ((l.length : Int) % 8 != 0) = false := by simp; omega
  obtain ⟨bs, ho, hp⟩ := h.2.2
  have HL := Aside0.mk hl
  have HS := Aside0.mk hs
  have HB := Aside0.mk hB
  have HO := Aside0.mk ho
  have HP := Aside0.mk hp
  have HBM := Aside0.mk hb
  clear h ho hp hb hl hs hB
  go_enter Try.func22, Try.ntmps22
  go_wp2_with (first | (go_at_call 36; refine (given_any g true _ _ _ H.out.1).mono ?_; rintro e w' ⟨rfl, rfl⟩) | (at_builtin; refine app_str B rfl (.tmp 18) (.tmp 19) 28 9 5 rfl Try.underlying28 Try.underlying9 info5 v bs s rfl rfl HO.out HB.out ?hl ?_; (case hl => (have := HP.out.len; have := HL.out; have := HS.out; omega)); intro v1 w1 ho hg hat; obtain ⟨A1, c1, hv1⟩ := own_slice ho; subst hv1; have hb1 : WBlk w1 g true v _ := blk_grown H.out.1 hg (fun e => H.out.row_ne e.symm); have hx1 := hb1.c1; have hx2 := hb1.c2; have hx3 := hb1.fz 1; have hx4 := hb1.fz 2; have hlen : (bs ++ bytesOf s).length ≤ 10000000000000 := (by have := HP.out.len; have := HL.out; have := HS.out; rw [List.length_append, bytesOf_length]; omega); generalize hbn : bs ++ bytesOf s = bn at ho hlen hat; have HBN := Aside0.mk hbn; have HO1 := Aside0.mk ho; have HG1 := Aside0.mk hg; have HT1 := Aside0.mk hat; have HB1 := Aside0.mk hb1; clear ho hg hat hb1 hbn))
  go_ret
  have hp := packs_bytes HP.out HBM.out s
  rw [HBN.out] at hp
  have e1 : (8 * (bn.length : Int)) = (((l ++ bitsS s).length : Nat) : Int) := by have := hp.len; have := HBM.out; rw [List.length_append, bitsS_length] at *; omega
  rw [e1]
  have hb2 := (HB1.out.set1 (.slice A1 bn.length c1)).set2 (((l ++ bitsS s).length : Nat) : Int)
  have hne2 : (Value.slice A1 bn.length c1).ownBlock ≠ some g := fun e => own_ne HO1.out HB1.out (by decide) e.symm
  refine ⟨rfl, _, ⟨hb2, H.out.2.1, bn, own_setCell (own_setCell HO1.out (p := ⟨g, 1, none⟩) (fun e => hne2 e.symm) _) (p := ⟨g, 2, none⟩) (fun e => hne2 e.symm) _, hp⟩, ?_, HT1.out⟩
  have f0 : WS g v g := Or.inl rfl
  exact ((Fr.grown HG1.out (Fr.refl (WS g v) w) (fun k hk => .inl (.inr hk))).setCell (p := ⟨g, 1, none⟩) (Or.inl f0) _).setCell (p := ⟨g, 2, none⟩) (Or.inl f0) _
end Go.Proofs.Ytaghmhcccighgaa.HW
end
section
/- huff.Table's Put: walked. -/
namespace Go.Proofs.Ytaghmhcccighgaa.HF
open Go.RowKit Go.Proofs.YtaghmhcccighgaaW.PrintWords Go.Proofs.YtaghmhcccighgaaW.PrintLast Go.Proofs.YtaghmhcccighgaaW.PrintMore Go.Proofs.Ytaghmhcccighgaa.HW Go.Proofs.Ytaghmhcccighgaa.MB Go.Proofs.Ytaghmhcccighgaa.Fn
attribute [local go_sem] max2_int min2_int max_two min_two max_three min_three max_four min_four   -- for this text's walks alone
theorem IsTab.keepW {W W' : World} {B B2 t g : Nat} {lens : List Int} {lv wv sv v : Value} {l : List Bool} (h : IsTab W B t lens lv wv sv) (hw : IsW W B2 g v l) (hf : Fr (WS g v) W W') : IsTab W' B t lens lv wv sv := by
  refine h.keep hf (fun k hk e => ?_)
  rcases e with e | e
  · exact h.other hw.1 (by decide) (by decide) (e ▸ hk)
  · obtain ⟨_, _, bs, ho, _⟩ := hw
    obtain ⟨cells, hc⟩ := own_typed ho k e
    exact h.other hc (by decide) (by decide) hk
theorem WS_then {W w w' : World} {g : Nat} {v v1 : Value} (h : Fr (WS g v) W w) (k : Fr (WS g v1) w w') (ha : AtB W v v1) : Fr (WS g v) W w' :=
  h.then_ k (fun q hq => by
    rcases hq with hq | hq
    · exact Or.inl (Or.inl hq)
    · rcases ha with ha | ⟨b, hb, hb2⟩
      · exact Or.inl (Or.inr (ha ▸ hq))
      · rw [hb] at hq
        injection hq with hq
        subst hq
        exact Or.inr hb2)
/-- What Put of a symbol with a word tells. -/
def PuQ (c L B2 g : Nat) (v : Value) (l : List Bool) (W : World) (e : Ending) (w' : World) : Prop :=
  e = .returned (.int .i64 0) ∧ ∃ v', IsW w' B2 g v' (l ++ wordB c L) ∧ Fr (WS g v) W w' ∧ AtB W v v'
structure PuS (W w : World) (B B2 t g : Nat) (lens : List Int) (lv wv sv : Value) (v v1 : Value) (l pre : List Bool) : Prop where
  tb : IsTab w B t lens lv wv sv
  iw : IsW w B2 g v1 (l ++ pre)
  fr : Fr (WS g v) W w
  at_ : AtB W v v1
  le : W.heap.size ≤ w.heap.size
set_option maxRecDepth 100000 in
set_option maxHeartbeats 8000000 in
theorem put_ok {W : World} {B B2 t g : Nat} {lens : List Int} {lv wv sv v : Value} {l : List Bool} (h : IsTab W B t lens lv wv sv) (hw : IsW W B2 g v l) (hl : l.length ≤ 100000000000) (hB : B2 ≤ W.heap.size) (x c L : Nat) (hx : x < lens.length) (hL : rd lens (x : Int) = (L : Int)) (h0 : 0 < L) (h15 : L ≤ 15)
    (hc : rd (codesL lens) (x : Int) = (c : Int)) (hc15 : c < 2 ^ 63) (hn : lens.length ≤ 288) :
    Calls Try.prog 45 #[.pointer (some ⟨t, 0, none⟩), .pointer (some ⟨g, 0, none⟩), .int .i64 x] W (PuQ c L B2 g v l W) := by
  have HS0 := Aside0.mk (PuS.mk (W := W) (v := v) (l := l) (pre := []) h (by rw [List.append_nil]; exact hw) (Fr.refl _ _) (AtB.refl _ _) (Nat.le_refl _))
  have HLL := Aside0.mk hl
  have HBB := Aside0.mk hB
  have HC15 := Aside0.mk hc15
  have HCC := Aside0.mk hc
  have c0 := h.bt.c0
  obtain ⟨lA, lc, hlv⟩ := Kd.R_slice h.rl
  have hrl := (Kd.R_reads' (hlv ▸ h.rl)).2.2
  obtain ⟨ad1, hA1, x0⟩ := Kd.at_int hrl (x : Int) (by omega) (by omega)
  subst hA1
  rw [hL] at x0
  simp only [Int.toNat_natCast] at x0
  rw [hlv] at c0
  obtain ⟨wA, wk, hwv⟩ := Kd.R_slice h.rw
  have HWV := Aside0.mk hwv
  have b1 : decide ((x : Int) < 0) = false := decide_eq_false (by omega)
  have b1' : ¬ (x : Int) < 0 := by omega
  have b2 : decide ((lens.length : Int) ≤ (x : Int)) = false := decide_eq_false (by omega)
  have b2' : ¬ (lens.length : Int) ≤ (x : Int) := by omega
  have b3 : decide ((L : Int) = 0) = false := decide_eq_false (by omega)
  have b3' : ¬ (L : Int) = 0 := by omega
  have hx0 : (0 : Int) ≤ (x : Int) := by omega
  have hx1 : (x : Int) < (lens.length : Int) := by omega
  have HXN := Aside0.mk (And.intro hx hn)
  have HL0 := Aside0.mk (And.intro h0 h15)
  have u1 : IntKind.i64.wrap ((L : Int) - 1) = (L : Int) - 1 := IntWalk.i64_in _ (by omega)
  clear h hw hl hB hlv hrl hwv hL hc hc15 hx h0 h15 hn
  go_enter Try.func45, Try.ntmps45
  go_wp2_with fail
  go_loopw [8] (fun v8 wr => ∃ (kk : Int) (q : Nat) (v1 : Value) (pre : List Bool), v8 = .int .i64 kk ∧ kk = (q : Int) - 1 ∧ q ≤ 15 ∧ Aside0 (PuS W wr B B2 t g lens lv wv sv v v1 l pre) ∧ Aside0 (pre ++ wordB c q = wordB c L)) (fun v8 _ => (intOf v8 + 1).toNat)
  case atStart => exact ⟨_, L, v, [], rfl, rfl, HL0.out.2, HS0, ⟨rfl⟩⟩
  case round =>
    clear HS0 c0 x0 u1
    obtain ⟨kk, q, v1, pre, rfl, hkq, hq15, HS, HP⟩ := hrel
    by_cases hk : 0 ≤ kk
    · have hb4 : decide (0 ≤ kk) = true := decide_eq_true hk
      obtain ⟨r, rfl⟩ : ∃ r, q = r + 1 := ⟨q - 1, by omega⟩
      obtain rfl : kk = (r : Int) := by omega
      have c1 := HS.out.tb.bt.c1
      rw [HWV.out] at c1
      have hrw := (Kd.R_reads' (HWV.out ▸ HS.out.tb.rw)).2.2
      have hcl := codesL_len lens
      obtain ⟨ad2, hA2, x1⟩ := Kd.at_int hrw (x : Int) (by omega) (by have := HXN.out.1; omega)
      subst hA2
      rw [HCC.out] at x1
      simp only [Int.toNat_natCast] at x1
      rw [hcl] at c1
      have hr57 : r ≤ 57 := by omega
      have ha := and_bit c r HC15.out
      obtain ⟨bn, hbn⟩ : ∃ bn, bnat (c.testBit r) = bn := ⟨_, rfl⟩
      rw [hbn] at ha
      have u2 : IntKind.i64.wrap ((r : Int) - 1) = (r : Int) - 1 := IntWalk.i64_in _ (by omega)
      have HPL : Aside0 ((l ++ pre).length ≤ 1000000000000) := ⟨by
        have h1 := congrArg List.length HP.out
        rw [List.length_append, wordB_len, wordB_len] at h1
        have h2 := HL0.out.2
        have h3 := HLL.out
        rw [List.length_append]
        omega⟩
      have HC := Aside0.mk (bits_ok B2 g v1 (l ++ pre) bn 1 wr HS.out.iw (by decide) (by rw [← hbn]; unfold bnat; split <;> decide) HPL.out (Nat.le_trans HBB.out HS.out.le))
      have HBN := Aside0.mk hbn
      clear hrw hcl hbn hkq
      go_wp2_with fail
      refine HC.out.mono ?_
      rintro e w2 ⟨rfl, v2, hi2, hf2, ha2⟩
      have HS2 := Aside0.mk (PuS.mk (W := W) (v := v) (l := l) (pre := pre ++ [c.testBit r]) (HS.out.tb.keepW HS.out.iw hf2) (by rw [← HBN.out, bitsOf_bnat] at hi2; rw [← List.append_assoc]; exact hi2) (WS_then HS.out.fr hf2 HS.out.at_) (HS.out.at_.trans ha2 HS.out.le) (Nat.le_trans HS.out.le hf2.size))
      have HP2 : Aside0 (pre ++ [c.testBit r] ++ wordB c r = wordB c L) := ⟨by rw [List.append_assoc]; exact HP.out⟩
      clear hi2 hf2 ha2 HC HS HP c1 x1
      go_wp2_with fail
      go_roundw
      case rel => exact ⟨(r : Int) - 1, r, v2, _, rfl, rfl, by omega, HS2, HP2⟩
      case measure => simp [intOf]
    · have hb4 : decide (0 ≤ kk) = false := decide_eq_false hk
      obtain rfl : q = 0 := by omega
      have HP2 : Aside0 (pre = wordB c L) := ⟨by have := HP.out; rw [wordB, List.append_nil] at this; exact this⟩
      clear hkq
      go_wp2_with fail
      go_ret
      exact ⟨rfl, v1, by rw [← HP2.out]; exact HS.out.iw, HS.out.fr, HS.out.at_⟩
end Go.Proofs.Ytaghmhcccighgaa.HF
end
section
/- deflate's tables, the fixed code's; walked. -/
namespace Go.Proofs.Ytaghmhcccighgaa.DF
open Go.RowKit Go.Proofs.YtaghmhcccighgaaW.PrintWords Go.Proofs.YtaghmhcccighgaaW.PrintLast Go.Proofs.YtaghmhcccighgaaW.PrintMore Go.Proofs.Ytaghmhcccighgaa.HW Go.Proofs.Ytaghmhcccighgaa.MB Go.Proofs.Ytaghmhcccighgaa.HF
attribute [local go_sem] max2_int min2_int max_two min_two max_three min_three max_four min_four   -- for this text's walks alone
/-- A row that was made. -/
theorem R_fresh (w : World) (n : Nat) (hn : n ≤ 1000000) : Kd.R (Kd.int .i64) 3 (w.alloc (.cells (Array.replicate n (.int .i64 0)) 3)) w.heap.size (fun _ => True) (.slice (some ⟨w.heap.size, 0, none⟩) n n) (List.replicate n 0) := by
  refine Kd.R_of_own (enc := Value.int .i64) (h1 := fun _ => rfl) ?_ (fun _ _ => trivial)
  rw [List.length_replicate]
  refine ⟨by simp [encs], Or.inr ⟨w.heap.size, n, Array.replicate n (.int .i64 0), rfl, Nat.le_refl _, heap_alloc_new w _, Nat.le_refl _, by unfold maxLen; omega, by simp, by simp [encs]⟩⟩
/-- What tables gives. -/
def TaQ (lens dist : List Int) (W : World) (e : Ending) (w' : World) : Prop := ∃ t1 lv1 wv1 sv1 t2 lv2 wv2 sv2,
  e = .returned (.agg #[.pointer (some ⟨t1, 0, none⟩), .pointer (some ⟨t2, 0, none⟩)]) ∧ IsTab w' W.heap.size t1 lens lv1 wv1 sv1 ∧ IsTab w' W.heap.size t2 dist lv2 wv2 sv2 ∧ Below W.heap.size W w'
theorem tab_lower {W : World} {B B' t : Nat} {lens : List Int} {lv wv sv : Value} (h : IsTab W B t lens lv wv sv) (hb : B' ≤ B) : IsTab W B' t lens lv wv sv :=
  ⟨h.bt, Nat.le_trans hb h.ht, Kd.R_lower h.rl hb, h.nn, Kd.R_lower h.rw hb, Kd.R_lower h.rs hb⟩
set_option maxRecDepth 100000 in
set_option maxHeartbeats 4000000 in
theorem tables_ok (A : Option Addr) (c : Nat) (lens : List Int) (A2 : Option Addr) (c2 : Nat) (dist : List Int) (W : World) (hr : Kd.C (Kd.int .i64) W A lens.length lens) (hc : lens.length ≤ c) (hr2 : Kd.C (Kd.int .i64) W A2 dist.length dist) (hc2 : dist.length ≤ c2) (ho : okL lens = true) (ho2 : okL dist = true) :
    Calls Try.prog 44 #[.slice A lens.length c, .slice A2 dist.length c2] W (TaQ lens dist W) := by
  have hu := Try.underlying65
  have HO := Aside0.mk (And.intro ho ho2)
  have hb1 := below_alloc (Below.refl W.heap.size W) (.cells #[.pointer none, .pointer none] 65)
  have HN1 := Aside0.mk (newTable_ok A c lens (W.alloc (.cells #[.pointer none, .pointer none] 65)) (Kd.C_below hr hb1) hc)
  have HR2 := Aside0.mk (And.intro hr2 hc2)
  have HB1 := Aside0.mk hb1
  clear hr hr2 hc hc2 ho ho2 hb1
  go_enter Try.func44, Try.ntmps44
  go_wp2_with fail
  refine HN1.out.mono ?_
  rintro e w2 ⟨hy, _, hb2⟩
  obtain ⟨t1, lv1, wv1, sv1, rfl, ht1⟩ := hy HO.out.1
  have HB2 := Aside0.mk (HB1.out.trans (hb2.mono HB1.out.size))
  have hcell := (hb2.block _ (blk_lt (heap_alloc_new W (.cells #[.pointer none, .pointer none] 65)))).trans (heap_alloc_new W (.cells #[.pointer none, .pointer none] 65))
  have HT1 := Aside0.mk (tab_lower ht1 HB1.out.size)
  have HCL := Aside0.mk hcell
  have HN2 := Aside0.mk (newTable_ok A2 c2 dist w2 (Kd.C_below HR2.out.1 HB2.out) HR2.out.2)
  clear hy hb2 ht1 HN1 HB1 hcell
  go_wp2_with fail
  refine HN2.out.mono ?_
  rintro e w3 ⟨hy, _, hb3⟩
  obtain ⟨t2, lv2, wv2, sv2, rfl, ht2⟩ := hy HO.out.2
  have HB3 := Aside0.mk (HB2.out.trans (hb3.mono HB2.out.size))
  have HT2 := Aside0.mk (tab_lower ht2 HB2.out.size)
  have HT3 := Aside0.mk (HT1.out.below hb3)
  have HCL3 := Aside0.mk ((hb3.block _ (blk_lt HCL.out)).trans HCL.out)
  clear hy hb3 ht2 HN2 HB2 HT1 HCL
  go_wp2_with (((with_reducible refine gate_store (t := 65) (p := 4) (v := .tmp 21) rfl ?_); go_must (refine store_all rfl rfl rfl W.heap.size #[.pointer none, .pointer none] #[.pointer (some ⟨t1, 0, none⟩), .pointer (some ⟨t2, 0, none⟩)] 65 (by rfl) (by rfl) HCL3.out rfl (by kernel_rfl) (by simp [Value.oneCell']) ?_); intro w9 hr1 hf6; have HR1 := Aside0.mk hr1; have HF6 := Aside0.mk hf6; clear hr1 hf6))
  refine bodyPost_ret (results_single rfl (.cell W.heap.size 65 #[.pointer (some ⟨t1, 0, none⟩), .pointer (some ⟨t2, 0, none⟩)] (0, 0) _ rfl HR1.out Try.underlying65 rfl (by kernel_rfl) .nil)) rfl ?_
  refine ⟨t1, lv1, wv1, sv1, t2, lv2, wv2, sv2, rfl, HT3.out.keep HF6.out (fun k hk e => ?_), HT2.out.keep HF6.out (fun k hk e => ?_), HB3.out.trans (HF6.out.below HB3.out.size (fun k hk => by rw [hk]; exact Nat.le_refl _))⟩
  · exact HT3.out.other HCL3.out (by decide) (by decide) (e ▸ hk)
  · exact HT2.out.other HCL3.out (by decide) (by decide) (e ▸ hk)
/-- A row that is filled. -/
def fillI (f : Nat → Int) (n i : Nat) : List Int := (List.range n).map (fun j => if j < i then f j else 0)
theorem fill_len (f : Nat → Int) (n i : Nat) : (fillI f n i).length = n := by unfold fillI; rw [List.length_map, List.length_range]
theorem fill_zero (f : Nat → Int) (n : Nat) : List.replicate n (0 : Int) = fillI f n 0 := by
  refine List.ext_getElem? fun j => ?_
  unfold fillI
  rw [List.getElem?_replicate, List.getElem?_map]
  by_cases h : j < n
  · rw [if_pos h, List.getElem?_range h]; rfl
  · rw [if_neg h, List.getElem?_eq_none (by rw [List.length_range]; omega)]; rfl
theorem fill_set (f : Nat → Int) (n i : Nat) : (fillI f n i).set i (f i) = fillI f n (i + 1) := by
  refine List.ext_getElem? fun j => ?_
  rw [List.getElem?_set, fill_len]
  unfold fillI
  rw [List.getElem?_map, List.getElem?_map]
  by_cases h : j < n
  · rw [List.getElem?_range h]
    by_cases hij : i = j
    · subst hij
      rw [if_pos rfl, if_pos h]
      show _ = some (if i < i + 1 then f i else 0)
      rw [if_pos (Nat.lt_succ_self i)]
    · rw [if_neg hij]
      show some (if j < i then f j else 0) = some (if j < i + 1 then f j else 0)
      by_cases hji : j < i
      · rw [if_pos hji, if_pos (show j < i + 1 by omega)]
      · rw [if_neg hji, if_neg (show ¬ j < i + 1 by omega)]
  · rw [List.getElem?_eq_none (by rw [List.length_range]; omega)]
    split
    · split
      · omega
      · rfl
    · rfl
def fixV (j : Nat) : Int := if j < 144 ∨ 280 ≤ j then 8 else if j < 256 then 9 else 7
theorem fixV_all : fillI fixV 288 288 = RT.fixL := by decide +kernel
def fixD30 : List Int := List.replicate 30 5
theorem fixD_all : fillI (fun _ => 5) 30 30 = fixD30 := by decide +kernel
theorem okFix : okL RT.fixL = true ∧ okL fixD30 = true := ⟨by decide +kernel, by decide +kernel⟩
/-- fixed's state. -/
structure FxS (W w : World) (g1 g2 : Nat) (xs ys : List Int) : Prop where
  r1 : Kd.R (Kd.int .i64) 3 w W.heap.size (fun _ => True) (.slice (some ⟨g1, 0, none⟩) 288 288) xs
  r2 : Kd.R (Kd.int .i64) 3 w W.heap.size (fun _ => True) (.slice (some ⟨g2, 0, none⟩) 30 30) ys
  ne : g1 ≠ g2
  cl : w.heap[W.heap.size]? = some (.cells #[.pointer none, .pointer none] 65 (0, 0))
  be : Below W.heap.size W w
section
variable {W w w' : World} {g1 g2 : Nat} {xs ys : List Int}
theorem FxS.ge (h : FxS W w g1 g2 xs ys) : W.heap.size < g1 ∧ W.heap.size < g2 := by
  have h1 := Kd.R_base h.r1 g1 rfl
  have h2 := Kd.R_base h.r2 g2 rfl
  have n1 := Kd.R_ne h.r1 h.cl (by decide)
  have n2 := Kd.R_ne h.r2 h.cl (by decide)
  refine ⟨?_, ?_⟩
  · rcases Nat.lt_or_ge W.heap.size g1 with h | h
    · exact h
    · exact absurd (show some W.heap.size = some g1 by congr 1; omega) n1
  · rcases Nat.lt_or_ge W.heap.size g2 with h | h
    · exact h
    · exact absurd (show some W.heap.size = some g2 by congr 1; omega) n2
theorem FxS.set1 (h : FxS W w g1 g2 xs ys) (k : Nat) (x : Int) : FxS W (w.setCell ⟨g1, k, none⟩ (.int .i64 x)) g1 g2 (xs.set k x) ys := by
  have hput := Kd.R_putg h.r1 (k : Int) x
  rw [Int.toNat_natCast] at hput
  have hg := h.ge
  refine ⟨hput.1, Kd.R_mono (Kd.R_step (Kd.R_tight rfl h.r2) (fun j hj hlt => Below.heap_setCell _ _ _ _ (fun e => ?_))) (fun _ _ => trivial), h.ne, (Below.heap_setCell _ _ _ _ (show W.heap.size ≠ g1 by omega)).trans h.cl, h.be.setCell (show W.heap.size ≤ g1 by omega) _⟩
  have hj2 : some j = some g2 := hj
  exact h.ne ((show j = g1 from e).symm.trans (Option.some.inj hj2))
theorem FxS.set2 (h : FxS W w g1 g2 xs ys) (k : Nat) (x : Int) : FxS W (w.setCell ⟨g2, k, none⟩ (.int .i64 x)) g1 g2 xs (ys.set k x) := by
  have hput := Kd.R_putg h.r2 (k : Int) x
  rw [Int.toNat_natCast] at hput
  have hg := h.ge
  refine ⟨Kd.R_mono (Kd.R_step (Kd.R_tight rfl h.r1) (fun j hj hlt => Below.heap_setCell _ _ _ _ (fun e => ?_))) (fun _ _ => trivial), hput.1, h.ne, (Below.heap_setCell _ _ _ _ (show W.heap.size ≠ g2 by omega)).trans h.cl, h.be.setCell (show W.heap.size ≤ g2 by omega) _⟩
  have hj2 : some j = some g1 := hj
  exact h.ne ((Option.some.inj hj2).symm.trans (show j = g2 from e))
end
theorem FxS.start1 (W : World) : FxS W (((W.alloc (.cells #[.pointer none, .pointer none] 65)).alloc (.cells (Array.replicate 288 (.int .i64 0)) 3)).alloc (.cells (Array.replicate 30 (.int .i64 0)) 3)).drew (W.heap.size + 1) (W.heap.size + 1 + 1) (List.replicate 288 0) (List.replicate 30 0) := by
  obtain ⟨w0, h0⟩ : ∃ w0, W.alloc (.cells #[.pointer none, .pointer none] 65) = w0 := ⟨_, rfl⟩
  have hb0 : Below W.heap.size W w0 := h0 ▸ below_alloc (Below.refl _ _) _
  have hc0 : w0.heap[W.heap.size]? = some (.cells #[.pointer none, .pointer none] 65 (0, 0)) := h0 ▸ heap_alloc_new W _
  have hz0 : w0.heap.size = W.heap.size + 1 := by rw [← h0]; simp
  rw [h0]
  have r1 := R_fresh w0 288 (by decide)
  have hz1 : (w0.alloc (.cells (Array.replicate 288 (.int .i64 0)) 3)).heap.size = W.heap.size + 1 + 1 := by simp [hz0]
  have r2 := R_fresh (w0.alloc (.cells (Array.replicate 288 (.int .i64 0)) 3)) 30 (by decide)
  rw [hz0] at r1
  rw [hz1] at r2
  refine ⟨Kd.R_drew (Kd.R_lower (Kd.R_alloc r1 _) (Nat.le_succ _)), Kd.R_drew (Kd.R_lower r2 (by omega)), by omega, ?_, ?_⟩
  · exact ((below_alloc (below_alloc (Below.refl _ _) _) _).block _ (blk_lt hc0)).trans hc0
  · exact below_drew (hb0.trans ((below_alloc (below_alloc (Below.refl w0.heap.size w0) _) _).mono hb0.size))
theorem FxS.start2 (W : World) : FxS W (((W.alloc (.cells #[.pointer none, .pointer none] 65)).alloc (.cells (Array.replicate 30 (.int .i64 0)) 3)).alloc (.cells (Array.replicate 288 (.int .i64 0)) 3)).drew (W.heap.size + 1 + 1) (W.heap.size + 1) (List.replicate 288 0) (List.replicate 30 0) := by
  obtain ⟨w0, h0⟩ : ∃ w0, W.alloc (.cells #[.pointer none, .pointer none] 65) = w0 := ⟨_, rfl⟩
  have hb0 : Below W.heap.size W w0 := h0 ▸ below_alloc (Below.refl _ _) _
  have hc0 : w0.heap[W.heap.size]? = some (.cells #[.pointer none, .pointer none] 65 (0, 0)) := h0 ▸ heap_alloc_new W _
  have hz0 : w0.heap.size = W.heap.size + 1 := by rw [← h0]; simp
  rw [h0]
  have r1 := R_fresh w0 30 (by decide)
  have hz1 : (w0.alloc (.cells (Array.replicate 30 (.int .i64 0)) 3)).heap.size = W.heap.size + 1 + 1 := by simp [hz0]
  have r2 := R_fresh (w0.alloc (.cells (Array.replicate 30 (.int .i64 0)) 3)) 288 (by decide)
  rw [hz0] at r1
  rw [hz1] at r2
  refine ⟨Kd.R_drew (Kd.R_lower r2 (by omega)), Kd.R_drew (Kd.R_lower (Kd.R_alloc r1 _) (Nat.le_succ _)), by omega, ?_, ?_⟩
  · exact ((below_alloc (below_alloc (Below.refl _ _) _) _).block _ (blk_lt hc0)).trans hc0
  · exact below_drew (hb0.trans ((below_alloc (below_alloc (Below.refl w0.heap.size w0) _) _).mono hb0.size))
set_option maxRecDepth 100000 in
set_option maxHeartbeats 16000000 in
theorem fixed_ok (W : World) : Calls Try.prog 33 #[] W (TaQ RT.fixL fixD30 W) := by
  have hu := Try.underlying65
  have hm1 : ∀ w, (Instr.makeSlice 48 (.int .i64 288) (.int .i64 288)).run Try.prog w = .ok (.slice (some ⟨w.heap.size, 0, none⟩) 288 288) (w.alloc (.cells (Array.replicate 288 (.int .i64 0)) 3)) := fun _ => by kernel_rfl
  have hm2 : ∀ w, (Instr.makeSlice 48 (.int .i64 30) (.int .i64 30)).run Try.prog w = .ok (.slice (some ⟨w.heap.size, 0, none⟩) 30 30) (w.alloc (.cells (Array.replicate 30 (.int .i64 0)) 3)) := fun _ => by kernel_rfl
  have H1 := Aside0.mk (FxS.start1 W)
  have H2 := Aside0.mk (FxS.start2 W)
  go_enter Try.func33, Try.ntmps33
  go_wp2_with fail
  go_region
  focus
    obtain ⟨g2, hg2⟩ : ∃ g, W.heap.size + 1 + 1 = g := ⟨_, rfl⟩
    obtain ⟨g1, hg1⟩ : ∃ g, W.heap.size + 1 = g := ⟨_, rfl⟩
    rw [hg2, hg1] at H1
    generalize (((W.alloc (.cells #[.pointer none, .pointer none] 65)).alloc (.cells (Array.replicate 288 (.int .i64 0)) 3)).alloc (.cells (Array.replicate 30 (.int .i64 0)) 3)).drew = w1 at H1 ⊢
    have HX := H1
    simp only [hg2]
    simp only [hg1]
    clear H1 H2 hm1 hm2 hg1 hg2
  rotate_left
  focus
    obtain ⟨g1, hg1⟩ : ∃ g, W.heap.size + 1 + 1 = g := ⟨_, rfl⟩
    obtain ⟨g2, hg2⟩ : ∃ g, W.heap.size + 1 = g := ⟨_, rfl⟩
    rw [hg1, hg2] at H2
    generalize (((W.alloc (.cells #[.pointer none, .pointer none] 65)).alloc (.cells (Array.replicate 30 (.int .i64 0)) 3)).alloc (.cells (Array.replicate 288 (.int .i64 0)) 3)).drew = w1 at H2 ⊢
    have HX := H2
    simp only [hg1]
    simp only [hg2]
    clear H1 H2 hm1 hm2 hg1 hg2
  all_goals
    rw [fill_zero fixV 288, fill_zero (fun _ => 5) 30] at HX
    go_wp2_with fail
    go_loopw [9] (fun v9 wr => ∃ k : Nat, v9 = .int .i64 k ∧ k ≤ 288 ∧ Aside0 (FxS W wr g1 g2 (fillI fixV 288 k) (fillI (fun _ => 5) 30 0))) (fun v9 _ => 288 - (intOf v9).toNat)
    case atStart => exact ⟨0, rfl, by decide, HX⟩
    case round =>
      clear HX
      obtain ⟨k, rfl, hk, HX⟩ := hrel
      by_cases hlt : k < 288
      · have b1 : decide ((k : Int) < 288) = true := decide_eq_true (by omega)
        have p0 : (0 : Int) ≤ (k : Int) := by omega
        have p1 : (k : Int) < 288 := by omega
        obtain ⟨ca, fa⟩ := Kd.R_celln 0 HX.out.r1 (k : Int) (by omega) (by omega)
        rw [Int.toNat_natCast] at ca fa
        have HX2 := Aside0.mk (HX.out.set1 k (fixV k))
        rw [fill_set] at HX2
        have HK := Aside0.mk hlt
        clear HX
        by_cases c1 : k < 144 ∨ 280 ≤ k
        · have hv : fixV k = 8 := if_pos c1
          rw [hv] at HX2
          clear hv
          rcases c1 with c1 | c1
          · have b2 : decide ((k : Int) < 144) = true := decide_eq_true (by omega)
            have b3 : (k : Int) < 144 := by omega
            clear c1
            go_wp2_with fail
            go_roundw
            case rel => exact ⟨k + 1, by go_num, HK.out, HX2⟩
            case measure => simp [intOf]; have := HK.out; omega
          · have b2 : decide ((k : Int) < 144) = false := decide_eq_false (by omega)
            have b3 : ¬ (k : Int) < 144 := by omega
            have b4 : decide (280 ≤ (k : Int)) = true := decide_eq_true (by omega)
            have b5 : 280 ≤ (k : Int) := by omega
            clear c1
            go_wp2_with fail
            go_roundw
            case rel => exact ⟨k + 1, by go_num, HK.out, HX2⟩
            case measure => simp [intOf]; have := HK.out; omega
        · have b2 : decide ((k : Int) < 144) = false := decide_eq_false (by omega)
          have b3 : ¬ (k : Int) < 144 := by omega
          have b4 : decide (280 ≤ (k : Int)) = false := decide_eq_false (by omega)
          have b5 : ¬ 280 ≤ (k : Int) := by omega
          by_cases c2 : k < 256
          · have hv : fixV k = 9 := by unfold fixV; rw [if_neg c1, if_pos c2]
            rw [hv] at HX2
            have b6 : decide ((k : Int) < 256) = true := decide_eq_true (by omega)
            have b7 : (k : Int) < 256 := by omega
            clear c1 c2 hv
            go_wp2_with fail
            go_roundw
            case rel => exact ⟨k + 1, by go_num, HK.out, HX2⟩
            case measure => simp [intOf]; have := HK.out; omega
          · have hv : fixV k = 7 := by unfold fixV; rw [if_neg c1, if_neg c2]
            rw [hv] at HX2
            have b6 : decide ((k : Int) < 256) = false := decide_eq_false (by omega)
            have b7 : ¬ (k : Int) < 256 := by omega
            clear c1 c2 hv
            go_wp2_with fail
            go_roundw
            case rel => exact ⟨k + 1, by go_num, HK.out, HX2⟩
            case measure => simp [intOf]; have := HK.out; omega
      · have hke : k = 288 := by omega
        subst hke
        rw [fixV_all] at HX
        have b1 : decide (((288 : Nat) : Int) < 288) = false := by decide
        clear hlt hk
        go_wp2_with fail
        go_loopw [34] (fun v34 wr => ∃ k : Nat, v34 = .int .i64 k ∧ k ≤ 30 ∧ Aside0 (FxS W wr g1 g2 RT.fixL (fillI (fun _ => 5) 30 k))) (fun v34 _ => 30 - (intOf v34).toNat)
        case atStart => exact ⟨0, rfl, by decide, HX⟩
        case round =>
          clear HX
          obtain ⟨k, rfl, hk, HX⟩ := hrel
          by_cases hlt : k < 30
          · have b1 : decide ((k : Int) < 30) = true := decide_eq_true (by omega)
            have p0 : (0 : Int) ≤ (k : Int) := by omega
            have p1 : (k : Int) < 30 := by omega
            obtain ⟨ca, fa⟩ := Kd.R_celln 0 HX.out.r2 (k : Int) (by omega) (by omega)
            rw [Int.toNat_natCast] at ca fa
            have HX2 := Aside0.mk (HX.out.set2 k 5)
            rw [fill_set (fun _ => 5) 30 k] at HX2
            have HK := Aside0.mk hlt
            clear HX
            go_wp2_with fail
            go_roundw
            case rel => exact ⟨k + 1, by go_num, HK.out, HX2⟩
            case measure => simp [intOf]; have := HK.out; omega
          · have hke : k = 30 := by omega
            subst hke
            rw [fixD_all] at HX
            have b1 : decide (((30 : Nat) : Int) < 30) = false := by decide
            have HT := Aside0.mk (tables_ok (some ⟨g1, 0, none⟩) 288 RT.fixL (some ⟨g2, 0, none⟩) 30 fixD30 wr (Kd.R_reads' HX.out.r1).2.2 (by decide) (Kd.R_reads' HX.out.r2).2.2 (by decide) okFix.1 okFix.2)
            rw [show RT.fixL.length = 288 by decide +kernel, show fixD30.length = 30 by decide +kernel] at HT
            clear hlt hk
            go_wp2_with fail
            refine HT.out.mono ?_
            rintro e w3 ⟨t1, lv1, wv1, sv1, t2, lv2, wv2, sv2, rfl, ht1, ht2, hb3⟩
            have HCL3 := Aside0.mk ((hb3.block _ (blk_lt HX.out.cl)).trans HX.out.cl)
            have HB3 := Aside0.mk (HX.out.be.trans (hb3.mono HX.out.be.size))
            have HT1 := Aside0.mk (tab_lower ht1 HX.out.be.size)
            have HT2 := Aside0.mk (tab_lower ht2 HX.out.be.size)
            clear ht1 ht2 hb3 HT HX
            go_wp2_with (((with_reducible refine gate_store (t := 65) (p := 0) (v := .tmp 43) rfl ?_); go_must (refine store_all rfl rfl rfl W.heap.size #[.pointer none, .pointer none] #[.pointer (some ⟨t1, 0, none⟩), .pointer (some ⟨t2, 0, none⟩)] 65 (by rfl) (by rfl) HCL3.out rfl (by kernel_rfl) (by simp [Value.oneCell']) ?_); intro w9 hr1 hf6; have HR1 := Aside0.mk hr1; have HF6 := Aside0.mk hf6; clear hr1 hf6))
            refine bodyPost_ret (results_single rfl (.cell W.heap.size 65 #[.pointer (some ⟨t1, 0, none⟩), .pointer (some ⟨t2, 0, none⟩)] (0, 0) _ rfl HR1.out Try.underlying65 rfl (by kernel_rfl) .nil)) rfl ?_
            refine ⟨t1, lv1, wv1, sv1, t2, lv2, wv2, sv2, rfl, HT1.out.keep HF6.out (fun k hk e => ?_), HT2.out.keep HF6.out (fun k hk e => ?_), HB3.out.trans (HF6.out.below HB3.out.size (fun k hk => by rw [hk]; exact Nat.le_refl _))⟩
            · exact HT1.out.other HCL3.out (by decide) (by decide) (e ▸ hk)
            · exact HT2.out.other HCL3.out (by decide) (by decide) (e ▸ hk)
end Go.Proofs.Ytaghmhcccighgaa.DF
end
section
/- A symbol as a struct. -/
namespace Go.Proofs.Ytaghmhcccighgaa.DF
open Go.Proofs.Ytaghmhcccighgaa.Fn
def toS (x : Nat × Nat) : S60 := ⟨(x.1 : Int), (x.2 : Int)⟩
end Go.Proofs.Ytaghmhcccighgaa.DF
end
section
/- A block's symbols are written; walked. -/
namespace Go.Proofs.Ytaghmhcccighgaa.DF
open Go.RowKit Go.Proofs.YtaghmhcccighgaaW.PrintWords Go.Proofs.YtaghmhcccighgaaW.PrintLast Go.Proofs.YtaghmhcccighgaaW.PrintMore Go.Proofs.Ytaghmhcccighgaa.HW Go.Proofs.Ytaghmhcccighgaa.MB Go.Proofs.Ytaghmhcccighgaa.HF Go.Proofs.Ytaghmhcccighgaa.Fn
attribute [local go_sem] max2_int min2_int max_two min_two max_three min_three max_four min_four   -- for this text's walks alone
/-- What a call that writes bits tells. -/
def WrQ (b : List Bool) (B2 g : Nat) (v : Value) (l : List Bool) (W : World) (r : Value) (e : Ending) (w' : World) : Prop := e = .returned r ∧ ∃ v', IsW w' B2 g v' (l ++ b) ∧ Fr (WS g v) W w' ∧ AtB W v v'
theorem putD {W : World} {B B2 t g : Nat} {lens : List Int} {lv wv sv v : Value} {l : List Bool} (h : IsTab W B t lens lv wv sv) (ho : okL lens = true) (hw : IsW W B2 g v l) (hl : l.length ≤ 100000000000) (hB : B2 ≤ W.heap.size) (x : Int) (hx : okS lens x) :
    Calls Try.prog 45 #[.pointer (some ⟨t, 0, none⟩), .pointer (some ⟨g, 0, none⟩), .int .i64 x] W (WrQ (wd lens x) B2 g v l W (.int .i64 0)) := by
  obtain ⟨n, L, c, rfl, hn, hL, h0, h15, hc, hc15, e1, e2, e⟩ := okS_open ho hx
  rw [e]
  exact put_ok h hw hl hB n c L hn e1 h0 h15 e2 (Nat.lt_trans hc15 (by decide)) (okL_len ho).1
/-- A row of symbols that is read. -/
structure RdL (W : World) (A : Option Addr) (L : List S60) : Prop where
  c : Kd.C k60 W A L.length L
  ty : ∀ ad, A = some ad → ∃ cells, W.heap[ad.block]? = some (.cells cells 60 (0, 0))
theorem cell_of_block {w w' : World} {p : Addr} (h : w'.heap[p.block]? = w.heap[p.block]?) : w'.cell? p = w.cell? p := by
  unfold World.cell?
  rw [h]
theorem RdL.keep {S : Nat → Prop} {W W' : World} {A : Option Addr} {L : List S60} (h : RdL W A L) (hf : Fr S W W') (hn : ∀ k cells, W.heap[k]? = some (.cells cells 60 (0, 0)) → ¬ S k) : RdL W' A L := by
  have hb : ∀ ad, A = some ad → W'.heap[ad.block]? = W.heap[ad.block]? := fun ad ha => by
    obtain ⟨cells, hc⟩ := h.ty ad ha
    exact hf.block _ (blk_lt hc) (hn _ _ hc)
  refine ⟨⟨h.c.1, h.c.2.1, fun hp => ?_⟩, fun ad ha => ?_⟩
  · obtain ⟨ad, ha, hc⟩ := h.c.2.2 hp
    refine ⟨ad, ha, fun j p hj => ?_⟩
    obtain ⟨cs, h1, h2, h3⟩ := hc j p hj
    obtain rfl := k60_open h2
    refine ⟨_, h1, k60_mk _ _, fun i u hu => ?_⟩
    have hab : (ad.add (j * k60.sz + i)).block = ad.block := by unfold Addr.add; split <;> rfl
    rw [cell_of_block (w := W) (w' := W') (p := ad.add (j * k60.sz + i)) (by rw [hab]; exact hb ad ha)]
    exact h3 i u hu
  · obtain ⟨cells, hc⟩ := h.ty ad ha
    exact ⟨cells, (hb ad ha).trans hc⟩
theorem RdL.below {W W' : World} {A : Option Addr} {L : List S60} (h : RdL W A L) (hb : Below W.heap.size W W') : RdL W' A L := h.keep (Fr.of_below_all hb (fun _ => False)) (fun _ _ _ h => h)
theorem RdL.keepW {W W' : World} {A : Option Addr} {L : List S60} {B g : Nat} {v : Value} {l : List Bool} (h : RdL W A L) (hw : IsW W B g v l) (hf : Fr (WS g v) W W') : RdL W' A L := by
  refine h.keep hf (fun k cells hc e => ?_)
  rcases e with e | e
  · subst e
    have := hw.1
    unfold WBlk at this
    rw [hc] at this
    injection this with this
    injection this with _ h3
    exact absurd h3 (by decide)
  · obtain ⟨_, _, bs, ho, _⟩ := hw
    exact own_ne ho hc (by decide) e.symm
theorem symK {W W' : World} {q : Nat} {cs : Array Value} {B g : Nat} {v : Value} {l : List Bool} (h : W.heap[q]? = some (.cells cs 60 (0, 0))) (hw : IsW W B g v l) (hf : Fr (WS g v) W W') : W'.heap[q]? = some (.cells cs 60 (0, 0)) := by
  refine hf.blk h (fun e => ?_)
  rcases e with e | e
  · subst e
    have := hw.1
    unfold WBlk at this
    rw [h] at this
    injection this with this
    injection this with _ h3
    exact absurd h3 (by decide)
  · obtain ⟨_, _, bs, ho, _⟩ := hw
    exact own_ne ho h (by decide) e.symm
theorem rd_toS {xs : List (Nat × Nat)} {k f n : Nat} (h : k < xs.length) (hx : xs[k] = (f, n)) : rd_T60 (xs.map toS) (k : Int) = ⟨(f : Int), (n : Int)⟩ := by
  unfold rd_T60
  rw [Int.toNat_natCast, List.getD_eq_getElem?_getD, List.getElem?_map, List.getElem?_eq_getElem h, hx]
  rfl
theorem take_snocS {xs : List (Nat × Nat)} {k f n : Nat} (h : k < xs.length) (hx : xs[k] = (f, n)) (lens dist : List Int) : symsW lens dist (xs.take (k + 1)) = symsW lens dist (xs.take k) ++ symW lens dist (f, n) := by
  rw [List.take_succ_eq_append_getElem h, symsW_snoc, hx]
/-- put's state. -/
structure CpS (W w : World) (B B2 t1 t2 g : Nat) (lens dist : List Int) (lv1 wv1 sv1 lv2 wv2 sv2 v v1 : Value) (l pre : List Bool) (A : Option Addr) (L : List S60) : Prop where
  tb1 : IsTab w B t1 lens lv1 wv1 sv1
  tb2 : IsTab w B t2 dist lv2 wv2 sv2
  iw : IsW w B2 g v1 (l ++ pre)
  fr : Fr (WS g v) W w
  at_ : AtB W v v1
  hB : B2 ≤ W.heap.size
  ro : RdL w A L
  bx : w.heap[W.heap.size]? = some (.cells #[.pointer (some ⟨t1, 0, none⟩), .pointer (some ⟨t2, 0, none⟩)] 65 (0, 0))
section
variable {W w w' : World} {B B2 t1 t2 g : Nat} {lens dist : List Int} {lv1 wv1 sv1 lv2 wv2 sv2 v v1 v2 : Value} {l pre b : List Bool} {A : Option Addr} {L : List S60}
theorem CpS.below (h : CpS W w B B2 t1 t2 g lens dist lv1 wv1 sv1 lv2 wv2 sv2 v v1 l pre A L) (hb : Below w.heap.size w w') : CpS W w' B B2 t1 t2 g lens dist lv1 wv1 sv1 lv2 wv2 sv2 v v1 l pre A L :=
  ⟨h.tb1.below hb, h.tb2.below hb, h.iw.below hb, h.fr.add hb, h.at_, h.hB, h.ro.below hb, (hb.block _ (blk_lt h.bx)).trans h.bx⟩
theorem CpS.step (h : CpS W w B B2 t1 t2 g lens dist lv1 wv1 sv1 lv2 wv2 sv2 v v1 l pre A L) (hi : IsW w' B2 g v2 (l ++ pre ++ b)) (hf : Fr (WS g v1) w w') (ha : AtB w v1 v2) : CpS W w' B B2 t1 t2 g lens dist lv1 wv1 sv1 lv2 wv2 sv2 v v2 l (pre ++ b) A L := by
  refine ⟨h.tb1.keepW h.iw hf, h.tb2.keepW h.iw hf, by rw [← List.append_assoc]; exact hi, WS_then h.fr hf h.at_, h.at_.trans ha h.fr.size, h.hB, h.ro.keepW h.iw hf, hf.blk h.bx (fun e => ?_)⟩
  rcases e with e | e
  · have := h.iw.1
    unfold WBlk at this
    rw [← e, h.bx] at this
    injection this with this
    injection this with _ h3
    exact absurd h3 (by decide)
  · obtain ⟨_, _, bs, ho, _⟩ := h.iw
    exact own_ne ho h.bx (by decide) e.symm
theorem CpS.c0 (h : CpS W w B B2 t1 t2 g lens dist lv1 wv1 sv1 lv2 wv2 sv2 v v1 l pre A L) : w.cell? ⟨W.heap.size, 0, none⟩ = some (.pointer (some ⟨t1, 0, none⟩)) := (blk_cell h.bx 0).trans rfl
theorem CpS.c1 (h : CpS W w B B2 t1 t2 g lens dist lv1 wv1 sv1 lv2 wv2 sv2 v v1 l pre A L) : w.cell? ⟨W.heap.size, 1, none⟩ = some (.pointer (some ⟨t2, 0, none⟩)) := (blk_cell h.bx 1).trans rfl
theorem CpS.put1 (h : CpS W w B B2 t1 t2 g lens dist lv1 wv1 sv1 lv2 wv2 sv2 v v1 l pre A L) (ho : okL lens = true) (hl : (l ++ pre).length ≤ 100000000000) (x : Int) (hx : okS lens x) : Calls Try.prog 45 #[.pointer (some ⟨t1, 0, none⟩), .pointer (some ⟨g, 0, none⟩), .int .i64 x] w (WrQ (wd lens x) B2 g v1 (l ++ pre) w (.int .i64 0)) :=
  putD h.tb1 ho h.iw hl (Nat.le_trans h.hB h.fr.size) x hx
theorem CpS.put2 (h : CpS W w B B2 t1 t2 g lens dist lv1 wv1 sv1 lv2 wv2 sv2 v v1 l pre A L) (ho : okL dist = true) (hl : (l ++ pre).length ≤ 100000000000) (x : Int) (hx : okS dist x) : Calls Try.prog 45 #[.pointer (some ⟨t2, 0, none⟩), .pointer (some ⟨g, 0, none⟩), .int .i64 x] w (WrQ (wd dist x) B2 g v1 (l ++ pre) w (.int .i64 0)) :=
  putD h.tb2 ho h.iw hl (Nat.le_trans h.hB h.fr.size) x hx
theorem CpS.bits (h : CpS W w B B2 t1 t2 g lens dist lv1 wv1 sv1 lv2 wv2 sv2 v v1 l pre A L) (hl : (l ++ pre).length ≤ 100000000000) (x m : Nat) (h1 : m ≤ 57) (h2 : x < 2 ^ m) : Calls Try.prog 20 #[.pointer (some ⟨g, 0, none⟩), .int .i64 x, .int .i64 m] w (WrQ (bitsOf x m) B2 g v1 (l ++ pre) w (.int .i64 0)) :=
  bits_ok B2 g v1 (l ++ pre) x m w h.iw h1 h2 (Nat.le_trans hl (by decide)) (Nat.le_trans h.hB h.fr.size)
end
set_option maxRecDepth 100000 in
set_option maxHeartbeats 16000000 in
theorem cput_ok {W : World} {B B2 t1 t2 g : Nat} {lens dist : List Int} {lv1 wv1 sv1 lv2 wv2 sv2 v : Value} {l : List Bool} (h1 : IsTab W B t1 lens lv1 wv1 sv1) (h2 : IsTab W B t2 dist lv2 wv2 sv2) (ho : okL lens = true) (hd : okL dist = true) (hw : IsW W B2 g v l) (hB : B2 ≤ W.heap.size)
    (A : Option Addr) (c : Nat) (xs : List (Nat × Nat)) (hr : RdL W A (xs.map toS)) (hc : xs.length ≤ c) (hx : ∀ x ∈ xs, SymIn lens dist x) (he : okS lens 256) (hl : l.length + 48 * xs.length ≤ 10000000000) :
    Calls Try.prog 34 #[.agg #[.pointer (some ⟨t1, 0, none⟩), .pointer (some ⟨t2, 0, none⟩)], .pointer (some ⟨g, 0, none⟩), .slice A xs.length c] W (WrQ (symsW lens dist xs ++ wd lens 256) B2 g v l W (.tuple #[])) := by
  have HO := Aside0.mk (And.intro ho (And.intro hd he))
  have HXS := Aside0.mk hx
  have HL := Aside0.mk hl
  have hb0 := below_alloc (Below.refl W.heap.size W) (.cells #[.pointer (some ⟨t1, 0, none⟩), .pointer (some ⟨t2, 0, none⟩)] 65)
  have HS := Aside0.mk (CpS.mk (W := W) (v := v) (l := l) (pre := []) (h1.below hb0) (h2.below hb0) (by rw [List.append_nil]; exact hw.below hb0) (Fr.of_below_all hb0 _) (AtB.refl _ _) hB (hr.below hb0) (heap_alloc_new W _))
  have hn63 : xs.length ≤ 1000000000 := by omega
  clear h1 h2 ho hd hw hB hr hc hx he hl hb0
  go_enter Try.func34, Try.ntmps34
  go_wp2_with fail
  generalize W.alloc (.cells #[.pointer (some ⟨t1, 0, none⟩), .pointer (some ⟨t2, 0, none⟩)] 65) = w0 at HS ⊢
  go_loopw [13] (fun v13 wr => ∃ (k : Nat) (v1 : Value), v13 = .int .i64 k ∧ k ≤ xs.length ∧ Aside0 (CpS W wr B B2 t1 t2 g lens dist lv1 wv1 sv1 lv2 wv2 sv2 v v1 l (symsW lens dist (xs.take k)) A (xs.map toS))) (fun v13 _ => xs.length - (intOf v13).toNat)
  case atStart => exact ⟨0, v, rfl, Nat.zero_le _, HS⟩
  case round =>
    clear HS
    obtain ⟨k, v1, rfl, hk, HS⟩ := hrel
    by_cases hlt : k < xs.length
    · have b1 : decide ((k : Int) < (xs.length : Int)) = true := decide_eq_true (by omega)
      have p0 : (0 : Int) ≤ (k : Int) := by omega
      have p1 : (k : Int) < (xs.length : Int) := by omega
      obtain ⟨ad, hA, ca, cb⟩ := at_T60 (HS.out.ro.c) (k : Int) p0 (by rw [List.length_map]; exact p1)
      subst hA
      obtain ⟨⟨f, n⟩, hxk⟩ : ∃ x, xs[k] = x := ⟨_, rfl⟩
      rw [rd_toS hlt hxk, Int.toNat_natCast] at ca cb
      have HTK := Aside0.mk (take_snocS hlt hxk lens dist)
      have hin : SymIn lens dist (f, n) := hxk ▸ HXS.out xs[k] (List.getElem_mem _)
      have HPL : Aside0 ((l ++ symsW lens dist (xs.take k)).length ≤ 10000000000) := ⟨by
        have h1 := symsW_len HO.out.1 HO.out.2.1 (xs.take k) (fun x hx => HXS.out x (List.mem_of_mem_take hx))
        have h2 := HL.out
        rw [List.length_take] at h1
        rw [List.length_append]
        omega⟩
      have HK := Aside0.mk hlt
      clear hxk hlt hk
      rcases hin with ⟨h0, hw1⟩ | ⟨h0, ⟨h3, h258, hf1, hf32⟩, hw1, hw2⟩
      · have h0' : f = 0 := h0
        subst h0'
        have HW1 := Aside0.mk hw1
        clear h0 hw1
        have ca' : wr.cell? (ad.add (k * 2)) = some (.int .i64 0) := ca
        clear ca
        go_upto_region 4 with (fail)
        have hb1 := below_alloc (Below.refl wr.heap.size wr) (.cells #[.int .i64 0, .int .i64 (n : Int)] 60)
        have HX1 := Aside0.mk (heap_alloc_new wr (.cells #[.int .i64 0, .int .i64 (n : Int)] 60))
        have HS1 := Aside0.mk (HS.out.below hb1)
        obtain ⟨q, hq⟩ : ∃ q, wr.heap.size = q := ⟨_, rfl⟩
        rw [hq] at HX1
        rw [hq]
        clear hb1 HS ca' cb hq
        generalize wr.alloc (.cells #[.int .i64 0, .int .i64 (n : Int)] 60) = w1 at HS1 HX1 ⊢
        have x0 : w1.cell? ⟨q, 0, none⟩ = some (.int .i64 0) := (blk_cell HX1.out 0).trans rfl
        have x1 : w1.cell? ⟨q, 1, none⟩ = some (.int .i64 (n : Int)) := (blk_cell HX1.out 1).trans rfl
        have c0 := HS1.out.c0
        have HP := Aside0.mk (HS1.out.put1 HO.out.1 (Nat.le_trans HPL.out (by decide)) (n : Int) HW1.out)
        go_wp2_with fail
        refine HP.out.mono ?_
        rintro e w2 ⟨rfl, v2, hi2, hf2, ha2⟩
        have HS2 := Aside0.mk (HS1.out.step hi2 hf2 ha2)
        rw [show symsW lens dist (xs.take k) ++ wd lens (n : Int) = symsW lens dist (xs.take (k + 1)) from HTK.out.symm] at HS2
        clear hi2 hf2 ha2 HP HS1 HX1 x0 x1 c0
        go_wp2_with fail
        go_roundw
        case rel => exact ⟨k + 1, v2, by go_num, HK.out, HS2⟩
        case measure => simp [intOf]; have := HK.out; omega
      · have h0n : ¬ (f : Int) = 0 := by
          have : f ≠ 0 := h0
          omega
        have hf1' : 1 ≤ f := hf1
        have hf32' : f ≤ 32768 := hf32
        have h3' : 3 ≤ n := h3
        have h258' : n ≤ 258 := h258
        have b2 : ((f : Int) == 0) = false := by simp; omega
        have HW := Aside0.mk (And.intro hw1 hw2)
        have HLB := Aside0.mk (lenS_bd h3' h258')
        have HDB := Aside0.mk (dis_spec f hf1' hf32')
        have HLF := Aside0.mk (fun w => deflate_length.calls 30 (n : Int) _ _ _ w (length_f n h3' h258'))
        have HDF := Aside0.mk (fun w => deflate_spread.calls 30 ((f : Int) - 1) 2 _ _ _ w (dist_f f hf1' hf32'))
        have HTK2 : Aside0 (symsW lens dist (xs.take (k + 1)) = symsW lens dist (xs.take k) ++ wd lens ((lenS n).1 : Int) ++ bitsOf (lenS n).2.1 (lenS n).2.2 ++ wd dist ((disS f).1 : Int) ++ bitsOf (disS f).2.1 (disS f).2.2) := ⟨by
          rw [HTK.out]
          unfold symW
          rw [if_neg (show ¬ f = 0 by omega)]
          simp only [List.append_assoc]⟩
        obtain ⟨kl, hkl⟩ : ∃ kl, (lenS n).1 = kl := ⟨_, rfl⟩
        obtain ⟨xl, hxl⟩ : ∃ xl, (lenS n).2.1 = xl := ⟨_, rfl⟩
        obtain ⟨bl, hbl⟩ : ∃ bl, (lenS n).2.2 = bl := ⟨_, rfl⟩
        obtain ⟨kd, hkd⟩ : ∃ kd, (disS f).1 = kd := ⟨_, rfl⟩
        obtain ⟨xd, hxd⟩ : ∃ xd, (disS f).2.1 = xd := ⟨_, rfl⟩
        obtain ⟨bd, hbd⟩ : ∃ bd, (disS f).2.2 = bd := ⟨_, rfl⟩
        simp only [hkl, hxl, hbl] at HLB HLF HTK2
        simp only [hkd, hxd, hbd] at HDB HDF HTK2
        have HW1 : Aside0 (okS lens (kl : Int) ∧ okS dist (kd : Int)) := ⟨by have := HW.out; simp only [hkl, hkd] at this; exact this⟩
        clear hw1 hw2 HW hkl hxl hbl hkd hxd hbd h0 h3 h258 hf1 hf32 HTK
        go_upto_region 4 with (fail)
        have hb1 := below_alloc (Below.refl wr.heap.size wr) (.cells #[.int .i64 (f : Int), .int .i64 (n : Int)] 60)
        have HX1 := Aside0.mk (heap_alloc_new wr (.cells #[.int .i64 (f : Int), .int .i64 (n : Int)] 60))
        have HS1 := Aside0.mk (HS.out.below hb1)
        obtain ⟨q, hq⟩ : ∃ q, wr.heap.size = q := ⟨_, rfl⟩
        rw [hq] at HX1
        rw [hq]
        clear hb1 HS ca cb hq
        generalize wr.alloc (.cells #[.int .i64 (f : Int), .int .i64 (n : Int)] 60) = w1 at HS1 HX1 ⊢
        have x0 : w1.cell? ⟨q, 0, none⟩ = some (.int .i64 (f : Int)) := (blk_cell HX1.out 0).trans rfl
        have x1 : w1.cell? ⟨q, 1, none⟩ = some (.int .i64 (n : Int)) := (blk_cell HX1.out 1).trans rfl
        go_wp2_with fail
        refine (HLF.out _).mono ?_
        rintro e w2 ⟨rfl, hd2⟩
        have HS2 := Aside0.mk (HS1.out.below hd2.below)
        have HX2 := Aside0.mk ((hd2.below.block _ (blk_lt HX1.out)).trans HX1.out)
        clear HS1 HX1 x0 x1 hd2
        have c0 := HS2.out.c0
        have HP := Aside0.mk (HS2.out.put1 HO.out.1 (Nat.le_trans HPL.out (by decide)) (kl : Int) HW1.out.1)
        go_wp2_with fail
        refine HP.out.mono ?_
        rintro e w3 ⟨rfl, v3, hi3, hf3, ha3⟩
        have HS3 := Aside0.mk (HS2.out.step hi3 hf3 ha3)
        have HX3 := Aside0.mk (symK HX2.out HS2.out.iw hf3)
        clear hi3 hf3 ha3 HP HS2 HX2 c0
        have HP := Aside0.mk (HS3.out.bits (by have h1 := HPL.out; have h2 := (wd_len HO.out.1 HW1.out.1).2; rw [List.length_append] at h1 ⊢; rw [List.length_append]; omega) xl bl (by have := HLB.out.2.2.1; omega) HLB.out.2.1)
        go_wp2_with fail
        refine HP.out.mono ?_
        rintro e w4 ⟨rfl, v4, hi4, hf4, ha4⟩
        have HS4 := Aside0.mk (HS3.out.step hi4 hf4 ha4)
        have HX4 := Aside0.mk (symK HX3.out HS3.out.iw hf4)
        clear hi4 hf4 ha4 HP HS3 HX3
        have x0 : w4.cell? ⟨q, 0, none⟩ = some (.int .i64 (f : Int)) := (blk_cell HX4.out 0).trans rfl
        go_wp2_with fail
        refine (HDF.out _).mono ?_
        rintro e w5 ⟨rfl, hd5⟩
        have HS5 := Aside0.mk (HS4.out.below hd5.below)
        clear HS4 HX4 x0 hd5
        have c1 := HS5.out.c1
        have HP := Aside0.mk (HS5.out.put2 HO.out.2.1 (by have h1 := HPL.out; have h2 := (wd_len HO.out.1 HW1.out.1).2; have h3 := HLB.out.2.2.1; rw [List.length_append] at h1 ⊢; rw [List.length_append, List.length_append, bitsOf_length]; omega) (kd : Int) HW1.out.2)
        go_wp2_with fail
        refine HP.out.mono ?_
        rintro e w6 ⟨rfl, v6, hi6, hf6, ha6⟩
        have HS6 := Aside0.mk (HS5.out.step hi6 hf6 ha6)
        clear hi6 hf6 ha6 HP HS5 c1
        have HP := Aside0.mk (HS6.out.bits (by have h1 := HPL.out; have h2 := (wd_len HO.out.1 HW1.out.1).2; have h4 := (wd_len HO.out.2.1 HW1.out.2).2; have h3 := HLB.out.2.2.1; rw [List.length_append] at h1 ⊢; rw [List.length_append, List.length_append, List.length_append, bitsOf_length]; omega) xd bd (by have := HDB.out.2.2.1; omega) HDB.out.2.1)
        go_wp2_with fail
        refine HP.out.mono ?_
        rintro e w7 ⟨rfl, v7, hi7, hf7, ha7⟩
        have HS7 := Aside0.mk (HS6.out.step hi7 hf7 ha7)
        rw [← HTK2.out] at HS7
        clear hi7 hf7 ha7 HP HS6
        go_wp2_with fail
        go_roundw
        case rel => exact ⟨k + 1, v7, by go_num, HK.out, HS7⟩
        case measure => simp [intOf]; have := HK.out; omega
    · have hke : k = xs.length := by omega
      subst hke
      rw [List.take_length] at HS
      have b1 : decide ((xs.length : Int) < (xs.length : Int)) = false := by simp
      have c0 := HS.out.c0
      have HPL : Aside0 ((l ++ symsW lens dist xs).length ≤ 100000000000) := ⟨by
        have h1 := symsW_len HO.out.1 HO.out.2.1 xs HXS.out
        have h2 := HL.out
        rw [List.length_append]
        omega⟩
      have HP := Aside0.mk (HS.out.put1 HO.out.1 HPL.out 256 HO.out.2.2)
      clear hlt hk
      go_wp2_with fail
      refine HP.out.mono ?_
      rintro e w2 ⟨rfl, v2, hi2, hf2, ha2⟩
      have HS2 := Aside0.mk (HS.out.step hi2 hf2 ha2)
      clear hi2 hf2 ha2 HP c0
      go_wp2_with fail
      exact bodyPost_end (results_none rfl _ _ _) rfl ⟨rfl, v2, HS2.out.iw, HS2.out.fr, HS2.out.at_⟩
end Go.Proofs.Ytaghmhcccighgaa.DF
end
