/- A writer's methods: what each does to the writer. -/
import Derived.Test.YtmmoenleldcadaaGA
import Derived.Outline
namespace Go.Proofs.Ytmmoenleldcadaa.HW
open Go.RowKit Go.Proofs.YtmmoenleldcadaaW.PrintWords Go.Proofs.YtmmoenleldcadaaW.PrintLast Go.Proofs.YtmmoenleldcadaaW.PrintMore Go.Proofs.Ytmmoenleldcadaa.MB
attribute [local go_sem] max2_int min2_int max_two min_two max_three min_three max_four min_four   -- for this text's walks alone
theorem info5 : (Try.prog.info? 5).map (fun i => (i.zero, i.size, i.bytes)) = some (some (.int .u8 0), 1, 1) := by kernel_rfl
theorem given_any (g : Nat) (is : Bool) (v : Value) (n : Int) (w : World) (h : WBlk w g is v n) :
    Calls Try.prog 50 #[.pointer (some ⟨g, 0, none⟩)] w fun e w' => e = .returned (.bool is) ∧ w = w' := by
  have hc := h.c0
  clear h
  go_enter Try.func50, Try.ntmps50
  go_wp2
  go_ret
  exact ⟨rfl, rfl⟩
theorem div_lt_pow {x j r m : Nat} (h : x < 2 ^ m) (hj : j + r = m) : x / 2 ^ j < 2 ^ r := by
  rw [Nat.div_lt_iff_lt_mul (Nat.two_pow_pos j), ← Nat.pow_add, Nat.add_comm r j, hj]
  exact h
theorem mul_lt_64 {a t : Nat} (ha : a < 2 ^ 57) (ht : t < 8) : a * 2 ^ t < 2 ^ 64 := by
  have a2 : 2 ^ t ≤ 2 ^ 7 := Nat.pow_le_pow_right (by decide) (by omega)
  have h1 : a * 2 ^ t ≤ a * 2 ^ 7 := Nat.mul_le_mul_left _ a2
  omega
theorem new_byte {o a t : Nat} (ho : o < 256) (ha : a < 2 ^ 57) (ht : t < 8) :
    bits BinOp.or IntKind.u8 (o : Int) (IntKind.u64.wrap ((a : Int) * 2 ^ t) % 256) = ((o ||| (a * 2 ^ t % 256) : Nat) : Int) := by
  have hlt := mul_lt_64 ha ht
  have e3 : (a : Int) * 2 ^ t = ((a * 2 ^ t : Nat) : Int) := by simp
  generalize a * 2 ^ t = z at hlt e3
  have e4 : ((z : Nat) : Int) % 256 = ((z % 256 : Nat) : Int) := by omega
  rw [e3, wraps_u64 _ (by omega) (cast_lt_two_pow hlt), e4, or_u8 o _ (by omega) (Nat.mod_lt _ (by decide))]
theorem wb_round {B g : Nat} {v : Value} {l : List Bool} {x m : Nat} {w W2 : World} {gb cap q L j r st : Nat} {bs : List Int} {nb_ : Int} (HJ : j + r = m) (HL : L = l.length + j) (HLEN : (l ++ bitsOf x j).length = L)
    (HP : Packs bs (l ++ bitsOf x j)) (HQ : q = L / 8) (HRM : (room bs L).length = q + 1) (H2 : x < 2 ^ m) (h1 : m ≤ 57) (hl : l.length ≤ 1000000000000) (hs0 : 0 < st) (hs1 : st ≤ r) (HS8 : st ≤ 8 - L % 8) (HSr : st = 8 - L % 8 ∨ st = r)
    (HNB : bits BinOp.or IntKind.u8 (rd (room bs L) (q : Int)) (IntKind.u64.wrap ((x : Int) / 2 ^ j * 2 ^ (L % 8)) % 256) = nb_)
    (HW2 : WBlk W2 g true (.slice (some ⟨gb, 0, none⟩) (q + 1) cap) L) (HO2 : W2.ownsRow B 5 1 (.slice (some ⟨gb, 0, none⟩) (q + 1) cap) (q + 1) (nums .u8 ((room bs L).set q nb_)))
    (HF2 : Fr (WS g v) w W2) (HA : AtB w v (.slice (some ⟨gb, 0, none⟩) (q + 1) cap)) (HGB : B ≤ g) :
    (∃ j_1 r_1 vr, Value.int IntKind.i64 (wrap64 ((r : Int) - (st : Int))) = Value.int IntKind.i64 ((r_1 : Nat) : Int) ∧ Value.int IntKind.u64 ((x : Int) / 2 ^ j / 2 ^ st) = Value.int IntKind.u64 ((x / 2 ^ j_1 : Nat) : Int) ∧
      Aside0 (j_1 + r_1 = m) ∧ Aside0 (IsW (W2.setCell { block := g, off := 2 } (Value.int IntKind.i64 (wrap64 ((L : Int) + (st : Int))))) B g vr (l ++ bitsOf x j_1)) ∧
      Aside0 (Fr (WS g v) w (W2.setCell { block := g, off := 2 } (Value.int IntKind.i64 (wrap64 ((L : Int) + (st : Int)))))) ∧ Aside0 (AtB w v vr)) ∧
    (intOf (Value.int IntKind.i64 (wrap64 ((r : Int) - (st : Int))))).toNat < (intOf (Value.int IntKind.i64 ((r : Nat) : Int))).toNat := by
  have HN := Aside0.mk HNB
  clear HNB
  have hr57 : r ≤ 57 := by omega
  have e1 : wrap64 ((r : Int) - (st : Int)) = ((r - st : Nat) : Int) := by rw [wrap64_id _ (by omega) (by omega)]; omega
  have e2 : wrap64 ((L : Int) + (st : Int)) = ((L + st : Nat) : Int) := by rw [wrap64_id _ (by omega) (by omega)]; omega
  rw [e1, e2]
  clear e1 e2
  have f0 : WS g v g := Or.inl rfl
  have f1 := HF2.setCell (p := ⟨g, 2, none⟩) (Or.inl f0) (Value.int IntKind.i64 ((L + st : Nat) : Int))
  have f2 : j + st + (r - st) = m := by omega
  refine ⟨⟨j + st, r - st, .slice (some ⟨gb, 0, none⟩) (q + 1) cap, rfl, ?_, ⟨f2⟩, ?_, ⟨f1⟩, ⟨HA⟩⟩, ?_⟩
  · have : (x : Int) / 2 ^ j / 2 ^ st = ((x / 2 ^ j / 2 ^ st : Nat) : Int) := by simp
    rw [this, Nat.div_div_eq_div_mul, ← Nat.pow_add]
  · constructor
    have hu : x / 2 ^ j < 2 ^ r := div_lt_pow H2 HJ
    have hps := packs_step HP (x / 2 ^ j) st hs0 (by rw [HLEN]; exact HS8) (by rw [HLEN]; rcases HSr with e | e; exact .inl e; exact .inr (e ▸ hu))
    rw [HLEN, ← HQ, List.append_assoc, ← bitsOf_add] at hps
    have hold := rd_mem (P := fun b => 0 ≤ b ∧ b < 256) (by have := room_rng HP; rwa [HLEN] at this) ⟨by omega, by omega⟩ (q : Int)
    have hnew : nb_ = (((rd (room bs L) (q : Int)).toNat ||| (x / 2 ^ j * 2 ^ (L % 8) % 256) : Nat) : Int) := by
      rw [← HN.out]
      obtain ⟨o, ho⟩ := Int.eq_ofNat_of_zero_le hold.1
      have a1 : x / 2 ^ j < 2 ^ 57 := Nat.lt_of_lt_of_le hu (Nat.pow_le_pow_right (by decide) hr57)
      have e5 : (x : Int) / 2 ^ j = ((x / 2 ^ j : Nat) : Int) := by simp
      rw [ho] at hold ⊢
      rw [e5]
      exact new_byte (by omega) a1 (Nat.mod_lt _ (by decide))
    rw [← hnew] at hps
    refine ⟨?_, HGB, (room bs L).set q nb_, ?_, hps⟩
    · have := HW2.set2 ((L + st : Nat) : Int)
      rwa [List.length_append, bitsOf_length, show l.length + (j + st) = L + st from by omega]
    · rw [List.length_set, HRM]
      exact own_setCell HO2 (p := ⟨g, 2, none⟩) (fun e => own_ne HO2 HW2 (by decide) (by rw [← e])) _
  · simp [intOf]; omega
set_option maxHeartbeats 2000000 in
set_option maxRecDepth 100000 in
theorem bits_ok (B g : Nat) (v : Value) (l : List Bool) (x m : Nat) (w : World) (h : IsW w B g v l) (h1 : m ≤ 57) (h2 : x < 2 ^ m) (hl : l.length ≤ 1000000000000) (hB : B ≤ w.heap.size) :
    Calls Try.prog 49 #[.pointer (some ⟨g, 0, none⟩), .int .i64 x, .int .i64 m] w fun e w' => e = .returned (.int .i64 0) ∧ ∃ v', IsW w' B g v' (l ++ bitsOf x m) ∧ Fr (WS g v) w w' ∧ AtB w v v' := by
  have b0 : decide ((m : Int) < 0) = false := by simp
  have b1 : decide (57 < (m : Int)) = false := by simp; omega
  have b2 : decide ((x : Int) < 0) = false := by simp
  have b3 : ((x : Int) / 2 ^ m != 0) = false := by
    have : (x : Int) / 2 ^ m = ((x / 2 ^ m : Nat) : Int) := by simp
    rw [this, Nat.div_eq_of_lt h2]; rfl
  have H2 := Aside0.mk h2
  have HB := Aside0.mk hB
  have H := Aside0.mk h
  clear h h2 hB
  go_enter Try.func49, Try.ntmps49
  go_wp2_with (first | (go_at_call 50; refine (given_any g true v _ _ H.out.1).mono ?_; rintro e w' ⟨rfl, rfl⟩))
  clear b0 b1 b2 b3
  go_loopw [2, 7] (fun v2 v7 wr => ∃ (j r : Nat) (vr : Value), v2 = .int .i64 (r : Nat) ∧ v7 = .int .u64 ((x / 2 ^ j : Nat) : Int) ∧ Aside0 (j + r = m) ∧ Aside0 (IsW wr B g vr (l ++ bitsOf x j)) ∧ Aside0 (Fr (WS g v) w wr) ∧ Aside0 (AtB w v vr)) (fun v2 _ _ => (intOf v2).toNat)
  case atStart => exact ⟨0, m, v, rfl, by rw [Nat.pow_zero, Nat.div_one, wraps_u64 _ (by omega) (Int.lt_of_lt_of_le (cast_lt_two_pow H2.out) (by exact_mod_cast Nat.pow_le_pow_right (by decide) (by omega : m ≤ 64)))], ⟨by omega⟩, ⟨by simpa [bitsOf] using H.out⟩, ⟨Fr.refl _ _⟩, ⟨AtB.refl _ _⟩⟩
  case round =>
    obtain ⟨j, r, vr, rfl, rfl, HJ, HI, HF, HA⟩ := hrel
    obtain ⟨L, hlen, hL⟩ : ∃ L, (l ++ bitsOf x j).length = L ∧ L = l.length + j := ⟨_, rfl, by rw [List.length_append, bitsOf_length]⟩
    have HL := Aside0.mk hL
    clear hL
    by_cases hr : 0 < r
    · have hc2 := HI.out.1.c2
      rw [hlen] at hc2
      have hc1 := HI.out.1.c1
      have hf1 := HI.out.1.fz 1
      have hgB := HI.out.2.1
      have hne := HI.out.row_ne
      obtain ⟨bs, ho0, hp0⟩ := HI.out.2.2
      have hbl := hp0.len
      rw [hlen] at hbl
      have HO := Aside0.mk ho0
      have HP := Aside0.mk hp0
      have HNE := Aside0.mk hne
      have HGB := Aside0.mk hgB
      have HWB := Aside0.mk HI.out.1
      have hbw : B ≤ wr.heap.size := Nat.le_trans HB.out HF.out.size
      have HBW := Aside0.mk hbw
      have HBL := Aside0.mk hbl
      have HLEN := Aside0.mk hlen
      clear ho0 hp0 hne hgB hbw hbl hlen HI
      have hrm : (room bs L).length = L / 8 + 1 := by have := room_len HP.out; rwa [HLEN.out] at this
      obtain ⟨q, hq⟩ : ∃ q, q = L / 8 := ⟨_, rfl⟩
      have HQ := Aside0.mk hq
      rw [← hq] at hrm
      have HRM := Aside0.mk hrm
      clear hrm hq
      by_cases hz : L % 8 = 0
      · have b0 : ((L : Int) % 8 == 0) = true := by simp; omega
        have HR0 := Aside0.mk (show bs ++ [0] = room bs L from by unfold room; rw [if_pos hz])
        clear hz
        go_wp2_with (first | (at_builtin; refine print_append_num (w0 := wr) B rfl (.tmp 45) (.tmp 46) 79 5 .u8 1 rfl Try.underlying79 info5 (by decide) vr bs 0 rfl rfl HO.out (Below.refl _ _) HBW.out ?hl ?_; (case hl => (have := HBL.out; have := HJ.out; have := HL.out; omega)); intro v1 w1 ho hb hg hat; rw [HR0.out, HRM.out] at ho; obtain ⟨gb, cap, hv1, hgb, hglt⟩ := ho.form (by omega); subst hv1; have hb1 : WBlk w1 g true vr _ := blk_grown HWB.out hg (fun e => HNE.out e.symm); have hx1 := hb1.c1; have hx2 := hb1.c2; rw [HLEN.out] at hx2; have hx3 := hb1.fz 1; have HO1 := Aside0.mk ho; have HG1 := Aside0.mk hg; have HT1 := Aside0.mk hat; have HB1 := Aside0.mk hb1; have HGL := Aside0.mk hglt; have HGB2 := Aside0.mk hgb; clear ho hb hg hat hb1 hgb hglt))
        have hgne : gb ≠ g := fun e => own_ne HO1.out HB1.out (by decide) (by subst e; rfl)
        have HW := Aside0.mk (show WBlk (w1.setCell ⟨g, 1, none⟩ (.slice (some ⟨gb, 0, none⟩) (q + 1) cap)) g true (.slice (some ⟨gb, 0, none⟩) (q + 1) cap) L from by have := HB1.out.set1 (.slice (some ⟨gb, 0, none⟩) (q + 1) cap); rwa [HLEN.out] at this)
        have HOW := Aside0.mk (own_setCell HO1.out (p := ⟨g, 1, none⟩) (fun e => hgne (by simpa [Value.ownBlock] using e.symm)) (.slice (some ⟨gb, 0, none⟩) (q + 1) cap))
        have HFW := Aside0.mk ((Fr.grown HG1.out HF.out (fun k hk => by rcases HA.out with e | ⟨b, e, hb⟩; exact .inl (.inr (e ▸ hk)); rw [e] at hk; injection hk with hk; exact .inr (hk ▸ hb))).setCell (p := ⟨g, 1, none⟩) (.inl (.inl rfl)) (.slice (some ⟨gb, 0, none⟩) (q + 1) cap))
        have HAW := Aside0.mk (HA.out.trans HT1.out HF.out.size)
        clear hc1 hf1 hc2 hx1 hx2 hx3 HG1 HT1 HB1 HO1 HF HA HO HWB HNE HBW
        generalize w1.setCell ⟨g, 1, none⟩ (.slice (some ⟨gb, 0, none⟩) (q + 1) cap) = W at HW HOW HFW ⊢
        clear HR0 HGL HGB2 b0
        have hx1 := HW.out.c1
        have hx2 := HW.out.c2
        have hxf := HW.out.fz 2
        obtain ⟨hcq, hfq⟩ := own_at HOW.out (q : Int) (by omega) (by omega)
        simp only [Int.toNat_natCast] at hcq hfq
        have hqs : (q : Int) ≤ 1000000000100 := by have := HQ.out; have := HL.out; have := HJ.out; omega
        have hw1 : wrap64 (q : Int) = q := wrap64_id _ (by omega) (by omega)
        have hw2 : IntKind.i64.wrap (q : Int) = q := by rw [i64_w]; exact hw1
        have p1 : (0 : Int) ≤ q := by omega
        have p2 : (q : Int) < q + 1 := by omega
        obtain ⟨st, hst⟩ : ∃ st : Nat, (if (r : Int) < 8 - (L : Int) % 8 then (r : Int) else 8 - (L : Int) % 8) = (st : Int) := ⟨if (r : Int) < 8 - (L : Int) % 8 then r else 8 - L % 8, by split <;> omega⟩
        have HST := Aside0.mk hst
        have hs0 : 0 < st := by split at hst <;> omega
        have hs1 : st ≤ r := by split at hst <;> omega
        have HS8 := Aside0.mk (show st ≤ 8 - L % 8 from by split at hst <;> omega)
        have HSr := Aside0.mk (show st = 8 - L % 8 ∨ st = r from by split at hst <;> omega)
        clear hst
        obtain ⟨nb_, hnb⟩ : ∃ nb_ : Int, bits BinOp.or IntKind.u8 (rd (room bs L) ↑q) (IntKind.u64.wrap (↑x / 2 ^ j * 2 ^ (L % 8)) % 256) = nb_ := ⟨_, rfl⟩
        go_region
        have HNB := Aside0.mk hnb
        clear hnb
        have HW2 := Aside0.mk (show WBlk (W.setCell ⟨gb, q, none⟩ (.int .u8 nb_)).drew g true (.slice (some ⟨gb, 0, none⟩) (q + 1) cap) L from HW.out.far (p := ⟨gb, q, none⟩) (fun e => hgne e.symm) (.int .u8 nb_))
        have HO2 := Aside0.mk (show (W.setCell ⟨gb, q, none⟩ (.int .u8 nb_)).drew.ownsRow B 5 1 (.slice (some ⟨gb, 0, none⟩) (q + 1) cap) (q + 1) (nums .u8 ((room bs L).set q nb_)) from by have := (own_store HOW.out (q : Int) nb_).1; simp only [Int.toNat_natCast] at this; exact this)
        have HF2 := Aside0.mk (show Fr (WS g v) w (W.setCell ⟨gb, q, none⟩ (.int .u8 nb_)).drew from (HFW.out.setCell (p := ⟨gb, q, none⟩) (by rcases HAW.out with e | ⟨b, e, hb⟩; exact .inl (.inr e.symm); injection e with e; exact .inr (e ▸ hb)) (.int .u8 nb_)).drew)
        clear hx1 hx2 hxf hcq hfq HFW HOW HW hw1 hw2
        generalize (W.setCell ⟨gb, q, none⟩ (.int .u8 nb_)).drew = W2 at HW2 HO2 HF2 ⊢
        have hx1 := HW2.out.c1
        have hx2 := HW2.out.c2
        have hxf := HW2.out.fz 2
        have hst := HST.out
        go_wp2
        exact wb_round HJ.out HL.out HLEN.out HP.out HQ.out HRM.out H2.out h1 hl hs0 hs1 HS8.out HSr.out HNB.out HW2.out HO2.out HF2.out HAW.out HGB.out
      · have b0 : ((L : Int) % 8 == 0) = false := by simp; omega
        have HR0 := Aside0.mk (show bs = room bs L from by unfold room; rw [if_neg hz])
        go_wp2_with (fail)
        have ho := HO.out
        have hl := HRM.out
        rw [HR0.out, HRM.out] at ho
        obtain ⟨gb, cap, hv1, hgb, hglt⟩ := ho.form (by omega)
        subst hv1
        have HW := HWB
        rw [HLEN.out] at HW
        have HOW := Aside0.mk ho
        have HFW := HF
        have HAW := HA
        have hgne : gb ≠ g := fun e => own_ne HOW.out HW.out (by decide) (by subst e; rfl)
        clear hc1 hf1 hc2 HF HA HO HWB HNE HBW HR0 ho hl hgb hglt b0 hz
        generalize wr = W at HW HOW HFW ⊢
        have hx1 := HW.out.c1
        have hx2 := HW.out.c2
        have hxf := HW.out.fz 2
        obtain ⟨hcq, hfq⟩ := own_at HOW.out (q : Int) (by omega) (by omega)
        simp only [Int.toNat_natCast] at hcq hfq
        have hqs : (q : Int) ≤ 1000000000100 := by have := HQ.out; have := HL.out; have := HJ.out; omega
        have hw1 : wrap64 (q : Int) = q := wrap64_id _ (by omega) (by omega)
        have hw2 : IntKind.i64.wrap (q : Int) = q := by rw [i64_w]; exact hw1
        have p1 : (0 : Int) ≤ q := by omega
        have p2 : (q : Int) < q + 1 := by omega
        obtain ⟨st, hst⟩ : ∃ st : Nat, (if (r : Int) < 8 - (L : Int) % 8 then (r : Int) else 8 - (L : Int) % 8) = (st : Int) := ⟨if (r : Int) < 8 - (L : Int) % 8 then r else 8 - L % 8, by split <;> omega⟩
        have HST := Aside0.mk hst
        have hs0 : 0 < st := by split at hst <;> omega
        have hs1 : st ≤ r := by split at hst <;> omega
        have HS8 := Aside0.mk (show st ≤ 8 - L % 8 from by split at hst <;> omega)
        have HSr := Aside0.mk (show st = 8 - L % 8 ∨ st = r from by split at hst <;> omega)
        clear hst
        obtain ⟨nb_, hnb⟩ : ∃ nb_ : Int, bits BinOp.or IntKind.u8 (rd (room bs L) ↑q) (IntKind.u64.wrap (↑x / 2 ^ j * 2 ^ (L % 8)) % 256) = nb_ := ⟨_, rfl⟩
        go_region
        have HNB := Aside0.mk hnb
        clear hnb
        have HW2 := Aside0.mk (show WBlk (W.setCell ⟨gb, q, none⟩ (.int .u8 nb_)).drew g true (.slice (some ⟨gb, 0, none⟩) (q + 1) cap) L from HW.out.far (p := ⟨gb, q, none⟩) (fun e => hgne e.symm) (.int .u8 nb_))
        have HO2 := Aside0.mk (show (W.setCell ⟨gb, q, none⟩ (.int .u8 nb_)).drew.ownsRow B 5 1 (.slice (some ⟨gb, 0, none⟩) (q + 1) cap) (q + 1) (nums .u8 ((room bs L).set q nb_)) from by have := (own_store HOW.out (q : Int) nb_).1; simp only [Int.toNat_natCast] at this; exact this)
        have HF2 := Aside0.mk (show Fr (WS g v) w (W.setCell ⟨gb, q, none⟩ (.int .u8 nb_)).drew from (HFW.out.setCell (p := ⟨gb, q, none⟩) (by rcases HAW.out with e | ⟨b, e, hb⟩; exact .inl (.inr e.symm); injection e with e; exact .inr (e ▸ hb)) (.int .u8 nb_)).drew)
        clear hx1 hx2 hxf hcq hfq HFW HOW HW hw1 hw2
        generalize (W.setCell ⟨gb, q, none⟩ (.int .u8 nb_)).drew = W2 at HW2 HO2 HF2 ⊢
        have hx1 := HW2.out.c1
        have hx2 := HW2.out.c2
        have hxf := HW2.out.fz 2
        have hst := HST.out
        go_wp2
        exact wb_round HJ.out HL.out HLEN.out HP.out HQ.out HRM.out H2.out h1 hl hs0 hs1 HS8.out HSr.out HNB.out HW2.out HO2.out HF2.out HAW.out HGB.out
    · have b0 : decide (0 < (r : Int)) = false := by simp; omega
      go_wp2
      go_ret
      have hj : j = m := by have := HJ.out; omega
      subst hj
      exact ⟨rfl, vr, HI.out, HF.out, HA.out⟩
set_option maxHeartbeats 1000000 in
theorem bits_bad (g : Nat) (v : Value) (n x m : Int) (w : World) (h : WBlk w g true v n) (hb : ¬ (0 ≤ m ∧ m ≤ 57 ∧ 0 ≤ x ∧ x / 2 ^ m.toNat = 0)) :
    Calls Try.prog 49 #[.pointer (some ⟨g, 0, none⟩), .int .i64 x, .int .i64 m] w fun e w' => e = .returned (.int .i64 1) ∧ w = w' := by
  have H := Aside0.mk h
  clear h
  by_cases c0 : m < 0
  · have b0 : decide (m < 0) = true := by simpa using c0
    clear c0 hb
    go_enter Try.func49, Try.ntmps49
    go_wp2_with (first | (go_at_call 50; refine (given_any g true v n _ H.out).mono ?_; rintro e w' ⟨rfl, rfl⟩))
    go_ret
    exact ⟨rfl, rfl⟩
  · have b0 : decide (m < 0) = false := by simp; omega
    by_cases c1 : 57 < m
    · have b1 : decide (57 < m) = true := by simpa using c1
      clear c0 c1 hb
      go_enter Try.func49, Try.ntmps49
      go_wp2_with (first | (go_at_call 50; refine (given_any g true v n _ H.out).mono ?_; rintro e w' ⟨rfl, rfl⟩))
      go_ret
      exact ⟨rfl, rfl⟩
    · have b1 : decide (57 < m) = false := by simp; omega
      by_cases c2 : x < 0
      · have b2 : decide (x < 0) = true := by simpa using c2
        clear c0 c1 c2 hb
        go_enter Try.func49, Try.ntmps49
        go_wp2_with (first | (go_at_call 50; refine (given_any g true v n _ H.out).mono ?_; rintro e w' ⟨rfl, rfl⟩))
        go_ret
        exact ⟨rfl, rfl⟩
      · have b2 : decide (x < 0) = false := by simp; omega
        have hx : ¬ x / 2 ^ m.toNat = 0 := fun h => hb ⟨by omega, by omega, by omega, h⟩
        have b3 : (x / 2 ^ m.toNat != 0) = true := by simpa using hx
        have p0 : 0 ≤ m := by omega
        have p1 : m ≤ 57 := by omega
        have p2 : 0 ≤ x := by omega
        clear hx hb c0 c1 c2
        go_enter Try.func49, Try.ntmps49
        go_wp2_with (first | (go_at_call 50; refine (given_any g true v n _ H.out).mono ?_; rintro e w' ⟨rfl, rfl⟩))
        go_ret
        exact ⟨rfl, rfl⟩
set_option maxHeartbeats 1000000 in
theorem newWriter (w : World) :
    Calls Try.prog 31 #[] w fun e w' => e = .returned (.pointer (some ⟨w.heap.size, 0, none⟩)) ∧ IsW w' w.heap.size w.heap.size (.slice none 0 0) [] ∧ Below w.heap.size w w' := by
  have hu := Try.underlying81
  go_enter Try.func31, Try.ntmps31
  go_wp2
  go_ret
  exact ⟨rfl, ⟨heap_alloc_new w _, Nat.le_refl _, [], own_nil _ _ _ _, Packs.nil⟩, below_alloc (Below.refl _ _) _⟩
set_option maxHeartbeats 1000000 in
theorem w_place (B g : Nat) (v : Value) (l : List Bool) (w : World) (h : IsW w B g v l) :
    Calls Try.prog 35 #[.pointer (some ⟨g, 0, none⟩)] w fun e w' => e = .returned (.int .i64 l.length) ∧ w = w' := by
  have H := Aside0.mk h.1
  have hc := h.1.c2
  clear h
  go_enter Try.func35, Try.ntmps35
  go_wp2_with (first | (go_at_call 50; refine (given_any g true v _ _ H.out).mono ?_; rintro e w' ⟨rfl, rfl⟩))
  go_ret
  exact ⟨rfl, rfl⟩
set_option maxHeartbeats 1000000 in
theorem w_done (B g : Nat) (v : Value) (l : List Bool) (w : World) (h : IsW w B g v l) :
    Calls Try.prog 33 #[.pointer (some ⟨g, 0, none⟩)] w fun e w' => ∃ s, e = .returned (.string s) ∧ STold s l ∧ w = w' := by
  have H := Aside0.mk h.1
  have hc := h.1.c1
  obtain ⟨bs, ho, hp⟩ := h.2.2
  have hcv := own_string (P := Try.prog) Try.underlying79 Try.underlying5 Try.underlying9 ho
  have hs := Aside0.mk (told_strOfNums hp)
  obtain ⟨A, c, hv⟩ := own_slice ho
  subst hv
  generalize strOfNums bs = s at hs hcv
  clear h ho hp
  go_enter Try.func33, Try.ntmps33
  go_wp2_with (first | (go_at_call 50; refine (given_any g true _ _ _ H.out).mono ?_; rintro e w' ⟨rfl, rfl⟩))
  go_ret
  exact ⟨s, rfl, hs.out, rfl⟩
end Go.Proofs.Ytmmoenleldcadaa.HW
