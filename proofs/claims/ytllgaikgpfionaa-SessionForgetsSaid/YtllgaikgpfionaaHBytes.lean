/- record.Bytes: what it comes to. -/
import Derived.Test.YtllgaikgpfionaaHBd
namespace Go.Proofs.Ytllgaikgpfionaa.RB
open Go.RowKit Go.Proofs.YtllgaikgpfionaaW.PrintWords Go.Proofs.YtllgaikgpfionaaW.PrintLast Go.Proofs.YtllgaikgpfionaaW.PrintMore Go.Proofs.Ytllgaikgpfionaa.MB Go.Proofs.Ytllgaikgpfionaa.HW Go.Proofs.Ytllgaikgpfionaa.Fn Go.Proofs.Ytllgaikgpfionaa.PV Go.Proofs.Ytllgaikgpfionaa.HB
attribute [local go_sem] max2_int min2_int max_two min_two max_three min_three max_four min_four   -- for this text's walks alone
/-- May a record be? -/
def okRec (r : S48) : Bool := decide (0 ≤ r.f0) && decide (r.f0 < 1099511627776) && decide (r.f1.size ≤ 64) && decide (r.f2.size ≤ 4096) && (!r.f3 || decide (r.f2.size = 0))
def vs (n : Nat) : ByteArray := strOfNums (pv n)
/-- A record's bytes. -/
def recB (d : Nat) (r : S48) : ByteArray := ((vs d ++ vs r.f1.size) ++ r.f1) ++ (if r.f3 then vs 0 else vs (r.f2.size + 1) ++ r.f2)
def rgo (base : Int) : List S48 → Int → ByteArray → ByteArray × Int
  | [], _, acc => (acc, 0)
  | r :: t, next, acc => if okRec r = true ∧ next ≤ r.f0 then rgo base t (r.f0 + 1) (acc ++ recB (r.f0 - base).toNat r) else (⟨#[]⟩, 90)
def recBytes (l : List S48) (base : Int) : Option (ByteArray × Int) :=
  if base < 0 ∨ 1099511627776 ≤ base then some (⟨#[]⟩, 90) else if l.length ≤ 1000000000 then some (rgo base l base ⟨#[]⟩) else none
theorem okRec_iff (r : S48) : okRec r = true ↔ 0 ≤ r.f0 ∧ r.f0 < 1099511627776 ∧ r.f1.size ≤ 64 ∧ r.f2.size ≤ 4096 ∧ (r.f3 = true → r.f2.size = 0) := by
  unfold okRec
  cases r.f3 <;> simp [Bool.and_eq_true, and_assoc]
theorem toList_nil_iff (s : ByteArray) : s.toList = ([] : List UInt8) ↔ s.size = 0 := by
  rw [Lib.toList_data, ← data_length]
  exact List.length_eq_zero_iff.symm
theorem check_ok (r : S48) : record_Check.f r.f0 r.f1 r.f2 r.f3 = some (if okRec r = true then 0 else 90) := by
  unfold record_Check.f
  by_cases h : okRec r = true
  · rw [if_pos h]
    obtain ⟨h1, h2, h3, h4, h5⟩ := (okRec_iff r).1 h
    rw [if_neg (by omega), if_neg (by omega), if_neg (by omega), if_neg (by omega)]
    by_cases h6 : r.f3 = true
    · rw [if_pos h6, if_pos ((toList_nil_iff _).2 (h5 h6))]
    · rw [if_neg h6]
  · rw [if_neg h]
    by_cases c1 : r.f0 < 0
    · rw [if_pos c1]
    · rw [if_neg c1]
      by_cases c2 : r.f0 ≥ 1099511627776
      · rw [if_pos c2]
      · rw [if_neg c2]
        by_cases c3 : (r.f1.size : Int) > 64
        · rw [if_pos c3]
        · rw [if_neg c3]
          by_cases c4 : (r.f2.size : Int) > 4096
          · rw [if_pos c4]
          · rw [if_neg c4]
            by_cases c5 : r.f3 = true
            · rw [if_pos c5, if_neg]
              intro c6
              exact h ((okRec_iff r).2 ⟨by omega, by omega, by omega, by omega, fun _ => (toList_nil_iff _).1 c6⟩)
            · exact absurd ((okRec_iff r).2 ⟨by omega, by omega, by omega, by omega, fun c6 => absurd c6 c5⟩) h
theorem vs_size (n : Nat) (h : n < 2 ^ 63) : (vs n).size ≤ 9 := by
  have hl9 : (pv n).length ≤ 9 := pv_len 8 n (Nat.lt_of_lt_of_le h (by decide))
  have hsz : (strOfNums (pv n)).size = (pv n).length := by simp [strOfNums, ByteArray.size]
  unfold vs
  omega
theorem recB_size (d : Nat) (r : S48) (hd : d < 2 ^ 63) (h : okRec r = true) : (recB d r).size ≤ 4200 := by
  obtain ⟨h1, h2, h3, h4, h5⟩ := (okRec_iff r).1 h
  have a := vs_size d hd
  have b := vs_size r.f1.size (by omega)
  have c := vs_size (r.f2.size + 1) (by omega)
  have c0 := vs_size 0 (by decide)
  unfold recB
  rw [ByteArray.size_append, ByteArray.size_append, ByteArray.size_append]
  split
  · omega
  · rw [ByteArray.size_append]; omega
/-- A block that holds a record. -/
def RBlk (W : World) (q : Nat) (r : S48) : Prop := W.heap[q]? = some (.cells #[.int .i64 r.f0, .string r.f1, .string r.f2, .bool r.f3] 48 (0, 0))
theorem RBlk.keepT {W W1 : World} {q : Nat} {r : S48} (h : RBlk W q r) (hk : KeepT W W1) : RBlk W1 q r := hk q _ _ _ h (by decide) (by decide)
theorem RBlk.below {W W1 : World} {q : Nat} {r : S48} (h : RBlk W q r) (hb : Below W.heap.size W W1) : RBlk W1 q r := (hb.block q (blk_lt h)).trans h
theorem RBlk.c0 {W : World} {q : Nat} {r : S48} (h : RBlk W q r) : W.cell? ⟨q, 0, none⟩ = some (.int .i64 r.f0) := (blk_cell h 0).trans rfl
theorem RBlk.c1 {W : World} {q : Nat} {r : S48} (h : RBlk W q r) : W.cell? ⟨q, 1, none⟩ = some (.string r.f1) := (blk_cell h 1).trans rfl
theorem RBlk.c2 {W : World} {q : Nat} {r : S48} (h : RBlk W q r) : W.cell? ⟨q, 2, none⟩ = some (.string r.f2) := (blk_cell h 2).trans rfl
theorem RBlk.c3 {W : World} {q : Nat} {r : S48} (h : RBlk W q r) : W.cell? ⟨q, 3, none⟩ = some (.bool r.f3) := (blk_cell h 3).trans rfl
theorem bytes_bad (A0 : Option Addr) (c0 n0 : Nat) (base : Int) (w : World) (hb : base < 0 ∨ 1099511627776 ≤ base) :
    Calls Try.prog 31 #[.slice A0 n0 c0, .int .i64 base] w fun e w' => e = .returned (.tuple #[.string ⟨#[]⟩, .int .i64 90]) ∧ Below w.heap.size w w' := by
  by_cases c1 : base < 0
  · have b1 : decide (base < 0) = true := by simpa using c1
    clear c1 hb
    go_enter Try.func31, Try.ntmps31
    go_wp2
    go_ret2
    exact ⟨rfl, Below.refl _ _⟩
  · have b1 : decide (base < 0) = false := by simp; omega
    have b2 : decide (1099511627776 ≤ base) = true := by simp; omega
    clear c1 hb
    go_enter Try.func31, Try.ntmps31
    go_wp2
    go_ret2
    exact ⟨rfl, Below.refl _ _⟩
set_option maxHeartbeats 4000000 in
set_option maxRecDepth 100000 in
theorem bytes_good (A0 : Option Addr) (c0 : Nat) (l : List S48) (base : Int) (r1 : ByteArray) (r2 : Int) (w : World) (hr0 : Kd.C k48 w A0 l.length l) (h0 : 0 ≤ base) (h1 : base < 1099511627776) (hl : l.length ≤ 1000000000) (h : rgo base l base ⟨#[]⟩ = (r1, r2)) :
    Calls Try.prog 31 #[.slice A0 l.length c0, .int .i64 base] w fun e w' => e = .returned (.tuple #[.string r1, .int .i64 r2]) ∧ Below w.heap.size w w' := by
  have hu := Try.underlying77
  have hu2 := Try.underlying48
  have b1 : decide (base < 0) = false := by simp; omega
  have b2 : decide (1099511627776 ≤ base) = false := by simp; omega
  have HR := Aside0.mk hr0
  have HH := Aside0.mk h
  clear hr0 h
  go_enter Try.func31, Try.ntmps31
  go_wp2_with fail
  have HI := Aside0.mk (show IsBd (w.alloc (.cells #[.pointer none, .slice none 0 0] 77)) w.heap.size w.heap.size ⟨#[]⟩ from ⟨_, _, Or.inl rfl, heap_alloc_new w _, Nat.le_refl _, own_nil _ _ _ _⟩)
  have HB := Aside0.mk (below_alloc (Below.refl w.heap.size w) (.cells #[.pointer none, .slice none 0 0] 77))
  generalize w.alloc (.cells #[.pointer none, .slice none 0 0] 77) = w1 at HI HB ⊢
  obtain ⟨g, hg⟩ : ∃ g, w.heap.size = g := ⟨_, rfl⟩
  have HG := Aside0.mk hg
  rw [hg] at HI HB
  rw [hg]
  clear hg b1 b2 hu
  go_loopw [7, 19] (fun v7 v19 wr => ∃ (i : Nat) (acc : ByteArray) (next : Int), v7 = .int .i64 next ∧ v19 = .int .i64 i ∧ i ≤ l.length ∧ 0 ≤ next ∧ next ≤ 1099511627776 ∧ base ≤ next ∧ Aside0 (acc.size ≤ 4200 * i) ∧ Aside0 (rgo base (l.drop i) next acc = (r1, r2)) ∧ Aside0 (IsBd wr g g acc) ∧ Aside0 (Below g w wr)) (fun _ v19 _ => l.length - (intOf v19).toNat)
  case atStart => exact ⟨0, ⟨#[]⟩, base, rfl, rfl, Nat.zero_le _, h0, by omega, Int.le_refl _, ⟨Nat.zero_le _⟩, HH, HI, HB⟩
  case round =>
    clear HI HB HH
    obtain ⟨i, acc, next, rfl, rfl, hi, hn0, hn1, hnb, HS, HH, HI, HB⟩ := hrel
    by_cases hlt : i < l.length
    · have hC := Kd.C_below HR.out (w1 := wr) (by rw [HG.out]; exact HB.out)
      obtain ⟨ad, rfl, k0, k1, k2, k3⟩ := at_T48 hC (i : Int) (by omega) (by omega)
      have hdrop : l.drop i = rd_T48 l (i : Int) :: l.drop (i + 1) := by
        rw [List.drop_eq_getElem_cons hlt]
        simp [rd_T48, List.getD_eq_getElem?_getD, hlt]
      obtain ⟨r, hr⟩ : ∃ r, rd_T48 l (i : Int) = r := ⟨_, rfl⟩
      rw [hr] at k0 k1 k2 k3 hdrop
      have HD := Aside0.mk hdrop
      clear hr hdrop hC
      have hb1 : decide (next < 0) = false := by simp; omega
      simp only [Int.toNat_natCast] at k0 k1 k2 k3
      go_wp2_with fail
      have hB2 := HB.out
      have hg1 : g ≤ wr.heap.size := Nat.le_of_lt HI.out.lt
      have HA := Aside0.mk (show RBlk (wr.alloc (.cells #[.int .i64 r.f0, .string r.f1, .string r.f2, .bool r.f3] 48)) wr.heap.size r from heap_alloc_new wr _)
      have HI2 := Aside0.mk (HI.out.below (below_alloc (Below.refl _ _) (.cells #[.int .i64 r.f0, .string r.f1, .string r.f2, .bool r.f3] 48)))
      have HB2 := Aside0.mk (HB.out.trans ((below_alloc (Below.refl _ _) (.cells #[.int .i64 r.f0, .string r.f1, .string r.f2, .bool r.f3] 48)).mono hg1))
      obtain ⟨q, hq⟩ : ∃ q, wr.heap.size = q := ⟨_, rfl⟩
      rw [hq] at HA
      rw [hq]
      generalize wr.alloc (.cells #[.int .i64 r.f0, .string r.f1, .string r.f2, .bool r.f3] 48) = w2 at HA HI2 HB2 ⊢
      clear hB2 HI HB hq k0 k1 k2 k3 hg1
      refine (record_Check.calls r.f0 r.f1 r.f2 r.f3 _ _ (check_ok r)).mono ?_
      rintro e w3 ⟨rfl, hb3⟩
      have HA3 := Aside0.mk (HA.out.below hb3)
      have HI3 := Aside0.mk (HI2.out.below hb3)
      have HB3 := Aside0.mk (HB2.out.trans (hb3.mono (Nat.le_of_lt HI2.out.lt)))
      clear HA HI2 HB2 hb3
      have d0 := HA3.out.c0
      have d1 := HA3.out.c1
      have d2 := HA3.out.c2
      have d3 := HA3.out.c3
      by_cases hok : okRec r = true
      · rw [if_pos hok]
        obtain ⟨m1, m2, m3, m4, m5⟩ := (okRec_iff r).1 hok
        by_cases hnx : next ≤ r.f0
        · have hb2 : decide (r.f0 < next) = false := by simp; omega
          have hw1 : wrap64 (r.f0 + 1) = r.f0 + 1 := wrap64_id _ (by omega) (by omega)
          have hw2 : wrap64 (r.f0 - base) = ((r.f0 - base).toNat : Int) := by rw [wrap64_id _ (by omega) (by omega)]; omega
          obtain ⟨d, hd⟩ : ∃ d, (r.f0 - base).toNat = d := ⟨_, rfl⟩
          rw [hd] at hw2
          have HDD := Aside0.mk hd
          have HW := Aside0.mk (And.intro hw1 hw2)
          have HM := Aside0.mk (And.intro m3 m4)
          have HN := Aside0.mk (And.intro (And.intro m1 m2) hnx)
          have HV := Aside0.mk (show d < 2 ^ 63 ∧ r.f1.size < 2 ^ 63 ∧ r.f2.size + 1 < 2 ^ 63 by omega)
          have HI0 := Aside0.mk (show i < 1000000000 by omega)
          have HS3 := Aside0.mk (show acc.size ≤ 4200 * i from HS.out)
          have HOK := Aside0.mk hok
          clear hw1 hw2 hok hnx m5 m1 m2 m3 m4 hb1 hd HS
          go_wp2_with fail
          rw [HW.out.2]
          refine (number_any g g acc d _ HI3.out (Nat.le_of_lt HI3.out.lt) (HV.out.1) (by have := HS3.out; have := HI0.out; omega)).mono ?_
          rintro e w4 ⟨rfl, hI, hb, hk⟩
          obtain ⟨s4, hs⟩ : ∃ x, acc ++ strOfNums (pv d) = x := ⟨_, rfl⟩
          rw [hs] at hI
          have HA4 := Aside0.mk (HA3.out.keepT hk)
          have HI4 := Aside0.mk hI
          have HB4 := Aside0.mk (HB3.out.trans hb)
          have HS4 := Aside0.mk (show s4.size ≤ 4200 * i + 9 by
            rw [← hs, ByteArray.size_append]
            have := HS3.out
            have := HM.out
            have : (strOfNums (pv d)).size ≤ 9 := vs_size d HV.out.1
            have : (strOfNums (pv r.f1.size)).size ≤ 9 := vs_size r.f1.size HV.out.2.1
            have : (strOfNums (pv (r.f2.size + 1))).size ≤ 9 := vs_size (r.f2.size + 1) HV.out.2.2
            have : (strOfNums (pv 0)).size ≤ 9 := vs_size 0 (by decide)
            omega)
          have HE4 := Aside0.mk hs
          clear hI hb hk hs HA3 HI3 HB3
          clear d0 d1 d2 d3
          have d0 := HA4.out.c0
          have d1 := HA4.out.c1
          have d2 := HA4.out.c2
          have d3 := HA4.out.c3
          go_wp2_with fail
          refine (number_any g g s4 r.f1.size _ HI4.out (Nat.le_of_lt HI4.out.lt) (HV.out.2.1) (by have := HS4.out; have := HI0.out; omega)).mono ?_
          rintro e w5 ⟨rfl, hI, hb, hk⟩
          obtain ⟨s5, hs⟩ : ∃ x, s4 ++ strOfNums (pv r.f1.size) = x := ⟨_, rfl⟩
          rw [hs] at hI
          have HA5 := Aside0.mk (HA4.out.keepT hk)
          have HI5 := Aside0.mk hI
          have HB5 := Aside0.mk (HB4.out.trans hb)
          have HS5 := Aside0.mk (show s5.size ≤ 4200 * i + 18 by
            rw [← hs, ByteArray.size_append]
            have := HS4.out
            have := HM.out
            have : (strOfNums (pv d)).size ≤ 9 := vs_size d HV.out.1
            have : (strOfNums (pv r.f1.size)).size ≤ 9 := vs_size r.f1.size HV.out.2.1
            have : (strOfNums (pv (r.f2.size + 1))).size ≤ 9 := vs_size (r.f2.size + 1) HV.out.2.2
            have : (strOfNums (pv 0)).size ≤ 9 := vs_size 0 (by decide)
            omega)
          have HE5 := Aside0.mk hs
          clear hI hb hk hs HA4 HI4 HB4
          clear d0 d1 d2 d3
          have d0 := HA5.out.c0
          have d1 := HA5.out.c1
          have d2 := HA5.out.c2
          have d3 := HA5.out.c3
          go_wp2_with fail
          refine (writeString g g s5 r.f1 _ HI5.out (Nat.le_of_lt HI5.out.lt) (by have := HS5.out; have := HI0.out; have := HM.out; omega)).mono ?_
          rintro e w6 ⟨rfl, hI, hb, hk⟩
          obtain ⟨s6, hs⟩ : ∃ x, s5 ++ r.f1 = x := ⟨_, rfl⟩
          rw [hs] at hI
          have HA6 := Aside0.mk (HA5.out.keepT hk)
          have HI6 := Aside0.mk hI
          have HB6 := Aside0.mk (HB5.out.trans hb)
          have HS6 := Aside0.mk (show s6.size ≤ 4200 * i + 82 by
            rw [← hs, ByteArray.size_append]
            have := HS5.out
            have := HM.out
            have : (strOfNums (pv d)).size ≤ 9 := vs_size d HV.out.1
            have : (strOfNums (pv r.f1.size)).size ≤ 9 := vs_size r.f1.size HV.out.2.1
            have : (strOfNums (pv (r.f2.size + 1))).size ≤ 9 := vs_size (r.f2.size + 1) HV.out.2.2
            have : (strOfNums (pv 0)).size ≤ 9 := vs_size 0 (by decide)
            omega)
          have HE6 := Aside0.mk hs
          clear hI hb hk hs HA5 HI5 HB5
          clear d0 d1 d2 d3
          have d0 := HA6.out.c0
          have d1 := HA6.out.c1
          have d2 := HA6.out.c2
          have d3 := HA6.out.c3
          cases hgo : r.f3
          · rw [hgo] at d3
            have HGo := Aside0.mk hgo
            clear hgo
            have hw3 : wrap64 ((r.f2.size : Int) + 1) = ((r.f2.size + 1 : Nat) : Int) := by rw [wrap64_id _ (by have := HM.out; omega) (by have := HM.out; omega)]; omega
            have HW3 := Aside0.mk hw3
            clear hw3
            go_wp2_with fail
            rw [HW3.out]
            refine (number_any g g s6 (r.f2.size + 1) _ HI6.out (Nat.le_of_lt HI6.out.lt) (HV.out.2.2) (by have := HS6.out; have := HI0.out; omega)).mono ?_
            rintro e w8 ⟨rfl, hI, hb, hk⟩
            obtain ⟨s8, hs⟩ : ∃ x, s6 ++ strOfNums (pv (r.f2.size + 1)) = x := ⟨_, rfl⟩
            rw [hs] at hI
            have HA8 := Aside0.mk (HA6.out.keepT hk)
            have HI8 := Aside0.mk hI
            have HB8 := Aside0.mk (HB6.out.trans hb)
            have HS8 := Aside0.mk (show s8.size ≤ 4200 * i + 91 by
              rw [← hs, ByteArray.size_append]
              have := HS6.out
              have := HM.out
              have : (strOfNums (pv d)).size ≤ 9 := vs_size d HV.out.1
              have : (strOfNums (pv r.f1.size)).size ≤ 9 := vs_size r.f1.size HV.out.2.1
              have : (strOfNums (pv (r.f2.size + 1))).size ≤ 9 := vs_size (r.f2.size + 1) HV.out.2.2
              have : (strOfNums (pv 0)).size ≤ 9 := vs_size 0 (by decide)
              omega)
            have HE8 := Aside0.mk hs
            clear hI hb hk hs HA6 HI6 HB6
            clear d0 d1 d2 d3
            have d0 := HA8.out.c0
            have d1 := HA8.out.c1
            have d2 := HA8.out.c2
            have d3 := HA8.out.c3
            go_wp2_with fail
            refine (writeString g g s8 r.f2 _ HI8.out (Nat.le_of_lt HI8.out.lt) (by have := HS8.out; have := HI0.out; have := HM.out; omega)).mono ?_
            rintro e w9 ⟨rfl, hI, hb, hk⟩
            obtain ⟨s9, hs⟩ : ∃ x, s8 ++ r.f2 = x := ⟨_, rfl⟩
            rw [hs] at hI
            have HA9 := Aside0.mk (HA8.out.keepT hk)
            have HI9 := Aside0.mk hI
            have HB9 := Aside0.mk (HB8.out.trans hb)
            have HS9 := Aside0.mk (show s9.size ≤ 4200 * i + 4187 by
              rw [← hs, ByteArray.size_append]
              have := HS8.out
              have := HM.out
              have : (strOfNums (pv d)).size ≤ 9 := vs_size d HV.out.1
              have : (strOfNums (pv r.f1.size)).size ≤ 9 := vs_size r.f1.size HV.out.2.1
              have : (strOfNums (pv (r.f2.size + 1))).size ≤ 9 := vs_size (r.f2.size + 1) HV.out.2.2
              have : (strOfNums (pv 0)).size ≤ 9 := vs_size 0 (by decide)
              omega)
            have HE9 := Aside0.mk hs
            clear hI hb hk hs HA8 HI8 HB8
            clear d0 d1 d2 d3
            have d0 := HA9.out.c0
            have d1 := HA9.out.c1
            have d2 := HA9.out.c2
            have d3 := HA9.out.c3
            have hfin := HH.out
            rw [HD.out, rgo, if_pos ⟨HOK.out, HN.out.2⟩] at hfin
            have he : acc ++ recB (r.f0 - base).toNat r = s9 := by
              rw [HDD.out]
              unfold recB
              rw [if_neg (by rw [HGo.out]; decide)]
              rw [← HE9.out, ← HE8.out, ← HE6.out, ← HE5.out, ← HE4.out]
              simp only [← ByteArray.append_assoc]
              rfl
            rw [he] at hfin
            have HH2 := Aside0.mk hfin
            clear hfin he
            clear d0 d1 d2 d3
            go_wp2_with fail
            rw [HW.out.1]
            go_roundw
            case rel => exact ⟨i + 1, s9, r.f0 + 1, rfl, by simp, hlt, by have := HN.out; omega, by have := HOK.out; have := ((okRec_iff r).1 HOK.out).2.1; omega, by have := HN.out; omega, ⟨by have := HS9.out; omega⟩, HH2, HI9, HB9⟩
            case measure =>
              simp only [intOf, Int.toNat_natCast]
              omega
          · rw [hgo] at d3
            have HGo := Aside0.mk hgo
            clear hgo
            go_wp2_with fail
            refine (number_any g g s6 0 _ HI6.out (Nat.le_of_lt HI6.out.lt) (by decide) (by have := HS6.out; have := HI0.out; omega)).mono ?_
            rintro e w8 ⟨rfl, hI, hb, hk⟩
            obtain ⟨s8, hs⟩ : ∃ x, s6 ++ strOfNums (pv 0) = x := ⟨_, rfl⟩
            rw [hs] at hI
            have HA8 := Aside0.mk (HA6.out.keepT hk)
            have HI8 := Aside0.mk hI
            have HB8 := Aside0.mk (HB6.out.trans hb)
            have HS8 := Aside0.mk (show s8.size ≤ 4200 * i + 91 by
              rw [← hs, ByteArray.size_append]
              have := HS6.out
              have := HM.out
              have : (strOfNums (pv d)).size ≤ 9 := vs_size d HV.out.1
              have : (strOfNums (pv r.f1.size)).size ≤ 9 := vs_size r.f1.size HV.out.2.1
              have : (strOfNums (pv (r.f2.size + 1))).size ≤ 9 := vs_size (r.f2.size + 1) HV.out.2.2
              have : (strOfNums (pv 0)).size ≤ 9 := vs_size 0 (by decide)
              omega)
            have HE8 := Aside0.mk hs
            clear hI hb hk hs HA6 HI6 HB6
            clear d0 d1 d2 d3
            have d0 := HA8.out.c0
            have d1 := HA8.out.c1
            have d2 := HA8.out.c2
            have d3 := HA8.out.c3
            have hfin := HH.out
            rw [HD.out, rgo, if_pos ⟨HOK.out, HN.out.2⟩] at hfin
            have he : acc ++ recB (r.f0 - base).toNat r = s8 := by
              rw [HDD.out]
              unfold recB
              rw [if_pos HGo.out]
              rw [← HE8.out, ← HE6.out, ← HE5.out, ← HE4.out]
              simp only [← ByteArray.append_assoc]
              rfl
            rw [he] at hfin
            have HH2 := Aside0.mk hfin
            clear hfin he
            clear d0 d1 d2 d3
            go_wp2_with fail
            rw [HW.out.1]
            go_roundw
            case rel => exact ⟨i + 1, s8, r.f0 + 1, rfl, by simp, hlt, by have := HN.out; omega, by have := HOK.out; have := ((okRec_iff r).1 HOK.out).2.1; omega, by have := HN.out; omega, ⟨by have := HS8.out; omega⟩, HH2, HI8, HB8⟩
            case measure =>
              simp only [intOf, Int.toNat_natCast]
              omega
        · have hb2 : decide (r.f0 < next) = true := by simp; omega
          have hfin := HH.out
          rw [HD.out, rgo, if_neg (fun hh => hnx hh.2)] at hfin
          obtain ⟨rfl, rfl⟩ := Prod.mk.inj hfin
          clear hfin m1 m2 m3 m4 m5 hok hnx
          go_wp2_with fail
          go_ret2
          exact ⟨rfl, by rw [HG.out]; exact HB3.out⟩
      · rw [if_neg hok]
        have hfin := HH.out
        rw [HD.out, rgo, if_neg (fun hh => hok hh.1)] at hfin
        obtain ⟨rfl, rfl⟩ := Prod.mk.inj hfin
        clear hfin hok
        go_wp2_with fail
        go_ret2
        exact ⟨rfl, by rw [HG.out]; exact HB3.out⟩
    · have hie : i = l.length := by omega
      subst hie
      have hfin := HH.out
      rw [List.drop_length, rgo] at hfin
      obtain ⟨rfl, rfl⟩ := Prod.mk.inj hfin
      clear hfin
      go_wp2_with fail
      refine (string_any g g acc _ HI.out (Nat.le_of_lt HI.out.lt)).mono ?_
      rintro e w3 ⟨rfl, hb⟩
      have HB3 := Aside0.mk (HB.out.trans hb)
      clear hb
      go_wp2_with fail
      go_ret2
      exact ⟨rfl, by rw [HG.out]; exact HB3.out⟩
theorem bytes_any (A0 : Option Addr) (c0 : Nat) (l : List S48) (base : Int) (r1 : ByteArray) (r2 : Int) (w : World) (hr0 : Kd.C k48 w A0 l.length l) (hc0 : l.length ≤ c0) (h : recBytes l base = some (r1, r2)) :
    Calls Try.prog 31 #[.slice A0 l.length c0, .int .i64 base] w fun e w' => e = .returned (.tuple #[.string r1, .int .i64 r2]) ∧ Below w.heap.size w w' := by
  unfold recBytes at h
  by_cases hb : base < 0 ∨ 1099511627776 ≤ base
  · rw [if_pos hb] at h
    injection h with h
    obtain ⟨rfl, rfl⟩ := Prod.mk.inj h
    exact bytes_bad A0 c0 l.length base w hb
  · rw [if_neg hb] at h
    by_cases hl : l.length ≤ 1000000000
    · rw [if_pos hl] at h
      injection h with h
      exact bytes_good A0 c0 l base r1 r2 w hr0 (by omega) (by omega) hl h
    · rw [if_neg hl] at h
      injection h
end Go.Proofs.Ytllgaikgpfionaa.RB
