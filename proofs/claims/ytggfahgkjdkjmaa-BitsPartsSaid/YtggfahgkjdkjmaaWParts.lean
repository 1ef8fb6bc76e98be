/- The walk of BitsParts: a number in two parts is the number. -/
import Derived.Test.YtggfahgkjdkjmaaHRd
import Derived.Test.YtggfahgkjdkjmaaHAwake
import Derived.Outline
namespace Go.Proofs.Ytggfahgkjdkjmaa.HW
open Go.RowKit Go.Proofs.YtggfahgkjdkjmaaW.PrintWords Go.Proofs.YtggfahgkjdkjmaaW.PrintLast Go.Proofs.YtggfahgkjdkjmaaW.PrintMore Go.Proofs.Ytggfahgkjdkjmaa.MB Go.Proofs.Ytggfahgkjdkjmaa.Fn Go.Proofs.Ytggfahgkjdkjmaa.PR
attribute [local go_sem] max2_int min2_int max_two min_two max_three min_three max_four min_four   -- for this text's walks alone
theorem bitsOf_mod (x a : Nat) : bitsOf (x % 2 ^ a) a = bitsOf x a := by
  unfold bitsOf
  refine List.map_congr_left fun i hi => ?_
  have : i < a := by simpa using hi
  rw [Nat.testBit_mod_two_pow]
  simp [this]
theorem parts_join (x a k : Nat) (h : a ≤ k) : ([] ++ bitsOf (x % 2 ^ a) a) ++ bitsOf (x / 2 ^ a) (k - a) = [] ++ bitsOf x k := by
  rw [bitsOf_mod, List.nil_append, List.nil_append, ← bitsOf_add]
  congr 1
  omega
theorem told_nb {s : ByteArray} {x k : Nat} (h : STold s ([] ++ bitsOf x k)) (a m : Nat) (ham : a + m ≤ k) : nb (sbit s) a m = x / 2 ^ a % 2 ^ m := by
  refine (nb_unique (Nat.mod_lt _ (Nat.two_pow_pos _)) (fun i hi => ?_)).symm
  rw [h.2, List.nil_append, getD_bitsOf, Nat.testBit_mod_two_pow, ← Nat.shiftRight_eq_div_pow, Nat.testBit_shiftRight]
  simp [hi, show a + i < k from by omega]
theorem low_bits (x a : Nat) (hx : x < 2 ^ 63) (ha : a ≤ 57) : Go.bits .and .i64 (x : Int) (wrap64 (wrap64 ((2 : Int) ^ a) - 1)) = ((x % 2 ^ a : Nat) : Int) := by
  have hp : 2 ^ a ≤ 2 ^ 57 := Nat.pow_le_pow_right (by decide) ha
  have hpos : 0 < 2 ^ a := Nat.two_pow_pos a
  have e0 : ((2 : Int) ^ a) = ((2 ^ a : Nat) : Int) := by simp
  have e2 : ((2 ^ a : Nat) : Int) - 1 = ((2 ^ a - 1 : Nat) : Int) := by omega
  rw [e0, w64c _ (by omega), e2, w64c _ (by omega), and_i64 _ _ hx (by omega), Nat.and_two_pow_sub_one_eq_mod]
set_option maxHeartbeats 4000000 in
set_option maxRecDepth 100000 in
theorem parts_good1 (x n cut : Int) (y k c : Nat) (hxy : x = (y : Int)) (hk : Go.bits .and .i64 n 63 = (k : Int)) (h57 : k ≤ 57) (hy : y < 2 ^ k) (hc : Go.bits .and .i64 cut 63 = (c : Int)) (hck : c ≤ k) (W0 : World) :
    Calls Try.prog 3 #[.int .i64 x, .int .i64 n, .int .i64 cut] W0 fun e w' => e = .returned (.bool true) ∧ Below W0.heap.size W0 w' := by
  subst hxy
  have hy63 : y < 2 ^ 63 := Nat.lt_of_lt_of_le hy (Nat.pow_le_pow_right (by decide) (by omega))
  have b1 : decide (57 < (k : Int)) = false := by simp; omega
  have b2 : decide ((y : Int) < 0) = false := by simp
  have b3 : decide (0 < (y : Int) / 2 ^ k) = false := by
    have : (y : Int) / 2 ^ k = ((y / 2 ^ k : Nat) : Int) := by simp
    rw [this, Nat.div_eq_of_lt hy]; rfl
  have hlow := low_bits y c hy63 (by omega)
  have hw : (k : Int) - (c : Int) = ((k - c : Nat) : Int) := by omega
  have HAK := Aside0.mk (show c ≤ k by omega)
  have A57 := Aside0.mk (show c ≤ 57 by omega)
  have K57 := Aside0.mk h57
  have HY := Aside0.mk hy
  have H63 := Aside0.mk hy63
  have LOW := Aside0.mk hlow
  have HW := Aside0.mk hw
  clear hlow hy hy63 hw
  go_enter Try.func3, Try.ntmps3
  go_wp2_with fail
  refine (newWriter _).mono ?_
  rintro e w1 ⟨rfl, hI, hb⟩
  have HIv := Aside0.mk hI
  have HB := Aside0.mk hb
  have HGv := Aside0.mk hI.lt
  clear hI hb
  go_wp2_with fail
  refine (newWriter _).mono ?_
  rintro e w2 ⟨rfl, hI, hb⟩
  have HIw := Aside0.mk hI
  have HIv := Aside0.mk (HIv.out.below hb)
  have HB := Aside0.mk (HB.out.trans (hb.mono HB.out.size))
  obtain ⟨gv, hgv⟩ : ∃ gv, W0.heap.size = gv := ⟨_, rfl⟩
  obtain ⟨gw, hgw⟩ : ∃ gw, w1.heap.size = gw := ⟨_, rfl⟩
  have HNE := Aside0.mk (show gv ≠ gw by have := HGv.out; omega)
  have HGW := Aside0.mk (show gv ≤ gw by have := HGv.out; omega)
  rw [hgv, hgw]
  rw [hgv] at HIv HB
  rw [hgw] at HIw
  have HVN := Aside0.mk (show ∀ q, (Value.slice none 0 0).ownBlock = some q → q ≠ gw from fun q hq => by simp [Value.ownBlock] at hq)
  have HSZ := Aside0.mk (show gv ≤ w2.heap.size from by have := HIv.out.lt; omega)
  have HGE := Aside0.mk hgv
  clear hI hb HGv hgv hgw
  go_wp2_with fail
  rw [LOW.out]
  refine (bits_ok gv gv (.slice none 0 0) [] y k _ HIv.out K57.out HY.out (by simp) HSZ.out).mono ?_
  rintro e w3 ⟨rfl, v3, hI, hf, ha⟩
  have HIv := Aside0.mk hI
  have HVR := Aside0.mk (show ∀ q, v3.ownBlock = some q → q ≠ gw from fun q hq => by
    rcases ha with e | ⟨b, e, hb⟩
    · rw [e] at hq; simp [Value.ownBlock] at hq
    · rw [e] at hq; injection hq with hq; have := HIw.out.lt; omega)
  have HVL := Aside0.mk (show ∀ q, v3.ownBlock = some q → q < w3.heap.size from fun q hq => (hI.row_lt q hq).2)
  have HIw := Aside0.mk (HIw.out.keep hf (fun h => by rcases h with h | h; exact HNE.out h.symm; simp [Value.ownBlock] at h) (fun q hq => by simp [Value.ownBlock] at hq))
  have HB := Aside0.mk (HB.out.trans (hf.below HSZ.out (fun q hq => by rcases hq with h | h; omega; simp [Value.ownBlock] at h)))
  have HSZ := Aside0.mk (Nat.le_trans HSZ.out hf.size)
  clear hI hf ha HVN
  go_wp2_with fail
  refine (bits_ok gw gw (.slice none 0 0) [] (y % 2 ^ c) c _ HIw.out A57.out (Nat.mod_lt _ (Nat.two_pow_pos _)) (by simp) (Nat.le_of_lt HIw.out.lt)).mono ?_
  rintro e w4 ⟨rfl, v4, hI, hf, ha⟩
  have HIw := Aside0.mk hI
  have HIv := Aside0.mk (HIv.out.keep hf (fun h => by rcases h with h | h; exact HNE.out h; simp [Value.ownBlock] at h) (fun q hq h => by rcases h with h | h; exact HVR.out q hq h; simp [Value.ownBlock] at h))
  have HWR := Aside0.mk (show ∀ q, v4.ownBlock = some q → q ≠ gv ∧ some q ≠ v3.ownBlock from fun q hq => by
    have := HIw.out.row_lt q hq
    refine ⟨by have := HGW.out; have := HNE.out; omega, fun e => ?_⟩
    rcases ha with e2 | ⟨b, e2, hb⟩
    · rw [e2] at hq; simp [Value.ownBlock] at hq
    · rw [e2] at hq; injection hq with hq
      have := HVL.out q e.symm
      omega)
  have HB := Aside0.mk (HB.out.trans (hf.below HSZ.out (fun q hq => by rcases hq with h | h; have := HGW.out; omega; simp [Value.ownBlock] at h)))
  have HSZ := Aside0.mk (Nat.le_trans HSZ.out hf.size)
  clear hI hf ha
  go_wp2_with fail
  rw [show (y : Int) / 2 ^ c = ((y / 2 ^ c : Nat) : Int) from by simp, HW.out]
  refine (bits_ok gw gw v4 _ (y / 2 ^ c) (k - c) _ HIw.out (by have := K57.out; omega) (div_lt_pow HY.out (by have := HAK.out; omega)) (by rw [List.nil_append, bitsOf_length]; have := A57.out; omega) (Nat.le_of_lt HIw.out.lt)).mono ?_
  rintro e w5 ⟨rfl, v5, hI, hf, ha⟩
  have hj := parts_join y c k HAK.out
  have HIw2 := Aside0.mk (show IsW w5 gw gw v5 ([] ++ bitsOf y k) from by rw [hj] at hI; exact hI)
  have HIv := Aside0.mk (HIv.out.keep hf (fun h => by rcases h with h | h; exact HNE.out h; exact (HWR.out _ h).1 rfl) (fun q hq h => by rcases h with h | h; exact HVR.out q hq h; exact (HWR.out q h).2 hq.symm))
  have HB := Aside0.mk (HB.out.trans (hf.below HSZ.out (fun q hq => by rcases hq with h | h; have := HGW.out; omega; have := (HIw.out.row_lt q h).1; have := HGW.out; omega)))
  have HSZ := Aside0.mk (Nat.le_trans HSZ.out hf.size)
  clear hI hf ha hj HIw
  go_wp2_with fail
  refine (w_done gv gv v3 _ _ HIv.out).mono ?_
  rintro e w6 ⟨s, rfl, hs, rfl⟩
  have HS := Aside0.mk hs
  clear hs
  go_wp2_with fail
  refine (w_done gw gw v5 _ _ HIw2.out).mono ?_
  rintro e w6 ⟨s2, rfl, hs2, rfl⟩
  obtain rfl := told_unique hs2 HS.out
  clear hs2
  go_wp2_with fail
  refine (w_done gv gv v3 _ _ HIv.out).mono ?_
  rintro e w6 ⟨s3, rfl, hs3, rfl⟩
  obtain rfl := told_unique hs3 HS.out
  clear hs3 HIv HIw2 HVR HWR HVL
  have HSS := Aside0.mk (show s3.size = (k + 7) / 8 from by have := HS.out.1; rw [List.nil_append, bitsOf_length] at this; exact this)
  go_wp2_with fail
  refine (newReader s3 _).mono ?_
  rintro e w6 ⟨g, rfl, hg, hI, hb⟩
  have HI := Aside0.mk hI
  have HB := Aside0.mk (HB.out.trans (hb.mono HSZ.out))
  have HG := Aside0.mk (show gv ≤ g by have := HSZ.out; omega)
  have HSZ := Aside0.mk (Nat.le_trans HSZ.out hb.size)
  clear hI hb hg
  go_wp2_with fail
  refine (r_ok g s3 0 c _ HI.out (by have := HSS.out; have := K57.out; omega) A57.out (by have := HSS.out; have := HAK.out; omega)).mono ?_
  rw [told_nb HS.out 0 c (by have := HAK.out; omega), Nat.pow_zero, Nat.div_one]
  rintro e w7 ⟨rfl, hI, hf⟩
  have HI := Aside0.mk hI
  have HB := Aside0.mk (HB.out.trans (hf.below HSZ.out (fun q hq => hq ▸ HG.out)))
  have hsz7 := hf.size
  clear hI hf
  have HSZ := Aside0.mk (Nat.le_trans HSZ.out (show w6.heap.size ≤ w7.heap.size from hsz7))
  clear hsz7
  go_wp2_with fail
  rw [HW.out]
  refine (r_ok g s3 (0 + c) (k - c) _ HI.out (by have := HSS.out; have := K57.out; omega) (by have := K57.out; omega) (by have := HSS.out; have := HAK.out; omega)).mono ?_
  rw [told_nb HS.out (0 + c) (k - c) (by have := HAK.out; omega), Nat.zero_add, Nat.mod_eq_of_lt (div_lt_pow HY.out (by have := HAK.out; omega))]
  rintro e w8 ⟨rfl, hI, hf⟩
  have HB := Aside0.mk (HB.out.trans (hf.below HSZ.out (fun q hq => hq ▸ HG.out)))
  clear hI hf
  rw [show (((y / 2 ^ c : Nat) : Int)) = (y : Int) / 2 ^ c from by simp]
  go_wp2_with fail
  refine (awake_any _).mono ?_
  rintro e w9 ⟨rfl, hb⟩
  have HB := Aside0.mk (HB.out.trans (hb.mono (by have := HB.out.size; rw [HGE.out] at this; exact this)))
  clear hb
  go_wp2
  go_ret
  rw [HGE.out]
  exact ⟨rfl, HB.out⟩
set_option maxHeartbeats 4000000 in
set_option maxRecDepth 100000 in
theorem parts_good2 (x n cut : Int) (y k c : Nat) (hxy : x = (y : Int)) (hk : Go.bits .and .i64 n 63 = (k : Int)) (h57 : k ≤ 57) (hy : y < 2 ^ k) (hc : Go.bits .and .i64 cut 63 = (c : Int)) (hck : k < c) (W0 : World) :
    Calls Try.prog 3 #[.int .i64 x, .int .i64 n, .int .i64 cut] W0 fun e w' => e = .returned (.bool true) ∧ Below W0.heap.size W0 w' := by
  subst hxy
  have hy63 : y < 2 ^ 63 := Nat.lt_of_lt_of_le hy (Nat.pow_le_pow_right (by decide) (by omega))
  have b1 : decide (57 < (k : Int)) = false := by simp; omega
  have b2 : decide ((y : Int) < 0) = false := by simp
  have b3 : decide (0 < (y : Int) / 2 ^ k) = false := by
    have : (y : Int) / 2 ^ k = ((y / 2 ^ k : Nat) : Int) := by simp
    rw [this, Nat.div_eq_of_lt hy]; rfl
  have hlow := low_bits y k hy63 (by omega)
  have hw : (k : Int) - (k : Int) = ((0 : Nat) : Int) := by omega
  have HAK := Aside0.mk (show k ≤ k by omega)
  have A57 := Aside0.mk (show k ≤ 57 by omega)
  have K57 := Aside0.mk h57
  have HY := Aside0.mk hy
  have H63 := Aside0.mk hy63
  have LOW := Aside0.mk hlow
  have HW := Aside0.mk hw
  clear hlow hy hy63 hw
  go_enter Try.func3, Try.ntmps3
  go_wp2_with fail
  refine (newWriter _).mono ?_
  rintro e w1 ⟨rfl, hI, hb⟩
  have HIv := Aside0.mk hI
  have HB := Aside0.mk hb
  have HGv := Aside0.mk hI.lt
  clear hI hb
  go_wp2_with fail
  refine (newWriter _).mono ?_
  rintro e w2 ⟨rfl, hI, hb⟩
  have HIw := Aside0.mk hI
  have HIv := Aside0.mk (HIv.out.below hb)
  have HB := Aside0.mk (HB.out.trans (hb.mono HB.out.size))
  obtain ⟨gv, hgv⟩ : ∃ gv, W0.heap.size = gv := ⟨_, rfl⟩
  obtain ⟨gw, hgw⟩ : ∃ gw, w1.heap.size = gw := ⟨_, rfl⟩
  have HNE := Aside0.mk (show gv ≠ gw by have := HGv.out; omega)
  have HGW := Aside0.mk (show gv ≤ gw by have := HGv.out; omega)
  rw [hgv, hgw]
  rw [hgv] at HIv HB
  rw [hgw] at HIw
  have HVN := Aside0.mk (show ∀ q, (Value.slice none 0 0).ownBlock = some q → q ≠ gw from fun q hq => by simp [Value.ownBlock] at hq)
  have HSZ := Aside0.mk (show gv ≤ w2.heap.size from by have := HIv.out.lt; omega)
  have HGE := Aside0.mk hgv
  clear hI hb HGv hgv hgw
  go_wp2_with fail
  rw [LOW.out]
  refine (bits_ok gv gv (.slice none 0 0) [] y k _ HIv.out K57.out HY.out (by simp) HSZ.out).mono ?_
  rintro e w3 ⟨rfl, v3, hI, hf, ha⟩
  have HIv := Aside0.mk hI
  have HVR := Aside0.mk (show ∀ q, v3.ownBlock = some q → q ≠ gw from fun q hq => by
    rcases ha with e | ⟨b, e, hb⟩
    · rw [e] at hq; simp [Value.ownBlock] at hq
    · rw [e] at hq; injection hq with hq; have := HIw.out.lt; omega)
  have HVL := Aside0.mk (show ∀ q, v3.ownBlock = some q → q < w3.heap.size from fun q hq => (hI.row_lt q hq).2)
  have HIw := Aside0.mk (HIw.out.keep hf (fun h => by rcases h with h | h; exact HNE.out h.symm; simp [Value.ownBlock] at h) (fun q hq => by simp [Value.ownBlock] at hq))
  have HB := Aside0.mk (HB.out.trans (hf.below HSZ.out (fun q hq => by rcases hq with h | h; omega; simp [Value.ownBlock] at h)))
  have HSZ := Aside0.mk (Nat.le_trans HSZ.out hf.size)
  clear hI hf ha HVN
  go_wp2_with fail
  refine (bits_ok gw gw (.slice none 0 0) [] (y % 2 ^ k) k _ HIw.out A57.out (Nat.mod_lt _ (Nat.two_pow_pos _)) (by simp) (Nat.le_of_lt HIw.out.lt)).mono ?_
  rintro e w4 ⟨rfl, v4, hI, hf, ha⟩
  have HIw := Aside0.mk hI
  have HIv := Aside0.mk (HIv.out.keep hf (fun h => by rcases h with h | h; exact HNE.out h; simp [Value.ownBlock] at h) (fun q hq h => by rcases h with h | h; exact HVR.out q hq h; simp [Value.ownBlock] at h))
  have HWR := Aside0.mk (show ∀ q, v4.ownBlock = some q → q ≠ gv ∧ some q ≠ v3.ownBlock from fun q hq => by
    have := HIw.out.row_lt q hq
    refine ⟨by have := HGW.out; have := HNE.out; omega, fun e => ?_⟩
    rcases ha with e2 | ⟨b, e2, hb⟩
    · rw [e2] at hq; simp [Value.ownBlock] at hq
    · rw [e2] at hq; injection hq with hq
      have := HVL.out q e.symm
      omega)
  have HB := Aside0.mk (HB.out.trans (hf.below HSZ.out (fun q hq => by rcases hq with h | h; have := HGW.out; omega; simp [Value.ownBlock] at h)))
  have HSZ := Aside0.mk (Nat.le_trans HSZ.out hf.size)
  clear hI hf ha
  go_wp2_with fail
  rw [show (y : Int) / 2 ^ k = ((y / 2 ^ k : Nat) : Int) from by simp]
  refine (bits_ok gw gw v4 _ (y / 2 ^ k) 0 _ HIw.out (by have := K57.out; omega) (div_lt_pow HY.out (by have := HAK.out; omega)) (by rw [List.nil_append, bitsOf_length]; have := A57.out; omega) (Nat.le_of_lt HIw.out.lt)).mono ?_
  rintro e w5 ⟨rfl, v5, hI, hf, ha⟩
  have hj := parts_join y k k HAK.out
  rw [Nat.sub_self] at hj
  have HIw2 := Aside0.mk (show IsW w5 gw gw v5 ([] ++ bitsOf y k) from by rw [hj] at hI; exact hI)
  have HIv := Aside0.mk (HIv.out.keep hf (fun h => by rcases h with h | h; exact HNE.out h; exact (HWR.out _ h).1 rfl) (fun q hq h => by rcases h with h | h; exact HVR.out q hq h; exact (HWR.out q h).2 hq.symm))
  have HB := Aside0.mk (HB.out.trans (hf.below HSZ.out (fun q hq => by rcases hq with h | h; have := HGW.out; omega; have := (HIw.out.row_lt q h).1; have := HGW.out; omega)))
  have HSZ := Aside0.mk (Nat.le_trans HSZ.out hf.size)
  clear hI hf ha hj HIw
  go_wp2_with fail
  refine (w_done gv gv v3 _ _ HIv.out).mono ?_
  rintro e w6 ⟨s, rfl, hs, rfl⟩
  have HS := Aside0.mk hs
  clear hs
  go_wp2_with fail
  refine (w_done gw gw v5 _ _ HIw2.out).mono ?_
  rintro e w6 ⟨s2, rfl, hs2, rfl⟩
  obtain rfl := told_unique hs2 HS.out
  clear hs2
  go_wp2_with fail
  refine (w_done gv gv v3 _ _ HIv.out).mono ?_
  rintro e w6 ⟨s3, rfl, hs3, rfl⟩
  obtain rfl := told_unique hs3 HS.out
  clear hs3 HIv HIw2 HVR HWR HVL
  have HSS := Aside0.mk (show s3.size = (k + 7) / 8 from by have := HS.out.1; rw [List.nil_append, bitsOf_length] at this; exact this)
  go_wp2_with fail
  refine (newReader s3 _).mono ?_
  rintro e w6 ⟨g, rfl, hg, hI, hb⟩
  have HI := Aside0.mk hI
  have HB := Aside0.mk (HB.out.trans (hb.mono HSZ.out))
  have HG := Aside0.mk (show gv ≤ g by have := HSZ.out; omega)
  have HSZ := Aside0.mk (Nat.le_trans HSZ.out hb.size)
  clear hI hb hg
  go_wp2_with fail
  refine (r_ok g s3 0 k _ HI.out (by have := HSS.out; have := K57.out; omega) A57.out (by have := HSS.out; have := HAK.out; omega)).mono ?_
  rw [told_nb HS.out 0 k (by have := HAK.out; omega), Nat.pow_zero, Nat.div_one]
  rintro e w7 ⟨rfl, hI, hf⟩
  have HI := Aside0.mk hI
  have HB := Aside0.mk (HB.out.trans (hf.below HSZ.out (fun q hq => hq ▸ HG.out)))
  have hsz7 := hf.size
  clear hI hf
  have HSZ := Aside0.mk (Nat.le_trans HSZ.out (show w6.heap.size ≤ w7.heap.size from hsz7))
  clear hsz7
  go_wp2_with fail
  skip
  refine (r_ok g s3 (0 + k) 0 _ HI.out (by have := HSS.out; have := K57.out; omega) (by have := K57.out; omega) (by have := HSS.out; have := HAK.out; omega)).mono ?_
  rw [told_nb HS.out (0 + k) 0 (by have := HAK.out; omega), Nat.zero_add, Nat.mod_eq_of_lt (div_lt_pow HY.out (by have := HAK.out; omega))]
  rintro e w8 ⟨rfl, hI, hf⟩
  have HB := Aside0.mk (HB.out.trans (hf.below HSZ.out (fun q hq => hq ▸ HG.out)))
  clear hI hf
  rw [show (((y / 2 ^ k : Nat) : Int)) = (y : Int) / 2 ^ k from by simp]
  go_wp2_with fail
  refine (awake_any _).mono ?_
  rintro e w9 ⟨rfl, hb⟩
  have HB := Aside0.mk (HB.out.trans (hb.mono (by have := HB.out.size; rw [HGE.out] at this; exact this)))
  clear hb
  go_wp2
  go_ret
  rw [HGE.out]
  exact ⟨rfl, HB.out⟩
set_option maxHeartbeats 2000000 in
theorem parts_bad (x n cut : Int) (k : Nat) (hk : Go.bits .and .i64 n 63 = (k : Int)) (hb : 57 < k ∨ x < 0 ∨ 0 < x / 2 ^ k) (W0 : World) :
    Calls Try.prog 3 #[.int .i64 x, .int .i64 n, .int .i64 cut] W0 fun e w' => e = .returned (.bool true) ∧ Below W0.heap.size W0 w' := by
  by_cases c1 : 57 < k
  · have b1 : decide (57 < (k : Int)) = true := by simp; omega
    clear c1 hb
    go_enter Try.func3, Try.ntmps3
    go_wp2_with fail
    refine (awake_any _).mono ?_
    rintro e w9 ⟨rfl, hb⟩
    have HB := Aside0.mk hb
    clear hb
    go_wp2
    go_ret
    exact ⟨rfl, HB.out⟩
  · have b1 : decide (57 < (k : Int)) = false := by simp; omega
    by_cases c2 : x < 0
    · have b2 : decide (x < 0) = true := by simpa using c2
      clear c1 c2 hb
      go_enter Try.func3, Try.ntmps3
      go_wp2_with fail
      refine (awake_any _).mono ?_
      rintro e w9 ⟨rfl, hb⟩
      have HB := Aside0.mk hb
      clear hb
      go_wp2
      go_ret
      exact ⟨rfl, HB.out⟩
    · have b2 : decide (x < 0) = false := by simp; omega
      have b3 : decide (0 < x / 2 ^ k) = true := by
        have : 0 < x / 2 ^ k := by rcases hb with h | h | h; exact absurd h c1; exact absurd h c2; exact h
        simpa using this
      have p2 : 0 ≤ x := by omega
      have p1 : k ≤ 57 := by omega
      clear c1 c2 hb
      go_enter Try.func3, Try.ntmps3
      go_wp2_with fail
      refine (awake_any _).mono ?_
      rintro e w9 ⟨rfl, hb⟩
      have HB := Aside0.mk hb
      clear hb
      go_wp2
      go_ret
      exact ⟨rfl, HB.out⟩
theorem parts_walk (x : Int) (_hx : (Lit.int .i64 x).wf = true) (n : Int) (_hn : (Lit.int .i64 n).wf = true) (cut : Int) (_hc : (Lit.int .i64 cut).wf = true) (W0 : World) :
    Calls Try.prog 3 #[.int .i64 x, .int .i64 n, .int .i64 cut] W0 fun e w' => e = .returned (.bool true) ∧ Below W0.heap.size W0 w' := by
  obtain ⟨k, hk, hk63⟩ := and_any n 63 (by decide)
  obtain ⟨c, hc, hc63⟩ := and_any cut 63 (by decide)
  by_cases hb : 57 < k ∨ x < 0 ∨ 0 < x / 2 ^ k
  · exact parts_bad x n cut k hk hb W0
  · have h0 : 0 ≤ x := by omega
    obtain ⟨y, rfl⟩ := Int.eq_ofNat_of_zero_le h0
    have hy : y < 2 ^ k := by
      have h1 : ¬ 0 < ((y : Int) / 2 ^ k) := fun h => hb (Or.inr (Or.inr h))
      have e : (y : Int) / 2 ^ k = ((y / 2 ^ k : Nat) : Int) := by simp
      rw [e] at h1
      exact (Nat.div_eq_zero_iff_lt (Nat.two_pow_pos _)).1 (Nat.eq_zero_of_not_pos (fun h => h1 (by exact_mod_cast h)))
    by_cases hck : c ≤ k
    · exact parts_good1 _ n cut y k c rfl hk (by omega) hy hc hck W0
    · exact parts_good2 _ n cut y k c rfl hk (by omega) hy hc (by omega) W0
end Go.Proofs.Ytggfahgkjdkjmaa.HW
