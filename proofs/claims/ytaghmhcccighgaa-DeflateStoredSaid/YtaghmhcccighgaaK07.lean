/- Parts: HRq5 -/
import Derived.Test.YtaghmhcccighgaaK06
import Derived.Test.YtaghmhcccighgaaK05
set_option linter.unusedVariables false
set_option linter.unusedSimpArgs false
/- The document's copies: walked. (printed by mkrq5.py) -/
namespace Go.Proofs.Ytaghmhcccighgaa.HI
open Go.RowKit Go.Proofs.YtaghmhcccighgaaW.PrintWords Go.Proofs.YtaghmhcccighgaaW.PrintLast Go.Proofs.YtaghmhcccighgaaW.PrintMore Go.Proofs.Ytaghmhcccighgaa.HW Go.Proofs.Ytaghmhcccighgaa.MB Go.Proofs.Ytaghmhcccighgaa.Fn Go.Proofs.Ytaghmhcccighgaa.HF Go.Proofs.Ytaghmhcccighgaa.RT Go.Proofs.Ytaghmhcccighgaa.RT.Rd Go.Proofs.Ytaghmhcccighgaa.HP
attribute [local go_sem] max2_int min2_int max_two min_two max_three min_three max_four min_four   -- for this text's walks alone
theorem noneL_table {dl : List Int} (h : ∀ x ∈ dl, 0 ≤ x) : tableO dl = if noneL dl = true then none else some dl := by
  unfold tableO noneL
  have : (dl.all fun l => decide (l = 0)) = dl.all fun l => decide (l ≤ 0) := by
    rw [Bool.eq_iff_iff, List.all_eq_true, List.all_eq_true]
    constructor
    · intro g x hx
      have := g x hx
      simp at this ⊢
      omega
    · intro g x hx
      have := g x hx
      have := h x hx
      simp at *
      omega
  rw [this]
/-- What stands behind the length. -/
def copF (most : Nat) (out : List Int) (n : Nat) (j : Int) : Rd (List Int) :=
  if 30 ≤ j then err 40 else
    (bitsN (distB j.toNat).2).bind fun y =>
    if out.length < (distB j.toNat).1 + y then err 40 else
    if most < out.length + n then err 4 else ret (copyN ((distB j.toNat).1 + y) n out)
theorem copies_run (most : Nat) (out : List Int) (k : Nat) (dl : List Int) (hk : ¬ 285 < k) (hd : ∀ x ∈ dl, 0 ≤ x) (s : ByteArray) (a : Nat) (ha : a ≤ 8 * s.size) :
    (copiesT most out k (tableO dl)).run s a = runS (if noneL dl = true then enE (bE s a 0 (lenB k).2) else bE s a 0 (lenB k).2) ((symT dl).bind (copF most out ((lenB k).1 + bV s a 0 (lenB k).2))) s (bA s a 0 (lenB k).2) := by
  unfold copiesT
  rw [if_neg hk, ← runS_0, runS_bits _ _ _ _ _ ha, noneL_table hd]
  by_cases hn : noneL dl = true
  · rw [if_pos hn, if_pos hn, runS_no (enE_ne _)]
    unfold runS enE
    by_cases he : bE s a 0 (lenB k).2 = 0 <;> simp [he, run]
  · rw [if_neg hn, if_neg hn]
    rfl
def copG (most : Nat) (out : List Int) (n j : Nat) : Rd (List Int) :=
    (bitsN (distB j).2).bind fun y =>
    if out.length < (distB j).1 + y then err 40 else
    if most < out.length + n then err 4 else ret (copyN ((distB j).1 + y) n out)
theorem copF_run (most : Nat) (out : List Int) (n : Nat) (j : Nat) (er : Int) (s : ByteArray) (a : Nat) : runS er (copF most out n (j : Int)) s a = runS (if 30 ≤ j then enE er else er) (copG most out n j) s a := by
  unfold copF
  by_cases h : 30 ≤ j
  · rw [if_pos (by omega), if_pos h, runS_no (enE_ne _)]
    unfold runS enE
    by_cases he : er = 0 <;> simp [he, run]
  · rw [if_neg (by omega), if_neg h]
    rfl
theorem last_run (most L far n : Nat) (v : List Int) (er : Int) (s : ByteArray) (a : Nat) : runS er (if L < far then err 40 else if most < L + n then err 4 else ret v) s a =
    runS (if (if er = 0 ∧ L < far then 40 else er) = 0 ∧ most < L + n then 4 else (if er = 0 ∧ L < far then 40 else er)) (ret v) s a := by
  unfold runS
  by_cases he : er = 0
  · by_cases h1 : L < far
    · simp [he, h1, run]
    · by_cases h2 : most < L + n
      · simp [he, h1, h2, run]
      · simp [he, h1, h2]
  · simp [he]
theorem distB_mid : ∀ q : Nat, q < 26 → (distB (4 + q)).2 + 1 = (4 + q) / 2 ∧ (distB (4 + q)).1 = 1 + (2 + (4 + q) % 2) * 2 ^ (distB (4 + q)).2 := by decide +kernel
/-- A block beside a reader's. -/
theorem IsQ.apart {W : World} {B r : Nat} {ov : Value} {s : ByteArray} {a most : Nat} {out : List Int} {er : Int} (hx : IsQ W B r ov s a most out er) {k : Nat} {cells : Array Value} (hk : W.heap[k]? = some (.cells cells 50 (0, 0))) : ¬ QS r ov k := by
  rintro (rfl | e)
  · have h1 := hx.bx
    rw [hk] at h1
    injection h1 with h1
    injection h1 with _ h1
    exact absurd h1 (by decide)
  · exact Kd.R_ne hx.ro hk (by decide) e.symm
/-- 2 ^ e as a number. -/
theorem two_pow (e m : Nat) (he : e ≤ 13) (hm : m < 8) : ∃ z : Nat, m * 2 ^ e = z ∧ z ≤ 65536 ∧ IntKind.i64.wrap ((m : Int) * 2 ^ e) = (z : Int) := by
  have hp : 2 ^ e ≤ 8192 := Nat.le_trans (Nat.pow_le_pow_right (by decide) he) (by decide)
  have hz : m * 2 ^ e ≤ 8 * 8192 := Nat.mul_le_mul (by omega) hp
  refine ⟨m * 2 ^ e, rfl, by omega, ?_⟩
  rw [show (m : Int) * 2 ^ e = ((m * 2 ^ e : Nat) : Int) by rw [Int.natCast_mul, Int.natCast_pow]; rfl]
  exact IntWalk.i64_in _ (by omega)
/-- Lengths' symbols. -/
theorem lenB_mid : ∀ q : Nat, q < 20 → (lenB (265 + q)).2 = (4 + q) / 4 ∧ (lenB (265 + q)).1 = 3 + (4 + (4 + q) % 4) * 2 ^ ((4 + q) / 4) := by decide +kernel
set_option maxRecDepth 100000 in
set_option maxHeartbeats 40000000 in
theorem copiesQ {W : World} {B r : Nat} {ov : Value} {s : ByteArray} {a most : Nat} {out : List Int} (h : IsQ W B r ov s a most out 0) {N : Nat} {c : Value} {dl : List Int} (hc : CodeIs W N c dl) (ho : okL dl = true) (hd0 : 0 < dl.length) (k : Nat) (hk : 256 < k) (hk2 : k ≤ 400) :
    Calls Try.prog 41 #[.pointer (some ⟨r, 0, none⟩), .int .i64 k, c] W (PQ (fun _ : List Int => .tuple #[]) (.tuple #[]) (fun o => o) B r ov s most W ((copiesT most out k (tableO dl)).run s a)) := by
  have hlen := okL_len ho
  obtain ⟨oA, oc, hov⟩ := h.slice
  subst hov
  obtain ⟨v1, v2, rfl, h1, h2⟩ := hc
  have HCD := Aside0.mk (show CodeIs W N (.agg #[v1, v2]) dl from ⟨v1, v2, rfl, h1, h2⟩)
  obtain ⟨k1, o1, e1, cells1, rfl, hc1, hb1, hx1, hC1⟩ := h1
  obtain ⟨k2, o2, e2, cells2, rfl, hc2, hb2, hx2, hC2⟩ := h2
  generalize hV1 : Value.slice (some ⟨k1, o1, none⟩) dl.length e1 = V1 at HCD ⊢
  generalize hV2 : Value.slice (some ⟨k2, o2, none⟩) (codesL dl).length e2 = V2 at HCD ⊢
  obtain ⟨A1, m1, n1, hv1⟩ : ∃ A m n, V1 = .slice A m n := ⟨_, _, _, hV1.symm⟩
  obtain ⟨A2, m2, n2, hv2⟩ : ∃ A m n, V2 = .slice A m n := ⟨_, _, _, hV2.symm⟩
  subst hv1
  subst hv2
  clear hV1 hV2 hc1 hb1 hx1 hC1 hc2 hb2 hx2 hC2
  obtain ⟨q, hq⟩ : ∃ z, W.heap.size = z := ⟨_, rfl⟩
  have HB1 := Aside0.mk (below_alloc (Below.refl W.heap.size W) (.cells #[.slice A1 m1 n1, .slice A2 m2 n2] 50))
  have HBQ : Aside0 ((W.alloc (.cells #[.slice A1 m1 n1, .slice A2 m2 n2] 50)).heap[q]? = some (.cells #[.slice A1 m1 n1, .slice A2 m2 n2] 50 (0, 0))) := ⟨by rw [← hq]; exact heap_alloc_new _ _⟩
  have H := Aside0.mk h
  have HO := Aside0.mk ho
  have HD0 := Aside0.mk hd0
  by_cases h285 : 285 < k
  · have hb : decide ((285 : Int) < (k : Int)) = true := decide_eq_true (by omega)
    have hb' : decide (285 < k) = true := decide_eq_true h285
    have HRUN : Aside0 ((copiesT most out k (tableO dl)).run s a = .no 40) := ⟨by unfold copiesT; rw [if_pos h285]; rfl⟩
    have HG0 := Aside0.mk ((QG.start H.out).below HB1.out)
    have HE := Aside0.mk (endsQ_any HG0.out.ix)
    clear h ho hd0 hk hk2 h285 hlen
    go_enter Try.func41, Try.ntmps41
    go_wp2_with fail
    refine HE.out.mono ?_
    rintro e w1 ⟨rfl, hx, hf⟩
    have HG1 := Aside0.mk (HG0.out.used hx hf (AtB.refl _ _))
    clear hx hf
    go_wp2_with fail
    go_end0
    rw [HRUN.out]
    exact HG1.out.no (by decide) rfl
  · have hrun := copies_run most out k dl h285 (fun x hx => (hlen.2 x hx).1) s a h.le
    have hlk := lenK k hk (by omega)
    obtain ⟨lb, hlb⟩ : ∃ z, (lenB k).1 = z := ⟨_, rfl⟩
    obtain ⟨le, hle⟩ : ∃ z, (lenB k).2 = z := ⟨_, rfl⟩
    rw [hlb, hle] at hrun hlk
    obtain ⟨x, hx⟩ : ∃ z, bV s a 0 le = z := ⟨_, rfl⟩
    have hx32 : x < 32 := by
      rw [← hx]
      exact Nat.lt_of_lt_of_le (bV_lt s a 0 le) (Nat.le_trans (Nat.pow_le_pow_right (by decide) hlk.2.2) (by decide))
    have ha1 := bA_le s a 0 le h.le
    obtain ⟨a1, he1⟩ : ∃ z, bA s a 0 le = z := ⟨_, rfl⟩
    obtain ⟨er1, hr1⟩ : ∃ z, bE s a 0 le = z := ⟨_, rfl⟩
    rw [hx, he1, hr1] at hrun
    rw [he1] at ha1
    have HRUN := Aside0.mk hrun
    have HLK := Aside0.mk hlk
    have HX := Aside0.mk hx32
    have HA1 := Aside0.mk ha1
    have hbx : le = 0 → x = 0 ∧ a1 = a ∧ er1 = 0 := by
      intro e
      subst e
      refine ⟨?_, ?_, ?_⟩
      · rw [← hx]; have := bV_lt s a 0 0; omega
      · rw [← he1]; unfold bA; rw [if_pos ⟨rfl, h.le⟩]; rfl
      · rw [← hr1]; unfold bE; rw [if_pos rfl]; exact if_pos h.le
    have HBX := Aside0.mk hbx
    have HE1 := Aside0.mk (And.intro hx (And.intro he1 hr1))
    have HK := Aside0.mk (show 256 < k ∧ k < 286 by omega)
    have HLEN := Aside0.mk hlen
    have hb : decide ((285 : Int) < (k : Int)) = false := decide_eq_false (by omega)
    have hb' : decide (285 < k) = false := decide_eq_false h285
    have hw1 : IntKind.i64.wrap ((k : Int) - 254) = (k : Int) - 254 := IntWalk.i64_in _ (by omega)
    have HG0 := Aside0.mk ((QG.start H.out).below HB1.out)
    have HLB := Aside0.mk (And.intro hlb hle)
    clear h ho hd0 hk hk2 h285 hlen hrun hlk hx32 ha1 hbx hx he1 hr1 hlb hle
    go_enter Try.func41, Try.ntmps41
    go_upto_region 4 with (fail)
    go_cut [23] from 18 to 23 (fun v w => v = .bool (decide (265 ≤ k ∧ k < 285)) ∧ w = W.alloc (.cells #[.slice A1 m1 n1, .slice A2 m2 n2] 50))
    case first =>
      by_cases h1 : 265 ≤ k
      · have b1 : decide ((265 : Int) ≤ (k : Int)) = true := decide_eq_true (by omega)
        have b1' : decide (265 ≤ k) = true := decide_eq_true h1
        by_cases h2 : k < 285
        · have b2 : decide ((k : Int) < 285) = true := decide_eq_true (by omega)
          have b2' : decide (k < 285) = true := decide_eq_true h2
          have HC := Aside0.mk (show decide (265 ≤ k ∧ k < 285) = true from decide_eq_true ⟨h1, h2⟩)
          clear h1 h2
          go_wp2_with fail
          go_meet
          case rel => exact ⟨by rw [HC.out], rfl⟩
        · have b2 : decide ((k : Int) < 285) = false := decide_eq_false (by omega)
          have b2' : decide (k < 285) = false := decide_eq_false h2
          have HC := Aside0.mk (show decide (265 ≤ k ∧ k < 285) = false from decide_eq_false (fun h => h2 h.2))
          clear h1 h2
          go_wp2_with fail
          go_meet
          case rel => exact ⟨by rw [HC.out], rfl⟩
      · have b1 : decide ((265 : Int) ≤ (k : Int)) = false := decide_eq_false (by omega)
        have b1' : decide (265 ≤ k) = false := decide_eq_false h1
        have HC := Aside0.mk (show decide (265 ≤ k ∧ k < 285) = false from decide_eq_false (fun h => h1 h.1))
        clear h1
        go_wp2_with fail
        go_meet
        case rel => exact ⟨by rw [HC.out], rfl⟩
    case rest =>
      obtain ⟨rfl, rfl⟩ := hcut
      go_upto_if 23 with (fail)
      go_cut [6, 7] from 18 to 38 (fun v6 v7 w => ∃ nv : Nat, v6 = .int .i64 nv ∧ (k ≠ 285 → nv = lb + x) ∧ Aside0 (QG W w B r (.slice oA out.length oc) s most a1 (.slice oA out.length oc) out er1) ∧ Aside0 (w.heap[q]? = some (.cells #[.slice A1 m1 n1, .slice A2 m2 n2] 50 (0, 0))))
      case first =>
        by_cases hc : 265 ≤ k ∧ k < 285
        · have HC : decide (265 ≤ k ∧ k < 285) = true := decide_eq_true hc
          have HCC := Aside0.mk hc
          have hb1 : IntKind.i64.wrap ((k : Int) - 261) = (k : Int) - 261 := IntWalk.i64_in _ (by omega)
          have hb2 : Int.tdiv ((k : Int) - 261) 4 = (le : Int) := by
            obtain ⟨p, rfl⟩ : ∃ p, k = 265 + p := ⟨k - 265, by omega⟩
            have := (lenB_mid p (by omega)).1
            rw [HLB.out.2] at this
            rw [show ((265 + p : Nat) : Int) - 261 = ((4 + p : Nat) : Int) by omega, this]
            rfl
          obtain ⟨m4, hm4⟩ : ∃ m : Nat, Int.tmod ((k : Int) - 261) 4 = (m : Int) ∧ m < 4 ∧ lb = 3 + (4 + m) * 2 ^ le := by
            obtain ⟨p, rfl⟩ : ∃ p, k = 265 + p := ⟨k - 265, by omega⟩
            have h2 := lenB_mid p (by omega)
            rw [HLB.out.1, HLB.out.2] at h2
            refine ⟨(4 + p) % 4, ?_, Nat.mod_lt _ (by decide), ?_⟩
            · rw [show ((265 + p : Nat) : Int) - 261 = ((4 + p : Nat) : Int) by omega]
              rfl
            · rw [h2.2, h2.1]
          have hm44 := hm4.1
          have hle5 := HLK.out.2.2
          have HGd := Aside0.mk (HG0.out.below (below_drew (Below.refl _ _)))
          have HBT := Aside0.mk (bitsQ_any HGd.out.ix le (by omega))
          rw [HE1.out.1, HE1.out.2.1, HE1.out.2.2] at HBT
          (try rw [HC])
          clear hc
          go_upto_region 6 with (fail)
          go_region_held3 (fun _ => True) (trivial) ((first | (go_at_call 24; refine HBT.out.mono ?_; rintro e w5 ⟨rfl, hx5, hf5⟩)))
          have HG5 := Aside0.mk (HGd.out.used hx5 (QS_of_r hf5) (AtB.refl _ _))
          have HB5 : Aside0 (w5.heap[q]? = some (.cells #[.slice A1 m1 n1, .slice A2 m2 n2] 50 (0, 0))) := ⟨hf5.blk (blk_below HBQ.out (below_drew (Below.refl _ _))) (fun e => HGd.out.ix.apart (blk_below HBQ.out (below_drew (Below.refl _ _))) (Or.inl e))⟩
          obtain ⟨z, hz1, hz2, hz3⟩ := two_pow le (4 + m4) (by omega) (by omega)
          have hval : IntKind.i64.wrap (IntKind.i64.wrap (3 + IntKind.i64.wrap (IntKind.i64.wrap (4 + (m4 : Int)) * 2 ^ le)) + (x : Int)) = ((lb + x : Nat) : Int) := by
            have hx32 := HX.out
            rw [IntWalk.i64_in (4 + (m4 : Int)) (by omega), show (4 : Int) + (m4 : Int) = ((4 + m4 : Nat) : Int) by omega, hz3, IntWalk.i64_in (3 + (z : Int)) (by omega), IntWalk.i64_in _ (by omega)]
            have := hm4.2.2
            omega
          clear hx5 hf5 HBT
          go_wp2_with fail
          go_meet
          case rel => exact ⟨lb + x, by rw [hval], fun _ => rfl, HG5, HB5⟩
        · have HC : decide (265 ≤ k ∧ k < 285) = false := decide_eq_false hc
          have HN1 : Aside0 (k ≠ 285 → k - 254 = lb + x ∧ a1 = a ∧ er1 = 0) := ⟨by
            intro h
            have hk := HK.out
            have hl := HLB.out
            unfold lenB at hl
            rw [if_neg h, if_pos (by omega)] at hl
            have := HBX.out hl.2.symm
            refine ⟨?_, this.2⟩
            rw [this.1]
            exact hl.1⟩
          have HN2 : Aside0 (k = 285 → a1 = a ∧ er1 = 0) := ⟨by
            intro h
            have hl := HLB.out
            unfold lenB at hl
            rw [if_pos h] at hl
            exact (HBX.out hl.2.symm).2⟩
          have HAE : Aside0 (a1 = a ∧ er1 = 0) := ⟨by
            by_cases h : k = 285
            · exact HN2.out h
            · exact (HN1.out h).2⟩
          (try rw [HC])
          clear hc
          go_wp2_with fail
          go_meet
          case rel => exact ⟨k - 254, by have := HK.out; rw [show ((k - 254 : Nat) : Int) = (k : Int) - 254 by omega], fun h => (HN1.out h).1, by rw [HAE.out.1, HAE.out.2]; exact HG0, HBQ⟩
      case rest =>
        obtain ⟨nv, rfl, hn1, HG1, HB2⟩ := hcut
        have HN1 := Aside0.mk hn1
        clear hn1 hb hb' hw1
        go_upto_if 39 with (fail)
        go_cut [6] from 38 to 40 (fun v6 w => v6 = .int .i64 ((lb + x : Nat) : Int) ∧ w = wc)
        case first =>
          by_cases h5 : k = 285
          · have hb2 : decide ((k : Int) = 285) = true := decide_eq_true (by omega)
            have hb3 : ((k : Int) == 285) = true := by rw [beq_iff_eq]; omega
            have hb4 : decide (k = 285) = true := decide_eq_true h5
            have HL : Aside0 (lb + x = 258) := ⟨by
              have hl := HLB.out
              unfold lenB at hl
              rw [if_pos h5] at hl
              rw [(HBX.out hl.2.symm).1, ← hl.1]⟩
            clear h5
            go_wp2_with fail
            go_meet
            case rel => exact ⟨by rw [HL.out]; rfl, rfl⟩
          · have hb2 : decide ((k : Int) = 285) = false := decide_eq_false (by omega)
            have hb3 : ((k : Int) == 285) = false := by rw [beq_eq_false_iff_ne]; omega
            have hb4 : decide (k = 285) = false := decide_eq_false h5
            have HL := Aside0.mk (HN1.out h5)
            clear h5
            go_wp2_with fail
            go_meet
            case rel => exact ⟨by rw [HL.out], rfl⟩
        case rest =>
          obtain ⟨rfl, rfl⟩ := hcut
          obtain ⟨n, hn⟩ : ∃ z, lb + x = z := ⟨_, rfl⟩
          have HNB : Aside0 (n ≤ 300) := ⟨by have := HLK.out; have := HX.out; omega⟩
          rw [hn] at HRUN ⊢
          clear hn
          have HC3 := Aside0.mk (HCD.out.keepQ H.out HG1.out.fr)
          have HNO := Aside0.mk (none_ok HC3.out (by have := HLEN.out; omega))
          have d0 := blk_cell HB2.out 0
          have d1 := blk_cell HB2.out 1
          go_wp2_with fail
          refine HNO.out.mono ?_
          rintro e w2 ⟨rfl, hb⟩
          have HG2 := Aside0.mk (HG1.out.below hb)
          have HB3 := Aside0.mk (blk_below HB2.out hb)
          clear hb d0 d1 HNO HG1 HB2
          go_upto_if 41 with (fail)
          go_cut [] from 40 to 44 (fun w => Aside0 (QG W w B r (.slice oA out.length oc) s most a1 (.slice oA out.length oc) out (if noneL dl = true then enE er1 else er1)) ∧ Aside0 (w.heap[q]? = some (.cells #[.slice A1 m1 n1, .slice A2 m2 n2] 50 (0, 0))))
          case first =>
            cases hnl : noneL dl with
            | true =>
              have HE := Aside0.mk (endsQ_any HG2.out.ix)
              go_wp2_with fail
              refine HE.out.mono ?_
              rintro e w3 ⟨rfl, hx, hf⟩
              have HG3 := Aside0.mk (HG2.out.used hx hf (AtB.refl _ _))
              have HB4 : Aside0 (w3.heap[q]? = some (.cells #[.slice A1 m1 n1, .slice A2 m2 n2] 50 (0, 0))) := ⟨hf.blk HB3.out (HG2.out.ix.apart HB3.out)⟩
              clear hx hf HE
              go_wp2_with fail
              go_meet
              case rel => exact ⟨by rw [if_pos hnl]; exact HG3, HB4⟩
            | false =>
              go_wp2_with fail
              go_meet
              case rel => exact ⟨by rw [if_neg (by rw [hnl]; exact Bool.false_ne_true)]; exact HG2, HB3⟩
          case rest =>
            obtain ⟨HG3, HB4⟩ := hcut
            obtain ⟨er2, he2⟩ : ∃ z, (if noneL dl = true then enE er1 else er1) = z := ⟨_, rfl⟩
            rw [he2] at HG3 HRUN
            have HC4 := Aside0.mk (HCD.out.keepQ H.out HG3.out.fr)
            have HSY := Aside0.mk (symbolQ_any HG3.out.ix HC4.out HO.out)
            have d0 := blk_cell HB4.out 0
            have d1 := blk_cell HB4.out 1
            have hrun := HRUN.out
            have hle2 := HG3.out.ix.le
            rw [runS_sym] at hrun
            have hj := sV_rng HD0.out s a1 er2
            have ha2 := sA_le dl s a1 er2 hle2
            obtain ⟨j, hje⟩ : ∃ m : Nat, sV dl s a1 er2 = m := ⟨(sV dl s a1 er2).toNat, by omega⟩
            obtain ⟨a2, hae⟩ : ∃ m, sA dl s a1 er2 = m := ⟨_, rfl⟩
            obtain ⟨er3, hee⟩ : ∃ m, sE dl s a1 er2 = m := ⟨_, rfl⟩
            rw [hje] at hj
            rw [hae] at ha2
            rw [hje, hae, hee] at HSY
            rw [hje, hae, hee, copF_run] at hrun
            have HRUN2 := Aside0.mk hrun
            have HJ : Aside0 (j < 288) := ⟨by have := HLEN.out; omega⟩
            have HA2 := Aside0.mk ha2
            clear he2 hrun hle2 hj ha2 hje hae hee HRUN HG2 HB3 HC3
            go_wp2_with fail
            refine HSY.out.mono ?_
            rintro e w4 ⟨rfl, hx, hf⟩
            have HG4 := Aside0.mk (HG3.out.used hx hf (AtB.refl _ _))
            clear hx hf HSY d0 d1 HG3 HB4 HC4
            go_upto_if 48 with (fail)
            go_cut [] from 47 to 51 (fun w => Aside0 (QG W w B r (.slice oA out.length oc) s most a2 (.slice oA out.length oc) out (if 30 ≤ j then enE er3 else er3)))
            case first =>
              by_cases h30 : 30 ≤ j
              · have b1 : decide ((29 : Int) < (j : Int)) = true := decide_eq_true (by omega)
                have b2 : decide (29 < j) = true := decide_eq_true (by omega)
                have HE := Aside0.mk (endsQ_any HG4.out.ix)
                have HC := Aside0.mk h30
                clear h30
                (try rw [b1])
                go_wp2_with fail
                refine HE.out.mono ?_
                rintro e w5 ⟨rfl, hx, hf⟩
                have HG5 := Aside0.mk (HG4.out.used hx hf (AtB.refl _ _))
                clear hx hf HE
                go_wp2_with fail
                go_meet
                case rel => rw [if_pos HC.out]; exact HG5
              · have b1 : decide ((29 : Int) < (j : Int)) = false := decide_eq_false (by omega)
                have b2 : decide (29 < j) = false := decide_eq_false (by omega)
                have HC := Aside0.mk h30
                clear h30
                (try rw [b1])
                go_wp2_with fail
                go_meet
                case rel => rw [if_neg HC.out]; exact HG4
            case rest =>
              have HG5 := hcut
              have HER : Aside0 ((if 30 ≤ j then enE er3 else er3) = 0 → j < 30) := ⟨by
                intro h
                by_cases hh : 30 ≤ j
                · rw [if_pos hh] at h
                  exact absurd h (enE_ne _)
                · omega⟩
              obtain ⟨er4, he4⟩ : ∃ z, (if 30 ≤ j then enE er3 else er3) = z := ⟨_, rfl⟩
              rw [he4] at HG5 HRUN2 HER
              have HRUN3 := Aside0.mk HRUN2.out
              clear he4 hcut HRUN2 HG4
              have hj := HJ.out
              have hwj : IntKind.i64.wrap ((j : Int) + 1) = (j : Int) + 1 := IntWalk.i64_in _ (by omega)
              have c4 := HG5.out.ix.c4
              go_upto_region 15 with (fail)
              go_cut [61] from 53 to 61 (fun v w => v = .bool (decide (4 ≤ j ∧ er4 = 0)) ∧ w = wc)
              case first =>
                by_cases h4 : 4 ≤ j
                · have b1 : decide ((4 : Int) ≤ (j : Int)) = true := decide_eq_true (by omega)
                  have b2 : decide (4 ≤ j) = true := decide_eq_true h4
                  by_cases h0 : er4 = 0
                  · subst h0
                    have HC := Aside0.mk (show decide (4 ≤ j ∧ (0 : Int) = 0) = true from decide_eq_true ⟨h4, rfl⟩)
                    clear h4
                    go_wp2_with fail
                    go_meet
                    case rel => exact ⟨by rw [HC.out], rfl⟩
                  · have b3 : (er4 == 0) = false := by rw [beq_eq_false_iff_ne]; exact h0
                    have b4 : decide (er4 = 0) = false := decide_eq_false h0
                    have HC := Aside0.mk (show decide (4 ≤ j ∧ er4 = 0) = false from decide_eq_false (fun h => h0 h.2))
                    clear h4 h0
                    go_wp2_with fail
                    go_meet
                    case rel => exact ⟨by rw [HC.out], rfl⟩
                · have b1 : decide ((4 : Int) ≤ (j : Int)) = false := decide_eq_false (by omega)
                  have b2 : decide (4 ≤ j) = false := decide_eq_false h4
                  have HC := Aside0.mk (show decide (4 ≤ j ∧ er4 = 0) = false from decide_eq_false (fun h => h4 h.1))
                  clear h4
                  go_wp2_with fail
                  go_meet
                  case rel => exact ⟨by rw [HC.out], rfl⟩
              case rest =>
                obtain ⟨rfl, rfl⟩ := hcut
                go_upto_if 61 with (fail)
                go_cut [9, 10] from 53 to 75 (fun v9 v10 w => ∃ far : Nat, v9 = .int .i64 far ∧ Aside0 (bE s a2 er4 (distB j).2 = 0 → far = (distB j).1 + bV s a2 er4 (distB j).2) ∧ 1 ≤ far ∧ far ≤ 40000 ∧ Aside0 (QG W w B r (.slice oA out.length oc) s most (bA s a2 er4 (distB j).2) (.slice oA out.length oc) out (bE s a2 er4 (distB j).2)))
                case first =>
                  by_cases hc : 4 ≤ j ∧ er4 = 0
                  · have HC : decide (4 ≤ j ∧ er4 = 0) = true := decide_eq_true hc
                    obtain ⟨h4, h0⟩ := hc
                    subst h0
                    have hj30 := HER.out rfl
                    obtain ⟨de, hde⟩ : ∃ z, (distB j).2 = z := ⟨_, rfl⟩
                    obtain ⟨db, hdb⟩ : ∃ z, (distB j).1 = z := ⟨_, rfl⟩
                    have hdl := distB_le j hj30
                    have hdm : de + 1 = j / 2 ∧ db = 1 + (2 + j % 2) * 2 ^ de := by
                      obtain ⟨p, rfl⟩ : ∃ p, j = 4 + p := ⟨j - 4, by omega⟩
                      have := distB_mid p (by omega)
                      rw [hde, hdb] at this
                      exact this
                    rw [hde, hdb] at hdl
                    have t1 : Int.tdiv (j : Int) 2 = ((de + 1 : Nat) : Int) := by rw [hdm.1]; rfl
                    have t2 : IntKind.i64.wrap (((de + 1 : Nat) : Int) - 1) = (de : Int) := by rw [IntWalk.i64_in _ (by omega)]; omega
                    have t2' : IntKind.i64.wrap ((de : Int) + 1 - 1) = (de : Int) := by rw [IntWalk.i64_in _ (by omega)]; omega
                    obtain ⟨m2', hm2⟩ : ∃ m : Nat, Int.tmod (j : Int) 2 = (m : Int) ∧ m < 2 ∧ db = 1 + (2 + m) * 2 ^ de := ⟨j % 2, rfl, Nat.mod_lt _ (by decide), hdm.2⟩
                    have hm22 := hm2.1
                    have hde13 := hdl.2.2
                    have HGd := Aside0.mk (HG5.out.below (below_drew (Below.refl _ _)))
                    have HBT := Aside0.mk (bitsQ_any HGd.out.ix de (by omega))
                    obtain ⟨y, hy⟩ : ∃ z, bV s a2 0 de = z := ⟨_, rfl⟩
                    have hy2 : y < 8192 := by
                      rw [← hy]
                      exact Nat.lt_of_lt_of_le (bV_lt s a2 0 de) (Nat.le_trans (Nat.pow_le_pow_right (by decide) hde13) (by decide))
                    have HDD := Aside0.mk (And.intro hde (And.intro hdb hy))
                    rw [hy] at HBT
                    obtain ⟨z, hz1, hz2, hz3⟩ := two_pow de (2 + m2') (by omega) (by omega)
                    have hval : IntKind.i64.wrap (IntKind.i64.wrap (1 + IntKind.i64.wrap (IntKind.i64.wrap (2 + (m2' : Int)) * 2 ^ de)) + (y : Int)) = ((db + y : Nat) : Int) := by
                      rw [IntWalk.i64_in (2 + (m2' : Int)) (by omega), show (2 : Int) + (m2' : Int) = ((2 + m2' : Nat) : Int) by omega, hz3, IntWalk.i64_in (1 + (z : Int)) (by omega), IntWalk.i64_in _ (by omega)]
                      have := hm2.2.2
                      omega
                    have HF : Aside0 (1 ≤ db + y ∧ db + y ≤ 40000) := ⟨by omega⟩
                    have HV := Aside0.mk hval
                    clear hval hdm hdl hy hy2 hz1 hz2 hz3 hm2 h4 hj30
                    (try rw [HC])
                    go_upto_region 17 with (fail)
                    go_region_held3 (fun _ => True) (trivial) ((first | (go_at_call 24; refine HBT.out.mono ?_; rintro e w5 ⟨rfl, hx5, hf5⟩)))
                    have HG6 := Aside0.mk (HGd.out.used hx5 (QS_of_r hf5) (AtB.refl _ _))
                    clear hx5 hf5 HBT
                    go_wp2_with fail
                    go_meet
                    case rel => exact ⟨db + y, by rw [HV.out], ⟨fun _ => by rw [HDD.out.1, HDD.out.2.1, HDD.out.2.2]⟩, HF.out.1, HF.out.2, by rw [HDD.out.1]; exact HG6⟩
                  · have HC : decide (4 ≤ j ∧ er4 = 0) = false := decide_eq_false hc
                    have HV : Aside0 ((bE s a2 er4 (distB j).2 = 0 → j + 1 = (distB j).1 + bV s a2 er4 (distB j).2) ∧ bA s a2 er4 (distB j).2 = a2 ∧ bE s a2 er4 (distB j).2 = er4) := ⟨by
                      by_cases h0 : er4 = 0
                      · subst h0
                        have hj4 : j < 4 := by
                          by_cases h4 : 4 ≤ j
                          · exact absurd ⟨h4, rfl⟩ hc
                          · omega
                        have hd : distB j = (1 + j, 0) := by unfold distB; rw [if_pos hj4]
                        rw [hd]
                        have hz : bV s a2 0 0 = 0 := by have := bV_lt s a2 0 0; omega
                        refine ⟨fun _ => by show j + 1 = 1 + j + bV s a2 0 0; omega, ?_, ?_⟩
                        · show bA s a2 0 0 = a2
                          unfold bA
                          split <;> rfl
                        · show bE s a2 0 0 = 0
                          unfold bE
                          rw [if_pos rfl]
                          exact if_pos HA2.out
                      · have hE : bE s a2 er4 (distB j).2 = er4 := by unfold bE; rw [if_neg h0]
                        refine ⟨fun h => absurd (hE.symm.trans h) h0, ?_, hE⟩
                        unfold bA
                        rw [if_neg (fun h => h0 h.1)]⟩
                    (try rw [HC])
                    clear hc
                    go_wp2_with fail
                    go_meet
                    case rel => exact ⟨j + 1, by rw [Int.natCast_add]; rfl, ⟨HV.out.1⟩, by omega, by have := HJ.out; omega, by rw [HV.out.2.1, HV.out.2.2]; exact HG5⟩
                case rest =>
                  obtain ⟨far, rfl, HFAR, hf1, hf2, HG6⟩ := hcut
                  have HFB := Aside0.mk (And.intro hf1 hf2)
                  have hrun := HRUN3.out
                  unfold copG at hrun
                  rw [runS_bits _ _ _ _ _ HA2.out] at hrun
                  obtain ⟨a3, ha3⟩ : ∃ z, bA s a2 er4 (distB j).2 = z := ⟨_, rfl⟩
                  obtain ⟨er5, he5⟩ : ∃ z, bE s a2 er4 (distB j).2 = z := ⟨_, rfl⟩
                  rw [ha3, he5] at HG6 hrun
                  rw [he5] at HFAR
                  have hrun2 : (copiesT most out k (tableO dl)).run s a = runS er5 (if out.length < far then err 40 else if most < out.length + n then err 4 else ret (copyN far n out)) s a3 := by
                    rw [hrun]
                    by_cases h0 : er5 = 0
                    · rw [HFAR.out h0]
                    · rw [runS_no h0, runS_no h0]
                  rw [last_run] at hrun2
                  have HRUN4 := Aside0.mk hrun2
                  clear hrun hrun2 ha3 he5 HRUN3 HG5 HFAR c4 hwj hj HER
                  have c3 := HG6.out.ix.c3
                  have c4 := HG6.out.ix.c4
                  have hol : (out.length : Int) ≤ 1048576 := by have := HG6.out.ix.ol; have := HG6.out.ix.ml; omega
                  go_upto_region 18 with (fail)
                  go_cut [88] from 75 to 88 (fun v w => v = .bool (decide (er5 = 0 ∧ out.length < far)) ∧ w = wc)
                  case first =>
                    by_cases h0 : er5 = 0
                    · subst h0
                      by_cases hlf : out.length < far
                      · have b1 : decide ((out.length : Int) < (far : Int)) = true := decide_eq_true (by omega)
                        have b2 : decide (out.length < far) = true := decide_eq_true hlf
                        have HC := Aside0.mk (show decide ((0 : Int) = 0 ∧ out.length < far) = true from decide_eq_true ⟨rfl, hlf⟩)
                        clear hlf hf1 hf2
                        go_wp2_with fail
                        go_meet
                        case rel => exact ⟨by rw [HC.out], rfl⟩
                      · have b1 : decide ((out.length : Int) < (far : Int)) = false := decide_eq_false (by omega)
                        have b2 : decide (out.length < far) = false := decide_eq_false hlf
                        have HC := Aside0.mk (show decide ((0 : Int) = 0 ∧ out.length < far) = false from decide_eq_false (fun h => hlf h.2))
                        clear hlf hf1 hf2
                        go_wp2_with fail
                        go_meet
                        case rel => exact ⟨by rw [HC.out], rfl⟩
                    · have b3 : (er5 == 0) = false := by rw [beq_eq_false_iff_ne]; exact h0
                      have b4 : decide (er5 = 0) = false := decide_eq_false h0
                      have HC := Aside0.mk (show decide (er5 = 0 ∧ out.length < far) = false from decide_eq_false (fun h => h0 h.1))
                      clear h0 hf1 hf2
                      go_wp2_with fail
                      go_meet
                      case rel => exact ⟨by rw [HC.out], rfl⟩
                  case rest =>
                    obtain ⟨rfl, rfl⟩ := hcut
                    go_upto_if 88 with (fail)
                    go_cut [] from 75 to 92 (fun w => Aside0 (QG W w B r (.slice oA out.length oc) s most a3 (.slice oA out.length oc) out (if er5 = 0 ∧ out.length < far then 40 else er5)))
                    case first =>
                      by_cases hc : er5 = 0 ∧ out.length < far
                      · have HC : decide (er5 = 0 ∧ out.length < far) = true := decide_eq_true hc
                        have HE := Aside0.mk hc
                        have f4 := HG6.out.ix.fz 4
                        (try rw [HC])
                        clear hc hf1 hf2
                        go_wp2_with fail
                        go_meet
                        case rel => rw [if_pos HE.out]; exact ⟨HG6.out.setE 40⟩
                      · have HC : decide (er5 = 0 ∧ out.length < far) = false := decide_eq_false hc
                        have HE := Aside0.mk hc
                        (try rw [HC])
                        clear hc hf1 hf2
                        go_wp2_with fail
                        go_meet
                        case rel => rw [if_neg HE.out]; exact HG6
                    case rest =>
                      have HG7 := hcut
                      have HE6 : Aside0 ((if er5 = 0 ∧ out.length < far then 40 else er5) = 0 → far ≤ out.length) := ⟨by
                        intro h
                        by_cases hh : er5 = 0 ∧ out.length < far
                        · rw [if_pos hh] at h
                          exact absurd h (by decide)
                        · rw [if_neg hh] at h
                          by_cases h3 : out.length < far
                          · exact absurd ⟨h, h3⟩ hh
                          · omega⟩
                      obtain ⟨er6, he6⟩ : ∃ z, (if er5 = 0 ∧ out.length < far then 40 else er5) = z := ⟨_, rfl⟩
                      rw [he6] at HG7 HRUN4 HE6
                      clear hcut he6 HG6 c3 c4
                      have c2 := HG7.out.ix.c2
                      have c3 := HG7.out.ix.c3
                      have c4 := HG7.out.ix.c4
                      have hnn := HNB.out
                      have hw7 : IntKind.i64.wrap ((out.length : Int) + (n : Int)) = (out.length : Int) + (n : Int) := IntWalk.i64_in _ (by omega)
                      go_upto_region 20 with (fail)
                      go_cut [110] from 92 to 110 (fun v w => v = .bool (decide (er6 = 0 ∧ most < out.length + n)) ∧ ∃ kd, w = wc.drewN kd)
                      case first =>
                        by_cases h0 : er6 = 0
                        · subst h0
                          by_cases hmo : most < out.length + n
                          · have hd : decide ((most : Int) < (out.length : Int) + (n : Int)) = true := decide_eq_true (by omega)
                            have hd2 : (most : Int) < (out.length : Int) + (n : Int) := by omega
                            have HC := Aside0.mk (show decide ((0 : Int) = 0 ∧ most < out.length + n) = true from decide_eq_true ⟨rfl, hmo⟩)
                            clear hmo hnn hf1 hf2
                            go_quiet (fail)
                            go_wp2_with fail
                            go_meet
                            case rel => exact ⟨by rw [HC.out], nq, rfl⟩
                          · have hd : decide ((most : Int) < (out.length : Int) + (n : Int)) = false := decide_eq_false (by omega)
                            have hd2 : ¬ (most : Int) < (out.length : Int) + (n : Int) := by omega
                            have HC := Aside0.mk (show decide ((0 : Int) = 0 ∧ most < out.length + n) = false from decide_eq_false (fun h => hmo h.2))
                            clear hmo hnn hf1 hf2
                            go_quiet (fail)
                            go_wp2_with fail
                            go_meet
                            case rel => exact ⟨by rw [HC.out], nq, rfl⟩
                        · have b3 : (er6 == 0) = false := by rw [beq_eq_false_iff_ne]; exact h0
                          have b4 : decide (er6 = 0) = false := decide_eq_false h0
                          have HC := Aside0.mk (show decide (er6 = 0 ∧ most < out.length + n) = false from decide_eq_false (fun h => h0 h.1))
                          clear h0 hnn hf1 hf2
                          go_quiet (fail)
                          go_wp2_with fail
                          go_meet
                          case rel => exact ⟨by rw [HC.out], nq, rfl⟩
                      case rest =>
                        obtain ⟨rfl, kd, rfl⟩ := hcut
                        replace HG7 := Aside0.mk (HG7.out.below (pw_below_drewN (Below.refl _ _) kd))
                        clear c2 c3 c4
                        go_upto_if 110 with (fail)
                        go_cut [] from 92 to 114 (fun w => Aside0 (QG W w B r (.slice oA out.length oc) s most a3 (.slice oA out.length oc) out (if er6 = 0 ∧ most < out.length + n then 4 else er6)))
                        case first =>
                          by_cases hc : er6 = 0 ∧ most < out.length + n
                          · have HC : decide (er6 = 0 ∧ most < out.length + n) = true := decide_eq_true hc
                            have HE := Aside0.mk hc
                            have f4 := HG7.out.ix.fz 4
                            have c4 := HG7.out.ix.c4
                            (try rw [HC])
                            clear hc hf1 hf2 hnn
                            go_wp2_with fail
                            go_meet
                            case rel => rw [if_pos HE.out]; exact ⟨HG7.out.setE 4⟩
                          · have HC : decide (er6 = 0 ∧ most < out.length + n) = false := decide_eq_false hc
                            have HE := Aside0.mk hc
                            (try rw [HC])
                            clear hc hf1 hf2 hnn
                            go_wp2_with fail
                            go_meet
                            case rel => rw [if_neg HE.out]; exact HG7
                        case rest =>
                          have HG8 := hcut
                          have HE7 : Aside0 ((if er6 = 0 ∧ most < out.length + n then 4 else er6) = 0 → far ≤ out.length ∧ out.length + n ≤ most) := ⟨by
                            intro h
                            by_cases hh : er6 = 0 ∧ most < out.length + n
                            · rw [if_pos hh] at h
                              exact absurd h (by decide)
                            · rw [if_neg hh] at h
                              refine ⟨HE6.out h, ?_⟩
                              by_cases h3 : most < out.length + n
                              · exact absurd ⟨h, h3⟩ hh
                              · omega⟩
                          obtain ⟨er7, he7⟩ : ∃ z, (if er6 = 0 ∧ most < out.length + n then 4 else er6) = z := ⟨_, rfl⟩
                          rw [he7] at HG8 HRUN4 HE7
                          clear hcut he7 HG7 HE6 hw7
                          go_wp2_with fail
                          go_loopw [11] (fun v11 wr => ∃ (i : Nat) (ov3 : Value), v11 = .int .i64 i ∧ i ≤ n ∧ Aside0 (QG W wr B r (.slice oA out.length oc) s most a3 ov3 (copyN far i out) er7)) (fun v11 _ => n - (intOf v11).toNat)
                          case atStart => exact ⟨0, _, rfl, Nat.zero_le _, HG8⟩
                          case round =>
                            clear HG8
                            obtain ⟨i, ov3, rfl, hi, HS⟩ := hrel
                            have c4 := HS.out.ix.c4
                            by_cases h0 : er7 = 0
                            · subst h0
                              by_cases hlt : i < n
                              · have b1 : decide (i < n) = true := decide_eq_true hlt
                                have b2 : decide ((i : Int) < (n : Int)) = true := decide_eq_true (by omega)
                                have hwi : IntKind.i64.wrap ((i : Int) + 1) = (i : Int) + 1 := IntWalk.i64_in _ (by omega)
                                have HI := Aside0.mk hlt
                                have he7 := HE7.out rfl
                                have hzl := copyN_len far i out
                                have hsu := copyN_succ far i out
                                obtain ⟨zs, hzs⟩ : ∃ z, copyN far i out = z := ⟨_, rfl⟩
                                rw [hzs] at HS hzl hsu
                                have q6 : far ≤ zs.length := by omega
                                have q1 : (0 : Int) ≤ (zs.length : Int) - (far : Int) := by omega
                                have q2 : (zs.length : Int) - (far : Int) < (zs.length : Int) := by omega
                                have q3 : ((zs.length : Int) - (far : Int)).toNat = zs.length - far := by omega
                                have q4 : IntKind.i64.wrap ((zs.length : Int) - (far : Int)) = (zs.length : Int) - (far : Int) := IntWalk.i64_in _ (by omega)
                                have HGd := Aside0.mk (HS.out.below (below_drew (Below.refl _ _)))
                                obtain ⟨gA, c1', eA⟩ := HF.R_first HS.out.ix.ro (by omega)
                                subst eA
                                obtain ⟨y0, z0⟩ := Kd.R_celln 0 HGd.out.ix.ro ((zs.length : Int) - (far : Int)) q1 q2
                                rw [q3] at y0 z0
                                have hrd : rdOf 0 zs ((zs.length : Int) - (far : Int)) = zs.getD (zs.length - far) 0 := by unfold rdOf; rw [q3]
                                rw [hrd] at y0
                                obtain ⟨u, hu⟩ : ∃ z, zs.getD (zs.length - far) 0 = z := ⟨_, rfl⟩
                                rw [hu] at y0 hsu
                                change wr.drew.cell? ⟨gA, zs.length - far, none⟩ = some (.int .u8 u) at y0
                                have HSU := Aside0.mk hsu
                                have HZL : Aside0 ((zs ++ [u]).length ≤ most ∧ zs.length + 1 ≤ 1048576) := ⟨by rw [List.length_append, List.length_singleton]; have := HS.out.ix.ml; omega⟩
                                have c3d := HGd.out.ix.c3
                                have c3a : (wr.drew.alloc (.cells #[.int .u8 u] 5)).cell? ⟨r, 3, none⟩ = some (.slice (some ⟨gA, 0, none⟩) zs.length c1') := (HGd.out.below (below_alloc (Below.refl _ _) _)).ix.c3
                                clear he7 hzl hzs hrd hu hsu hlt hi z0 hf1 hf2 hnn hol
                                go_upto_region 25 with (fail)
                                refine wp_region_any (by kernel_rfl) ?_
                                change wpAny _ _ _ _ _ _ _ (World.drew _)
                                generalize wr.drew = wd at y0 HGd c3d c3a ⊢
                                refine wpAny_take (i := 0) (v := ?vk1) rfl (by kernel_rfl) (by kernel_rfl) (by kernel_rfl) (fun _ _ _ h => h) (Or.inl ⟨by kernel_rfl, ?yk1⟩) ?_
                                case yk1 => (intro w; go_simp; try with_reducible rfl)
                                refine wpAny_take (i := 1) (v := ?vk2) rfl (by kernel_rfl) (by kernel_rfl) (by kernel_rfl) (fun _ _ _ h => h) (Or.inl ⟨by kernel_rfl, ?yk2⟩) ?_
                                case yk2 => (intro w; go_simp; try with_reducible rfl)
                                refine wpAny_take (i := 2) (v := ?vk3) rfl (by kernel_rfl) (by kernel_rfl) (by kernel_rfl) (fun _ _ _ h => h) (Or.inl ⟨by kernel_rfl, ?yk3⟩) ?_
                                case yk3 => (intro w; go_simp; try with_reducible rfl)
                                refine wpAny_take (i := 3) (v := ?vk4) rfl (by kernel_rfl) (by kernel_rfl) (by kernel_rfl) (fun _ _ _ h => h) (Or.inl ⟨by kernel_rfl, ?yk4⟩) ?_
                                case yk4 => (intro w; go_simp; try with_reducible rfl)
                                refine wpAny_take (i := 5) (v := ?vk5) rfl (by kernel_rfl) (by kernel_rfl) (by kernel_rfl) (fun _ _ _ h => h) (Or.inl ⟨by kernel_rfl, ?yk5⟩) ?_
                                case yk5 => (intro w; go_simp; try with_reducible rfl)
                                refine wpAny_take (i := 6) (v := ?vk6) rfl (by kernel_rfl) (by kernel_rfl) (by kernel_rfl) (fun _ _ _ h => h) (Or.inl ⟨by kernel_rfl, ?yk6⟩) ?_
                                case yk6 => (intro w; go_simp; try with_reducible rfl)
                                refine wpAny_take (i := 7) (v := ?vk7) rfl (by kernel_rfl) (by kernel_rfl) (by kernel_rfl) (fun _ _ _ h => h) (Or.inl ⟨by kernel_rfl, ?yk7⟩) ?_
                                case yk7 => (intro w; go_simp; try with_reducible rfl)
                                refine wpAny_take (i := 9) (v := ?vk8) rfl (by kernel_rfl) (by kernel_rfl) (by kernel_rfl) (fun _ _ _ h => h) (Or.inl ⟨by kernel_rfl, ?yk8⟩) ?_
                                case yk8 => (intro w; go_simp; try with_reducible rfl)
                                refine wpAny_take (i := 10) (v := ?vk9) rfl (by kernel_rfl) (by kernel_rfl) (by kernel_rfl) (fun _ _ _ h => h) (Or.inl ⟨by kernel_rfl, ?yk9⟩) ?_
                                case yk9 => (intro w; go_simp; try with_reducible rfl)
                                refine wpAny_take (i := 11) (v := ?vk10) rfl (by kernel_rfl) (by kernel_rfl) (by kernel_rfl) (fun _ _ _ h => h) (Or.inl ⟨by kernel_rfl, ?yk10⟩) ?_
                                case yk10 => (intro w; go_simp; try with_reducible rfl)
                                refine wpAny_take (i := 14) (v := ?vk11) rfl (by kernel_rfl) (by kernel_rfl) (by kernel_rfl) (fun _ _ _ h => h) (Or.inl ⟨by kernel_rfl, ?yk11⟩) ?_
                                case yk11 => (intro w; go_simp; try with_reducible rfl)
                                refine wpAny_ready (rs := [4, 8, 12]) (by kernel_rfl) (by simp) ?_
                                refine (AllReady.cons rfl (fun K hK => ?_) (AllReady.cons rfl (fun K hK => ?_) (AllReady.cons rfl (fun K hK => ?_) AllReady.nil)))
                                · skip
                                  go_simp
                                  refine hK _ _ ?_
                                  clear hK K
                                  refine wpAny_ready (rs := [8, 12]) (by kernel_rfl) (by simp) ?_
                                  refine (AllReady.cons rfl (fun K hK => ?_) (AllReady.cons rfl (fun K hK => ?_) AllReady.nil))
                                  · skip
                                    go_simp
                                    refine hK _ _ ?_
                                    clear hK K
                                    refine wpAny_ready (rs := [12]) (by kernel_rfl) (by simp) ?_
                                    refine (AllReady.cons rfl (fun K hK => ?_) AllReady.nil)
                                    go_simp
                                    refine hK _ _ ?_
                                    clear hK K
                                    refine wpAny_take (i := 13) (v := ?vk12) rfl (by kernel_rfl) (by kernel_rfl) (by kernel_rfl) (fun _ _ _ h => h) (Or.inl ⟨by kernel_rfl, ?yk12⟩) ?_
                                    case yk12 => (intro w; go_simp; try with_reducible rfl)
                                    refine wpAny_take (i := 15) (v := ?vk13) rfl (by kernel_rfl) (by kernel_rfl) (by kernel_rfl) (fun _ _ _ h => h) (Or.inl ⟨by kernel_rfl, ?yk13⟩) ?_
                                    case yk13 => (intro w; go_simp; try with_reducible rfl)
                                    refine wpAny_take (i := 16) (v := ?vk14) rfl (by kernel_rfl) (by kernel_rfl) (by kernel_rfl) (fun _ _ _ h => h) (Or.inl ⟨by kernel_rfl, ?yk14⟩) ?_
                                    case yk14 => (intro w; go_simp; try with_reducible rfl)
                                    refine wpAny_ready (rs := [17]) (by kernel_rfl) (by simp) ?_
                                    refine (AllReady.cons rfl (fun K hK => ?_) AllReady.nil)
                                    go_simp
                                    refine hK _ _ ?_
                                    clear hK K
                                    refine wpAny_ready (rs := [18]) (by kernel_rfl) (by simp) ?_
                                    refine (AllReady.cons rfl (fun K hK => ?_) AllReady.nil)
                                    go_simp
                                    refine hK _ _ ?_
                                    clear hK K
                                    refine wpAny_ready (rs := [19]) (by kernel_rfl) (by simp) ?_
                                    refine (AllReady.cons rfl (fun K hK => ?_) AllReady.nil)
                                    refine Kd.R_append_step (Kd.int .u8) (w0 := wd) (W := wd) B (by kernel_rfl) (.tmp 130) (.tmp 144) 28 5 (.int .u8 0) 1 (by rfl) Try.underlying28 info5 (by decide) (by decide) (by decide) (.slice (some ⟨gA, 0, none⟩) zs.length c1') zs u [.int .u8 u] (fun _ => True) (fun _ => False) (by rfl) (by rfl) rfl (fun _ hk => hk.elim) (fun _ _ => trivial) HGd.out.ix.ro (Below.refl _ _) HGd.out.ix.base (by have := HZL.out; omega) ?_
                                    intro v1 w8 ho hb hg hat
                                    have cw8 := (hg.block r HGd.out.ix.lt (fun e => HGd.out.ix.ne e.symm)).trans HGd.out.ix.bx
                                    have c38 := (blk_cell cw8 3).trans (rfl : _ = some (Value.slice (some ⟨gA, 0, none⟩) zs.length c1'))
                                    have f38 := blk_frozen cw8 3
                                    have HGR := Aside0.mk (HGd.out.grow ho hg hat HZL.out.1)
                                    obtain ⟨A9, c9, e9⟩ := Kd.R_slice ho
                                    subst e9
                                    rw [List.length_append, List.length_singleton] at HGR
                                    clear ho hb hg hat cw8
                                    refine hK _ _ ?_
                                    clear hK K
                                    refine wpAny_take (i := 20) (v := ?vk15) rfl (by kernel_rfl) (by kernel_rfl) (by kernel_rfl) (fun _ _ _ h => h) (Or.inl ⟨by kernel_rfl, ?yk15⟩) ?_
                                    case yk15 => (intro w; go_simp; try with_reducible rfl)
                                    refine wpAny_take (i := 21) (v := ?vk16) rfl (by kernel_rfl) (by kernel_rfl) (by kernel_rfl) (fun _ _ _ h => h) (Or.inl ⟨by kernel_rfl, ?yk16⟩) ?_
                                    case yk16 => (intro w; go_simp; try with_reducible rfl)
                                    refine wpAny_ready (rs := [22]) (by kernel_rfl) (by simp) ?_
                                    refine (AllReady.cons rfl (fun K hK => ?_) AllReady.nil)
                                    go_simp
                                    refine hK _ _ ?_
                                    clear hK K
                                    refine wpAny_done (by kernel_rfl) ?_ _
                                    go_wp2_with fail
                                    go_roundw
                                    case rel => exact ⟨i + 1, _, by simp, HI.out, by rw [HSU.out]; exact HGR⟩
                                    case measure => simp [intOf]; have := HI.out; omega
                                  · skip
                                    go_simp
                                    refine hK _ _ ?_
                                    clear hK K
                                    refine wpAny_take (i := 13) (v := ?vk17) rfl (by kernel_rfl) (by kernel_rfl) (by kernel_rfl) (fun _ _ _ h => h) (Or.inl ⟨by kernel_rfl, ?yk17⟩) ?_
                                    case yk17 => (intro w; go_simp; try with_reducible rfl)
                                    refine wpAny_take (i := 15) (v := ?vk18) rfl (by kernel_rfl) (by kernel_rfl) (by kernel_rfl) (fun _ _ _ h => h) (Or.inl ⟨by kernel_rfl, ?yk18⟩) ?_
                                    case yk18 => (intro w; go_simp; try with_reducible rfl)
                                    refine wpAny_ready (rs := [8]) (by kernel_rfl) (by simp) ?_
                                    refine (AllReady.cons rfl (fun K hK => ?_) AllReady.nil)
                                    go_simp
                                    refine hK _ _ ?_
                                    clear hK K
                                    refine wpAny_take (i := 16) (v := ?vk19) rfl (by kernel_rfl) (by kernel_rfl) (by kernel_rfl) (fun _ _ _ h => h) (Or.inl ⟨by kernel_rfl, ?yk19⟩) ?_
                                    case yk19 => (intro w; go_simp; try with_reducible rfl)
                                    refine wpAny_ready (rs := [17]) (by kernel_rfl) (by simp) ?_
                                    refine (AllReady.cons rfl (fun K hK => ?_) AllReady.nil)
                                    go_simp
                                    refine hK _ _ ?_
                                    clear hK K
                                    refine wpAny_ready (rs := [18]) (by kernel_rfl) (by simp) ?_
                                    refine (AllReady.cons rfl (fun K hK => ?_) AllReady.nil)
                                    go_simp
                                    refine hK _ _ ?_
                                    clear hK K
                                    refine wpAny_ready (rs := [19]) (by kernel_rfl) (by simp) ?_
                                    refine (AllReady.cons rfl (fun K hK => ?_) AllReady.nil)
                                    refine Kd.R_append_step (Kd.int .u8) (w0 := wd) (W := wd) B (by kernel_rfl) (.tmp 130) (.tmp 144) 28 5 (.int .u8 0) 1 (by rfl) Try.underlying28 info5 (by decide) (by decide) (by decide) (.slice (some ⟨gA, 0, none⟩) zs.length c1') zs u [.int .u8 u] (fun _ => True) (fun _ => False) (by rfl) (by rfl) rfl (fun _ hk => hk.elim) (fun _ _ => trivial) HGd.out.ix.ro (Below.refl _ _) HGd.out.ix.base (by have := HZL.out; omega) ?_
                                    intro v1 w8 ho hb hg hat
                                    have cw8 := (hg.block r HGd.out.ix.lt (fun e => HGd.out.ix.ne e.symm)).trans HGd.out.ix.bx
                                    have c38 := (blk_cell cw8 3).trans (rfl : _ = some (Value.slice (some ⟨gA, 0, none⟩) zs.length c1'))
                                    have f38 := blk_frozen cw8 3
                                    have HGR := Aside0.mk (HGd.out.grow ho hg hat HZL.out.1)
                                    obtain ⟨A9, c9, e9⟩ := Kd.R_slice ho
                                    subst e9
                                    rw [List.length_append, List.length_singleton] at HGR
                                    clear ho hb hg hat cw8
                                    refine hK _ _ ?_
                                    clear hK K
                                    refine wpAny_take (i := 20) (v := ?vk20) rfl (by kernel_rfl) (by kernel_rfl) (by kernel_rfl) (fun _ _ _ h => h) (Or.inl ⟨by kernel_rfl, ?yk20⟩) ?_
                                    case yk20 => (intro w; go_simp; try with_reducible rfl)
                                    refine wpAny_take (i := 21) (v := ?vk21) rfl (by kernel_rfl) (by kernel_rfl) (by kernel_rfl) (fun _ _ _ h => h) (Or.inl ⟨by kernel_rfl, ?yk21⟩) ?_
                                    case yk21 => (intro w; go_simp; try with_reducible rfl)
                                    refine wpAny_ready (rs := [22]) (by kernel_rfl) (by simp) ?_
                                    refine (AllReady.cons rfl (fun K hK => ?_) AllReady.nil)
                                    go_simp
                                    refine hK _ _ ?_
                                    clear hK K
                                    refine wpAny_done (by kernel_rfl) ?_ _
                                    go_wp2_with fail
                                    go_roundw
                                    case rel => exact ⟨i + 1, _, by simp, HI.out, by rw [HSU.out]; exact HGR⟩
                                    case measure => simp [intOf]; have := HI.out; omega
                                · skip
                                  go_simp
                                  refine hK _ _ ?_
                                  clear hK K
                                  refine wpAny_ready (rs := [4, 12]) (by kernel_rfl) (by simp) ?_
                                  refine (AllReady.cons rfl (fun K hK => ?_) (AllReady.cons rfl (fun K hK => ?_) AllReady.nil))
                                  · skip
                                    go_simp
                                    refine hK _ _ ?_
                                    clear hK K
                                    refine wpAny_ready (rs := [12]) (by kernel_rfl) (by simp) ?_
                                    refine (AllReady.cons rfl (fun K hK => ?_) AllReady.nil)
                                    go_simp
                                    refine hK _ _ ?_
                                    clear hK K
                                    refine wpAny_take (i := 13) (v := ?vk22) rfl (by kernel_rfl) (by kernel_rfl) (by kernel_rfl) (fun _ _ _ h => h) (Or.inl ⟨by kernel_rfl, ?yk22⟩) ?_
                                    case yk22 => (intro w; go_simp; try with_reducible rfl)
                                    refine wpAny_take (i := 15) (v := ?vk23) rfl (by kernel_rfl) (by kernel_rfl) (by kernel_rfl) (fun _ _ _ h => h) (Or.inl ⟨by kernel_rfl, ?yk23⟩) ?_
                                    case yk23 => (intro w; go_simp; try with_reducible rfl)
                                    refine wpAny_take (i := 16) (v := ?vk24) rfl (by kernel_rfl) (by kernel_rfl) (by kernel_rfl) (fun _ _ _ h => h) (Or.inl ⟨by kernel_rfl, ?yk24⟩) ?_
                                    case yk24 => (intro w; go_simp; try with_reducible rfl)
                                    refine wpAny_ready (rs := [17]) (by kernel_rfl) (by simp) ?_
                                    refine (AllReady.cons rfl (fun K hK => ?_) AllReady.nil)
                                    go_simp
                                    refine hK _ _ ?_
                                    clear hK K
                                    refine wpAny_ready (rs := [18]) (by kernel_rfl) (by simp) ?_
                                    refine (AllReady.cons rfl (fun K hK => ?_) AllReady.nil)
                                    go_simp
                                    refine hK _ _ ?_
                                    clear hK K
                                    refine wpAny_ready (rs := [19]) (by kernel_rfl) (by simp) ?_
                                    refine (AllReady.cons rfl (fun K hK => ?_) AllReady.nil)
                                    refine Kd.R_append_step (Kd.int .u8) (w0 := wd) (W := wd) B (by kernel_rfl) (.tmp 130) (.tmp 144) 28 5 (.int .u8 0) 1 (by rfl) Try.underlying28 info5 (by decide) (by decide) (by decide) (.slice (some ⟨gA, 0, none⟩) zs.length c1') zs u [.int .u8 u] (fun _ => True) (fun _ => False) (by rfl) (by rfl) rfl (fun _ hk => hk.elim) (fun _ _ => trivial) HGd.out.ix.ro (Below.refl _ _) HGd.out.ix.base (by have := HZL.out; omega) ?_
                                    intro v1 w8 ho hb hg hat
                                    have cw8 := (hg.block r HGd.out.ix.lt (fun e => HGd.out.ix.ne e.symm)).trans HGd.out.ix.bx
                                    have c38 := (blk_cell cw8 3).trans (rfl : _ = some (Value.slice (some ⟨gA, 0, none⟩) zs.length c1'))
                                    have f38 := blk_frozen cw8 3
                                    have HGR := Aside0.mk (HGd.out.grow ho hg hat HZL.out.1)
                                    obtain ⟨A9, c9, e9⟩ := Kd.R_slice ho
                                    subst e9
                                    rw [List.length_append, List.length_singleton] at HGR
                                    clear ho hb hg hat cw8
                                    refine hK _ _ ?_
                                    clear hK K
                                    refine wpAny_take (i := 20) (v := ?vk25) rfl (by kernel_rfl) (by kernel_rfl) (by kernel_rfl) (fun _ _ _ h => h) (Or.inl ⟨by kernel_rfl, ?yk25⟩) ?_
                                    case yk25 => (intro w; go_simp; try with_reducible rfl)
                                    refine wpAny_take (i := 21) (v := ?vk26) rfl (by kernel_rfl) (by kernel_rfl) (by kernel_rfl) (fun _ _ _ h => h) (Or.inl ⟨by kernel_rfl, ?yk26⟩) ?_
                                    case yk26 => (intro w; go_simp; try with_reducible rfl)
                                    refine wpAny_ready (rs := [22]) (by kernel_rfl) (by simp) ?_
                                    refine (AllReady.cons rfl (fun K hK => ?_) AllReady.nil)
                                    go_simp
                                    refine hK _ _ ?_
                                    clear hK K
                                    refine wpAny_done (by kernel_rfl) ?_ _
                                    go_wp2_with fail
                                    go_roundw
                                    case rel => exact ⟨i + 1, _, by simp, HI.out, by rw [HSU.out]; exact HGR⟩
                                    case measure => simp [intOf]; have := HI.out; omega
                                  · skip
                                    go_simp
                                    refine hK _ _ ?_
                                    clear hK K
                                    refine wpAny_take (i := 13) (v := ?vk27) rfl (by kernel_rfl) (by kernel_rfl) (by kernel_rfl) (fun _ _ _ h => h) (Or.inl ⟨by kernel_rfl, ?yk27⟩) ?_
                                    case yk27 => (intro w; go_simp; try with_reducible rfl)
                                    refine wpAny_take (i := 15) (v := ?vk28) rfl (by kernel_rfl) (by kernel_rfl) (by kernel_rfl) (fun _ _ _ h => h) (Or.inl ⟨by kernel_rfl, ?yk28⟩) ?_
                                    case yk28 => (intro w; go_simp; try with_reducible rfl)
                                    refine wpAny_take (i := 16) (v := ?vk29) rfl (by kernel_rfl) (by kernel_rfl) (by kernel_rfl) (fun _ _ _ h => h) (Or.inl ⟨by kernel_rfl, ?yk29⟩) ?_
                                    case yk29 => (intro w; go_simp; try with_reducible rfl)
                                    refine wpAny_ready (rs := [4, 17]) (by kernel_rfl) (by simp) ?_
                                    refine (AllReady.cons rfl (fun K hK => ?_) (AllReady.cons rfl (fun K hK => ?_) AllReady.nil))
                                    · skip
                                      go_simp
                                      refine hK _ _ ?_
                                      clear hK K
                                      refine wpAny_ready (rs := [17]) (by kernel_rfl) (by simp) ?_
                                      refine (AllReady.cons rfl (fun K hK => ?_) AllReady.nil)
                                      go_simp
                                      refine hK _ _ ?_
                                      clear hK K
                                      refine wpAny_ready (rs := [18]) (by kernel_rfl) (by simp) ?_
                                      refine (AllReady.cons rfl (fun K hK => ?_) AllReady.nil)
                                      go_simp
                                      refine hK _ _ ?_
                                      clear hK K
                                      refine wpAny_ready (rs := [19]) (by kernel_rfl) (by simp) ?_
                                      refine (AllReady.cons rfl (fun K hK => ?_) AllReady.nil)
                                      refine Kd.R_append_step (Kd.int .u8) (w0 := wd) (W := wd) B (by kernel_rfl) (.tmp 130) (.tmp 144) 28 5 (.int .u8 0) 1 (by rfl) Try.underlying28 info5 (by decide) (by decide) (by decide) (.slice (some ⟨gA, 0, none⟩) zs.length c1') zs u [.int .u8 u] (fun _ => True) (fun _ => False) (by rfl) (by rfl) rfl (fun _ hk => hk.elim) (fun _ _ => trivial) HGd.out.ix.ro (Below.refl _ _) HGd.out.ix.base (by have := HZL.out; omega) ?_
                                      intro v1 w8 ho hb hg hat
                                      have cw8 := (hg.block r HGd.out.ix.lt (fun e => HGd.out.ix.ne e.symm)).trans HGd.out.ix.bx
                                      have c38 := (blk_cell cw8 3).trans (rfl : _ = some (Value.slice (some ⟨gA, 0, none⟩) zs.length c1'))
                                      have f38 := blk_frozen cw8 3
                                      have HGR := Aside0.mk (HGd.out.grow ho hg hat HZL.out.1)
                                      obtain ⟨A9, c9, e9⟩ := Kd.R_slice ho
                                      subst e9
                                      rw [List.length_append, List.length_singleton] at HGR
                                      clear ho hb hg hat cw8
                                      refine hK _ _ ?_
                                      clear hK K
                                      refine wpAny_take (i := 20) (v := ?vk30) rfl (by kernel_rfl) (by kernel_rfl) (by kernel_rfl) (fun _ _ _ h => h) (Or.inl ⟨by kernel_rfl, ?yk30⟩) ?_
                                      case yk30 => (intro w; go_simp; try with_reducible rfl)
                                      refine wpAny_take (i := 21) (v := ?vk31) rfl (by kernel_rfl) (by kernel_rfl) (by kernel_rfl) (fun _ _ _ h => h) (Or.inl ⟨by kernel_rfl, ?yk31⟩) ?_
                                      case yk31 => (intro w; go_simp; try with_reducible rfl)
                                      refine wpAny_ready (rs := [22]) (by kernel_rfl) (by simp) ?_
                                      refine (AllReady.cons rfl (fun K hK => ?_) AllReady.nil)
                                      go_simp
                                      refine hK _ _ ?_
                                      clear hK K
                                      refine wpAny_done (by kernel_rfl) ?_ _
                                      go_wp2_with fail
                                      go_roundw
                                      case rel => exact ⟨i + 1, _, by simp, HI.out, by rw [HSU.out]; exact HGR⟩
                                      case measure => simp [intOf]; have := HI.out; omega
                                    · skip
                                      go_simp
                                      refine hK _ _ ?_
                                      clear hK K
                                      refine wpAny_ready (rs := [4, 18]) (by kernel_rfl) (by simp) ?_
                                      refine (AllReady.cons rfl (fun K hK => ?_) (AllReady.cons rfl (fun K hK => ?_) AllReady.nil))
                                      · skip
                                        go_simp
                                        refine hK _ _ ?_
                                        clear hK K
                                        refine wpAny_ready (rs := [18]) (by kernel_rfl) (by simp) ?_
                                        refine (AllReady.cons rfl (fun K hK => ?_) AllReady.nil)
                                        go_simp
                                        refine hK _ _ ?_
                                        clear hK K
                                        refine wpAny_ready (rs := [19]) (by kernel_rfl) (by simp) ?_
                                        refine (AllReady.cons rfl (fun K hK => ?_) AllReady.nil)
                                        refine Kd.R_append_step (Kd.int .u8) (w0 := wd) (W := wd) B (by kernel_rfl) (.tmp 130) (.tmp 144) 28 5 (.int .u8 0) 1 (by rfl) Try.underlying28 info5 (by decide) (by decide) (by decide) (.slice (some ⟨gA, 0, none⟩) zs.length c1') zs u [.int .u8 u] (fun _ => True) (fun _ => False) (by rfl) (by rfl) rfl (fun _ hk => hk.elim) (fun _ _ => trivial) HGd.out.ix.ro (Below.refl _ _) HGd.out.ix.base (by have := HZL.out; omega) ?_
                                        intro v1 w8 ho hb hg hat
                                        have cw8 := (hg.block r HGd.out.ix.lt (fun e => HGd.out.ix.ne e.symm)).trans HGd.out.ix.bx
                                        have c38 := (blk_cell cw8 3).trans (rfl : _ = some (Value.slice (some ⟨gA, 0, none⟩) zs.length c1'))
                                        have f38 := blk_frozen cw8 3
                                        have HGR := Aside0.mk (HGd.out.grow ho hg hat HZL.out.1)
                                        obtain ⟨A9, c9, e9⟩ := Kd.R_slice ho
                                        subst e9
                                        rw [List.length_append, List.length_singleton] at HGR
                                        clear ho hb hg hat cw8
                                        refine hK _ _ ?_
                                        clear hK K
                                        refine wpAny_take (i := 20) (v := ?vk32) rfl (by kernel_rfl) (by kernel_rfl) (by kernel_rfl) (fun _ _ _ h => h) (Or.inl ⟨by kernel_rfl, ?yk32⟩) ?_
                                        case yk32 => (intro w; go_simp; try with_reducible rfl)
                                        refine wpAny_take (i := 21) (v := ?vk33) rfl (by kernel_rfl) (by kernel_rfl) (by kernel_rfl) (fun _ _ _ h => h) (Or.inl ⟨by kernel_rfl, ?yk33⟩) ?_
                                        case yk33 => (intro w; go_simp; try with_reducible rfl)
                                        refine wpAny_ready (rs := [22]) (by kernel_rfl) (by simp) ?_
                                        refine (AllReady.cons rfl (fun K hK => ?_) AllReady.nil)
                                        go_simp
                                        refine hK _ _ ?_
                                        clear hK K
                                        refine wpAny_done (by kernel_rfl) ?_ _
                                        go_wp2_with fail
                                        go_roundw
                                        case rel => exact ⟨i + 1, _, by simp, HI.out, by rw [HSU.out]; exact HGR⟩
                                        case measure => simp [intOf]; have := HI.out; omega
                                      · skip
                                        go_simp
                                        refine hK _ _ ?_
                                        clear hK K
                                        refine wpAny_ready (rs := [4]) (by kernel_rfl) (by simp) ?_
                                        refine (AllReady.cons rfl (fun K hK => ?_) AllReady.nil)
                                        go_simp
                                        refine hK _ _ ?_
                                        clear hK K
                                        refine wpAny_ready (rs := [19]) (by kernel_rfl) (by simp) ?_
                                        refine (AllReady.cons rfl (fun K hK => ?_) AllReady.nil)
                                        refine Kd.R_append_step (Kd.int .u8) (w0 := wd) (W := wd) B (by kernel_rfl) (.tmp 130) (.tmp 144) 28 5 (.int .u8 0) 1 (by rfl) Try.underlying28 info5 (by decide) (by decide) (by decide) (.slice (some ⟨gA, 0, none⟩) zs.length c1') zs u [.int .u8 u] (fun _ => True) (fun _ => False) (by rfl) (by rfl) rfl (fun _ hk => hk.elim) (fun _ _ => trivial) HGd.out.ix.ro (Below.refl _ _) HGd.out.ix.base (by have := HZL.out; omega) ?_
                                        intro v1 w8 ho hb hg hat
                                        have cw8 := (hg.block r HGd.out.ix.lt (fun e => HGd.out.ix.ne e.symm)).trans HGd.out.ix.bx
                                        have c38 := (blk_cell cw8 3).trans (rfl : _ = some (Value.slice (some ⟨gA, 0, none⟩) zs.length c1'))
                                        have f38 := blk_frozen cw8 3
                                        have HGR := Aside0.mk (HGd.out.grow ho hg hat HZL.out.1)
                                        obtain ⟨A9, c9, e9⟩ := Kd.R_slice ho
                                        subst e9
                                        rw [List.length_append, List.length_singleton] at HGR
                                        clear ho hb hg hat cw8
                                        refine hK _ _ ?_
                                        clear hK K
                                        refine wpAny_take (i := 20) (v := ?vk34) rfl (by kernel_rfl) (by kernel_rfl) (by kernel_rfl) (fun _ _ _ h => h) (Or.inl ⟨by kernel_rfl, ?yk34⟩) ?_
                                        case yk34 => (intro w; go_simp; try with_reducible rfl)
                                        refine wpAny_take (i := 21) (v := ?vk35) rfl (by kernel_rfl) (by kernel_rfl) (by kernel_rfl) (fun _ _ _ h => h) (Or.inl ⟨by kernel_rfl, ?yk35⟩) ?_
                                        case yk35 => (intro w; go_simp; try with_reducible rfl)
                                        refine wpAny_ready (rs := [22]) (by kernel_rfl) (by simp) ?_
                                        refine (AllReady.cons rfl (fun K hK => ?_) AllReady.nil)
                                        go_simp
                                        refine hK _ _ ?_
                                        clear hK K
                                        refine wpAny_done (by kernel_rfl) ?_ _
                                        go_wp2_with fail
                                        go_roundw
                                        case rel => exact ⟨i + 1, _, by simp, HI.out, by rw [HSU.out]; exact HGR⟩
                                        case measure => simp [intOf]; have := HI.out; omega
                                · skip
                                  go_simp
                                  refine hK _ _ ?_
                                  clear hK K
                                  refine wpAny_take (i := 13) (v := ?vk36) rfl (by kernel_rfl) (by kernel_rfl) (by kernel_rfl) (fun _ _ _ h => h) (Or.inl ⟨by kernel_rfl, ?yk36⟩) ?_
                                  case yk36 => (intro w; go_simp; try with_reducible rfl)
                                  refine wpAny_take (i := 15) (v := ?vk37) rfl (by kernel_rfl) (by kernel_rfl) (by kernel_rfl) (fun _ _ _ h => h) (Or.inl ⟨by kernel_rfl, ?yk37⟩) ?_
                                  case yk37 => (intro w; go_simp; try with_reducible rfl)
                                  refine wpAny_ready (rs := [4, 8]) (by kernel_rfl) (by simp) ?_
                                  refine (AllReady.cons rfl (fun K hK => ?_) (AllReady.cons rfl (fun K hK => ?_) AllReady.nil))
                                  · skip
                                    go_simp
                                    refine hK _ _ ?_
                                    clear hK K
                                    refine wpAny_ready (rs := [8]) (by kernel_rfl) (by simp) ?_
                                    refine (AllReady.cons rfl (fun K hK => ?_) AllReady.nil)
                                    go_simp
                                    refine hK _ _ ?_
                                    clear hK K
                                    refine wpAny_take (i := 16) (v := ?vk38) rfl (by kernel_rfl) (by kernel_rfl) (by kernel_rfl) (fun _ _ _ h => h) (Or.inl ⟨by kernel_rfl, ?yk38⟩) ?_
                                    case yk38 => (intro w; go_simp; try with_reducible rfl)
                                    refine wpAny_ready (rs := [17]) (by kernel_rfl) (by simp) ?_
                                    refine (AllReady.cons rfl (fun K hK => ?_) AllReady.nil)
                                    go_simp
                                    refine hK _ _ ?_
                                    clear hK K
                                    refine wpAny_ready (rs := [18]) (by kernel_rfl) (by simp) ?_
                                    refine (AllReady.cons rfl (fun K hK => ?_) AllReady.nil)
                                    go_simp
                                    refine hK _ _ ?_
                                    clear hK K
                                    refine wpAny_ready (rs := [19]) (by kernel_rfl) (by simp) ?_
                                    refine (AllReady.cons rfl (fun K hK => ?_) AllReady.nil)
                                    refine Kd.R_append_step (Kd.int .u8) (w0 := wd) (W := wd) B (by kernel_rfl) (.tmp 130) (.tmp 144) 28 5 (.int .u8 0) 1 (by rfl) Try.underlying28 info5 (by decide) (by decide) (by decide) (.slice (some ⟨gA, 0, none⟩) zs.length c1') zs u [.int .u8 u] (fun _ => True) (fun _ => False) (by rfl) (by rfl) rfl (fun _ hk => hk.elim) (fun _ _ => trivial) HGd.out.ix.ro (Below.refl _ _) HGd.out.ix.base (by have := HZL.out; omega) ?_
                                    intro v1 w8 ho hb hg hat
                                    have cw8 := (hg.block r HGd.out.ix.lt (fun e => HGd.out.ix.ne e.symm)).trans HGd.out.ix.bx
                                    have c38 := (blk_cell cw8 3).trans (rfl : _ = some (Value.slice (some ⟨gA, 0, none⟩) zs.length c1'))
                                    have f38 := blk_frozen cw8 3
                                    have HGR := Aside0.mk (HGd.out.grow ho hg hat HZL.out.1)
                                    obtain ⟨A9, c9, e9⟩ := Kd.R_slice ho
                                    subst e9
                                    rw [List.length_append, List.length_singleton] at HGR
                                    clear ho hb hg hat cw8
                                    refine hK _ _ ?_
                                    clear hK K
                                    refine wpAny_take (i := 20) (v := ?vk39) rfl (by kernel_rfl) (by kernel_rfl) (by kernel_rfl) (fun _ _ _ h => h) (Or.inl ⟨by kernel_rfl, ?yk39⟩) ?_
                                    case yk39 => (intro w; go_simp; try with_reducible rfl)
                                    refine wpAny_take (i := 21) (v := ?vk40) rfl (by kernel_rfl) (by kernel_rfl) (by kernel_rfl) (fun _ _ _ h => h) (Or.inl ⟨by kernel_rfl, ?yk40⟩) ?_
                                    case yk40 => (intro w; go_simp; try with_reducible rfl)
                                    refine wpAny_ready (rs := [22]) (by kernel_rfl) (by simp) ?_
                                    refine (AllReady.cons rfl (fun K hK => ?_) AllReady.nil)
                                    go_simp
                                    refine hK _ _ ?_
                                    clear hK K
                                    refine wpAny_done (by kernel_rfl) ?_ _
                                    go_wp2_with fail
                                    go_roundw
                                    case rel => exact ⟨i + 1, _, by simp, HI.out, by rw [HSU.out]; exact HGR⟩
                                    case measure => simp [intOf]; have := HI.out; omega
                                  · skip
                                    go_simp
                                    refine hK _ _ ?_
                                    clear hK K
                                    refine wpAny_take (i := 16) (v := ?vk41) rfl (by kernel_rfl) (by kernel_rfl) (by kernel_rfl) (fun _ _ _ h => h) (Or.inl ⟨by kernel_rfl, ?yk41⟩) ?_
                                    case yk41 => (intro w; go_simp; try with_reducible rfl)
                                    refine wpAny_ready (rs := [4, 17]) (by kernel_rfl) (by simp) ?_
                                    refine (AllReady.cons rfl (fun K hK => ?_) (AllReady.cons rfl (fun K hK => ?_) AllReady.nil))
                                    · skip
                                      go_simp
                                      refine hK _ _ ?_
                                      clear hK K
                                      refine wpAny_ready (rs := [17]) (by kernel_rfl) (by simp) ?_
                                      refine (AllReady.cons rfl (fun K hK => ?_) AllReady.nil)
                                      go_simp
                                      refine hK _ _ ?_
                                      clear hK K
                                      refine wpAny_ready (rs := [18]) (by kernel_rfl) (by simp) ?_
                                      refine (AllReady.cons rfl (fun K hK => ?_) AllReady.nil)
                                      go_simp
                                      refine hK _ _ ?_
                                      clear hK K
                                      refine wpAny_ready (rs := [19]) (by kernel_rfl) (by simp) ?_
                                      refine (AllReady.cons rfl (fun K hK => ?_) AllReady.nil)
                                      refine Kd.R_append_step (Kd.int .u8) (w0 := wd) (W := wd) B (by kernel_rfl) (.tmp 130) (.tmp 144) 28 5 (.int .u8 0) 1 (by rfl) Try.underlying28 info5 (by decide) (by decide) (by decide) (.slice (some ⟨gA, 0, none⟩) zs.length c1') zs u [.int .u8 u] (fun _ => True) (fun _ => False) (by rfl) (by rfl) rfl (fun _ hk => hk.elim) (fun _ _ => trivial) HGd.out.ix.ro (Below.refl _ _) HGd.out.ix.base (by have := HZL.out; omega) ?_
                                      intro v1 w8 ho hb hg hat
                                      have cw8 := (hg.block r HGd.out.ix.lt (fun e => HGd.out.ix.ne e.symm)).trans HGd.out.ix.bx
                                      have c38 := (blk_cell cw8 3).trans (rfl : _ = some (Value.slice (some ⟨gA, 0, none⟩) zs.length c1'))
                                      have f38 := blk_frozen cw8 3
                                      have HGR := Aside0.mk (HGd.out.grow ho hg hat HZL.out.1)
                                      obtain ⟨A9, c9, e9⟩ := Kd.R_slice ho
                                      subst e9
                                      rw [List.length_append, List.length_singleton] at HGR
                                      clear ho hb hg hat cw8
                                      refine hK _ _ ?_
                                      clear hK K
                                      refine wpAny_take (i := 20) (v := ?vk42) rfl (by kernel_rfl) (by kernel_rfl) (by kernel_rfl) (fun _ _ _ h => h) (Or.inl ⟨by kernel_rfl, ?yk42⟩) ?_
                                      case yk42 => (intro w; go_simp; try with_reducible rfl)
                                      refine wpAny_take (i := 21) (v := ?vk43) rfl (by kernel_rfl) (by kernel_rfl) (by kernel_rfl) (fun _ _ _ h => h) (Or.inl ⟨by kernel_rfl, ?yk43⟩) ?_
                                      case yk43 => (intro w; go_simp; try with_reducible rfl)
                                      refine wpAny_ready (rs := [22]) (by kernel_rfl) (by simp) ?_
                                      refine (AllReady.cons rfl (fun K hK => ?_) AllReady.nil)
                                      go_simp
                                      refine hK _ _ ?_
                                      clear hK K
                                      refine wpAny_done (by kernel_rfl) ?_ _
                                      go_wp2_with fail
                                      go_roundw
                                      case rel => exact ⟨i + 1, _, by simp, HI.out, by rw [HSU.out]; exact HGR⟩
                                      case measure => simp [intOf]; have := HI.out; omega
                                    · skip
                                      go_simp
                                      refine hK _ _ ?_
                                      clear hK K
                                      refine wpAny_ready (rs := [4, 18]) (by kernel_rfl) (by simp) ?_
                                      refine (AllReady.cons rfl (fun K hK => ?_) (AllReady.cons rfl (fun K hK => ?_) AllReady.nil))
                                      · skip
                                        go_simp
                                        refine hK _ _ ?_
                                        clear hK K
                                        refine wpAny_ready (rs := [18]) (by kernel_rfl) (by simp) ?_
                                        refine (AllReady.cons rfl (fun K hK => ?_) AllReady.nil)
                                        go_simp
                                        refine hK _ _ ?_
                                        clear hK K
                                        refine wpAny_ready (rs := [19]) (by kernel_rfl) (by simp) ?_
                                        refine (AllReady.cons rfl (fun K hK => ?_) AllReady.nil)
                                        refine Kd.R_append_step (Kd.int .u8) (w0 := wd) (W := wd) B (by kernel_rfl) (.tmp 130) (.tmp 144) 28 5 (.int .u8 0) 1 (by rfl) Try.underlying28 info5 (by decide) (by decide) (by decide) (.slice (some ⟨gA, 0, none⟩) zs.length c1') zs u [.int .u8 u] (fun _ => True) (fun _ => False) (by rfl) (by rfl) rfl (fun _ hk => hk.elim) (fun _ _ => trivial) HGd.out.ix.ro (Below.refl _ _) HGd.out.ix.base (by have := HZL.out; omega) ?_
                                        intro v1 w8 ho hb hg hat
                                        have cw8 := (hg.block r HGd.out.ix.lt (fun e => HGd.out.ix.ne e.symm)).trans HGd.out.ix.bx
                                        have c38 := (blk_cell cw8 3).trans (rfl : _ = some (Value.slice (some ⟨gA, 0, none⟩) zs.length c1'))
                                        have f38 := blk_frozen cw8 3
                                        have HGR := Aside0.mk (HGd.out.grow ho hg hat HZL.out.1)
                                        obtain ⟨A9, c9, e9⟩ := Kd.R_slice ho
                                        subst e9
                                        rw [List.length_append, List.length_singleton] at HGR
                                        clear ho hb hg hat cw8
                                        refine hK _ _ ?_
                                        clear hK K
                                        refine wpAny_take (i := 20) (v := ?vk44) rfl (by kernel_rfl) (by kernel_rfl) (by kernel_rfl) (fun _ _ _ h => h) (Or.inl ⟨by kernel_rfl, ?yk44⟩) ?_
                                        case yk44 => (intro w; go_simp; try with_reducible rfl)
                                        refine wpAny_take (i := 21) (v := ?vk45) rfl (by kernel_rfl) (by kernel_rfl) (by kernel_rfl) (fun _ _ _ h => h) (Or.inl ⟨by kernel_rfl, ?yk45⟩) ?_
                                        case yk45 => (intro w; go_simp; try with_reducible rfl)
                                        refine wpAny_ready (rs := [22]) (by kernel_rfl) (by simp) ?_
                                        refine (AllReady.cons rfl (fun K hK => ?_) AllReady.nil)
                                        go_simp
                                        refine hK _ _ ?_
                                        clear hK K
                                        refine wpAny_done (by kernel_rfl) ?_ _
                                        go_wp2_with fail
                                        go_roundw
                                        case rel => exact ⟨i + 1, _, by simp, HI.out, by rw [HSU.out]; exact HGR⟩
                                        case measure => simp [intOf]; have := HI.out; omega
                                      · skip
                                        go_simp
                                        refine hK _ _ ?_
                                        clear hK K
                                        refine wpAny_ready (rs := [4]) (by kernel_rfl) (by simp) ?_
                                        refine (AllReady.cons rfl (fun K hK => ?_) AllReady.nil)
                                        go_simp
                                        refine hK _ _ ?_
                                        clear hK K
                                        refine wpAny_ready (rs := [19]) (by kernel_rfl) (by simp) ?_
                                        refine (AllReady.cons rfl (fun K hK => ?_) AllReady.nil)
                                        refine Kd.R_append_step (Kd.int .u8) (w0 := wd) (W := wd) B (by kernel_rfl) (.tmp 130) (.tmp 144) 28 5 (.int .u8 0) 1 (by rfl) Try.underlying28 info5 (by decide) (by decide) (by decide) (.slice (some ⟨gA, 0, none⟩) zs.length c1') zs u [.int .u8 u] (fun _ => True) (fun _ => False) (by rfl) (by rfl) rfl (fun _ hk => hk.elim) (fun _ _ => trivial) HGd.out.ix.ro (Below.refl _ _) HGd.out.ix.base (by have := HZL.out; omega) ?_
                                        intro v1 w8 ho hb hg hat
                                        have cw8 := (hg.block r HGd.out.ix.lt (fun e => HGd.out.ix.ne e.symm)).trans HGd.out.ix.bx
                                        have c38 := (blk_cell cw8 3).trans (rfl : _ = some (Value.slice (some ⟨gA, 0, none⟩) zs.length c1'))
                                        have f38 := blk_frozen cw8 3
                                        have HGR := Aside0.mk (HGd.out.grow ho hg hat HZL.out.1)
                                        obtain ⟨A9, c9, e9⟩ := Kd.R_slice ho
                                        subst e9
                                        rw [List.length_append, List.length_singleton] at HGR
                                        clear ho hb hg hat cw8
                                        refine hK _ _ ?_
                                        clear hK K
                                        refine wpAny_take (i := 20) (v := ?vk46) rfl (by kernel_rfl) (by kernel_rfl) (by kernel_rfl) (fun _ _ _ h => h) (Or.inl ⟨by kernel_rfl, ?yk46⟩) ?_
                                        case yk46 => (intro w; go_simp; try with_reducible rfl)
                                        refine wpAny_take (i := 21) (v := ?vk47) rfl (by kernel_rfl) (by kernel_rfl) (by kernel_rfl) (fun _ _ _ h => h) (Or.inl ⟨by kernel_rfl, ?yk47⟩) ?_
                                        case yk47 => (intro w; go_simp; try with_reducible rfl)
                                        refine wpAny_ready (rs := [22]) (by kernel_rfl) (by simp) ?_
                                        refine (AllReady.cons rfl (fun K hK => ?_) AllReady.nil)
                                        go_simp
                                        refine hK _ _ ?_
                                        clear hK K
                                        refine wpAny_done (by kernel_rfl) ?_ _
                                        go_wp2_with fail
                                        go_roundw
                                        case rel => exact ⟨i + 1, _, by simp, HI.out, by rw [HSU.out]; exact HGR⟩
                                        case measure => simp [intOf]; have := HI.out; omega
                              · have hie : i = n := by omega
                                have b1 : decide (i < n) = false := decide_eq_false hlt
                                have b2 : decide ((i : Int) < (n : Int)) = false := decide_eq_false (by omega)
                                rw [hie] at HS
                                clear hlt hi hf1 hf2 hnn
                                go_wp2_with fail
                                go_end0
                                rw [HRUN4.out, runS_0]
                                exact QG.ok (O := fun o : List Int => o) (v := copyN far n out) HS.out rfl
                            · have b3 : (er7 == 0) = false := by rw [beq_eq_false_iff_ne]; exact h0
                              have b4 : decide (er7 = 0) = false := decide_eq_false h0
                              have HE := Aside0.mk h0
                              clear h0
                              by_cases hlt : i < n
                              · have b5 : decide (i < n) = true := decide_eq_true hlt
                                have b6 : decide ((i : Int) < (n : Int)) = true := decide_eq_true (by omega)
                                clear hlt hi hf1 hf2 hnn
                                go_wp2_with fail
                                go_end0
                                rw [HRUN4.out, runS_no HE.out]
                                exact HS.out.no HE.out rfl
                              · have b5 : decide (i < n) = false := decide_eq_false hlt
                                have b6 : decide ((i : Int) < (n : Int)) = false := decide_eq_false (by omega)
                                clear hlt hi hf1 hf2 hnn
                                go_wp2_with fail
                                go_end0
                                rw [HRUN4.out, runS_no HE.out]
                                exact HS.out.no HE.out rfl
end Go.Proofs.Ytaghmhcccighgaa.HI
