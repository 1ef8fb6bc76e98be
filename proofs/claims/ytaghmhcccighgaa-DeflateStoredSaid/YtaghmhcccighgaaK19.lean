/- Parts: HSto HPack HMapD HMat HMat2 -/
import Derived.Test.YtaghmhcccighgaaK12
import Derived.Test.YtaghmhcccighgaaK18
import Derived.Test.YtaghmhcccighgaaK03
import Derived.Test.YtaghmhcccighgaaK11
import Derived.Maps.OwnSet
import Derived.Laws.Entries
import Derived.Stop.BytesEq
import Derived.Test.YtaghmhcccighgaaK04
import Derived.RegionTactic
import Derived.StillTailTactics
import Derived.Deep.RegionHeld3
import Derived.Outline
set_option linter.unusedVariables false
set_option linter.unusedSimpArgs false
section
/- Bytes that are stored: what Stored writes. -/
namespace Go.Proofs.Ytaghmhcccighgaa.DF
open Go.RowKit Go.Proofs.YtaghmhcccighgaaW.PrintWords Go.Proofs.YtaghmhcccighgaaW.PrintLast Go.Proofs.YtaghmhcccighgaaW.PrintMore Go.Proofs.Ytaghmhcccighgaa.HW Go.Proofs.Ytaghmhcccighgaa.MB
attribute [local go_sem] max2_int min2_int max_two min_two max_three min_three max_four min_four   -- for this text's walks alone
/-- A block of kind 0; the blocks of bytes. -/
def stoBlk (lv : Nat) (p : ByteArray) : List Bool := bitsOf lv 3 ++ List.replicate 5 false ++ bitsOf p.size 16 ++ bitsOf (65535 - p.size) 16 ++ bitsS p
def stoF : Nat → ByteArray → List Bool
  | 0, _ => []
  | k + 1, s => if s.size ≤ 65535 then stoBlk 1 s else stoBlk 0 (s.extract 0 65535) ++ stoF k (s.extract 65535 s.size)
/-- A writer that was made since. -/
structure WrS (W w : World) (B g : Nat) (v : Value) (l : List Bool) : Prop where
  iw : IsW w B g v l
  be : Below W.heap.size W w
  ge : W.heap.size ≤ B
theorem WrS.step {W w w' : World} {B g : Nat} {v v' : Value} {l l' : List Bool} (h : WrS W w B g v l) (hi : IsW w' B g v' l') (hf : Fr (WS g v) w w') : WrS W w' B g v' l' :=
  ⟨hi, h.be.trans (hf.below h.be.size (fun k hk => by
    rcases hk with rfl | hk
    · exact Nat.le_trans h.ge h.iw.2.1
    · exact Nat.le_trans h.ge (h.iw.row_lt k hk).1)), h.ge⟩
theorem stoBlk_len (lv : Nat) (p : ByteArray) : (stoBlk lv p).length = 40 + 8 * p.size := by
  unfold stoBlk
  simp only [List.length_append, bitsOf_length, List.length_replicate, bitsS_length]
structure StoI (W w : World) (g : Nat) (s r : ByteArray) (lv : Nat) (v : Value) (l : List Bool) (k : Nat) : Prop where
  wr : WrS W w W.heap.size g v l
  al : l.length % 8 = 0
  ln : l.length + 8 * r.size + 40 * k ≤ 8 * s.size + 680
  rel : (lv = 0 ∧ l ++ stoF k r = stoF 17 s ∧ r.size ≤ 65535 * k ∧ 0 < k) ∨ (lv = 1 ∧ l = stoF 17 s)
theorem stoI0 {W w : World} {s : ByteArray} (hs : s.size ≤ 1048576) {v : Value} (hi : IsW w W.heap.size W.heap.size v []) (hb : Below W.heap.size W w) : StoI W w W.heap.size s s 0 v [] 17 :=
  ⟨⟨hi, hb, Nat.le_refl _⟩, rfl, by show 0 + _ + _ ≤ _; omega, Or.inl ⟨rfl, rfl, by omega, by decide⟩⟩
theorem sto_len {l : List Bool} {N x c m : Nat} (h : l.length ≤ N) : (l ++ (bitsOf x 3 ++ List.replicate 5 false) ++ bitsOf c 16 ++ bitsOf m 16).length ≤ N + 40 := by
  simp only [List.length_append, bitsOf_length, List.length_replicate]; omega
theorem sto_len1 {l : List Bool} {N x : Nat} (h : l.length ≤ N) : (l ++ (bitsOf x 3 ++ List.replicate 5 false)).length ≤ N + 40 := by
  simp only [List.length_append, bitsOf_length, List.length_replicate]; omega
theorem sto_len2 {l : List Bool} {N x c : Nat} (h : l.length ≤ N) : (l ++ (bitsOf x 3 ++ List.replicate 5 false) ++ bitsOf c 16).length ≤ N + 40 := by
  simp only [List.length_append, bitsOf_length, List.length_replicate]; omega
theorem sto_al {l : List Bool} {x c m : Nat} (h : l.length % 8 = 0) : (l ++ (bitsOf x 3 ++ List.replicate 5 false) ++ bitsOf c 16 ++ bitsOf m 16).length % 8 = 0 := by
  simp only [List.length_append, bitsOf_length, List.length_replicate]; omega
theorem sto_pad {l : List Bool} {x : Nat} (h : l.length % 8 = 0) : l ++ bitsOf x 3 ++ List.replicate (pad (l ++ bitsOf x 3).length) false = l ++ (bitsOf x 3 ++ List.replicate 5 false) := by
  rw [List.length_append, bitsOf_length, show pad (l.length + 3) = 5 by unfold pad; omega, List.append_assoc]
theorem sto_le {l : List Bool} {N x : Nat} (h : l.length ≤ N) : (l ++ bitsOf x 3).length ≤ N + 40 := by
  simp only [List.length_append, bitsOf_length]; omega
theorem blk_eq (l : List Bool) (x m : Nat) (p : ByteArray) (hm : m = 65535 - p.size) : l ++ (bitsOf x 3 ++ List.replicate 5 false) ++ bitsOf p.size 16 ++ bitsOf m 16 ++ bitsS p = l ++ stoBlk x p := by
  subst hm
  unfold stoBlk
  simp only [List.append_assoc]
theorem stoA {W wr w6 : World} {g : Nat} {s r e : ByteArray} {v v6 : Value} {l : List Bool} {k c : Nat} (HI : StoI W wr g s r 0 v l k) (h : r.size ≤ 65535) (hl : l ++ stoF k r = stoF 17 s) (hk : 0 < k) (hc : c = 65535 - r.size) (he : e.size = 0)
    (H6 : WrS W w6 W.heap.size g v6 (l ++ (bitsOf 1 3 ++ List.replicate 5 false) ++ bitsOf r.size 16 ++ bitsOf c 16 ++ bitsS r)) : StoI W w6 g s e 1 v6 (stoF 17 s) (k - 1) := by
  obtain ⟨k, rfl⟩ : ∃ j, k = j + 1 := ⟨k - 1, by omega⟩
  have hb : stoF (k + 1) r = stoBlk 1 r := if_pos h
  rw [hb] at hl
  rw [blk_eq l 1 c r hc, hl] at H6
  have hlen := congrArg List.length hl
  rw [List.length_append, stoBlk_len] at hlen
  have hln := HI.ln
  have hal := HI.al
  refine ⟨H6, by omega, by omega, Or.inr ⟨rfl, rfl⟩⟩
theorem stoB {W wr w6 : World} {g : Nat} {s r : ByteArray} {v v6 : Value} {l : List Bool} {k : Nat} (HI : StoI W wr g s r 0 v l k) (h : ¬ r.size ≤ 65535) (hl : l ++ stoF k r = stoF 17 s) (hr : r.size ≤ 65535 * k) {q c : Nat} (hq : q = 65535) (hc : c = 0)
    (H6 : WrS W w6 W.heap.size g v6 (l ++ (bitsOf 0 3 ++ List.replicate 5 false) ++ bitsOf q 16 ++ bitsOf c 16 ++ bitsS (r.extract 0 65535))) : StoI W w6 g s (r.extract q r.size) 0 v6 (l ++ stoBlk 0 (r.extract 0 65535)) (k - 1) := by
  subst hq
  subst hc
  obtain ⟨k, rfl⟩ : ∃ j, k = j + 1 := ⟨k - 1, by omega⟩
  have hb : stoF (k + 1) r = stoBlk 0 (r.extract 0 65535) ++ stoF k (r.extract 65535 r.size) := if_neg h
  have hz : (r.extract 0 65535).size = 65535 := by rw [ByteArray.size_extract]; omega
  have hz2 : (r.extract 65535 r.size).size = r.size - 65535 := by rw [ByteArray.size_extract]; omega
  have hq := blk_eq l 0 0 (r.extract 0 65535) (by rw [hz])
  rw [hz] at hq
  rw [hq] at H6
  rw [hb, ← List.append_assoc] at hl
  have hln := HI.ln
  have hal := HI.al
  refine ⟨H6, ?_, ?_, Or.inl ⟨rfl, hl, ?_, ?_⟩⟩
  · rw [List.length_append, stoBlk_len, hz]; omega
  · rw [List.length_append, stoBlk_len, hz, hz2]; omega
  · rw [hz2]; omega
  · have : 0 < k := by omega
    omega
set_option maxRecDepth 100000 in
set_option maxHeartbeats 8000000 in
theorem stored_ok (s : ByteArray) (hs : s.size ≤ 1048576) (W : World) :
    Calls Try.prog 12 #[.string s] W fun e w' => ∃ z, e = .returned (.tuple #[.string z, .int .i64 0]) ∧ STold z (stoF 17 s) ∧ Below W.heap.size W w' := by
  have HSZ := Aside0.mk hs
  have b0 : decide (1048576 < (s.size : Int)) = false := decide_eq_false (by omega)
  clear hs
  go_enter Try.func12, Try.ntmps12
  go_wp2_with (first | (go_at_call 19; refine (newWriter _).mono ?_; rintro e w1 ⟨rfl, hi1, hb1⟩; have HI := Aside0.mk (stoI0 HSZ.out hi1 hb1); clear hi1 hb1))
  go_loopw [0, 5] (fun v0 v5 wr => ∃ (r : ByteArray) (lv : Nat) (v : Value) (l : List Bool) (k : Nat), v0 = .string r ∧ v5 = .int .i64 lv ∧ Aside0 (StoI W wr W.heap.size s r lv v l k)) (fun v0 v5 _ => (match v0 with | .string r => r.size | _ => 0) + (1 - intOf v5).toNat)
  case atStart => exact ⟨s, 0, _, _, _, rfl, rfl, HI⟩
  case round =>
    clear HI b0
    obtain ⟨r, lv, v, l, k, rfl, rfl, HI⟩ := hrel
    have HL : Aside0 (l.length ≤ 20000000 ∧ l.length % 8 = 0) := ⟨by have := HI.out.ln; have := HSZ.out; exact ⟨by omega, HI.out.al⟩⟩
    have HRS : Aside0 (r.size ≤ 10000000) := ⟨by have := HI.out.ln; have := HSZ.out; omega⟩
    rcases HI.out.rel with ⟨h0, hl, hr, hk⟩ | ⟨h1, hl⟩
    · subst h0
      by_cases h : r.size ≤ 65535
      · have b1 : (r.extract (min 65535 r.size) r.size).toList.isEmpty = true := by
          rw [Nat.min_eq_right h]
          simp
        have HR := Aside0.mk (And.intro h (And.intro hl hk))
        obtain ⟨c, hc, hc2⟩ : ∃ c : Nat, (65535 : Int) - (r.size : Int) = (c : Int) ∧ c = 65535 - r.size := ⟨65535 - r.size, by omega, rfl⟩
        have HC2 := Aside0.mk hc2
        clear hc2
        have HWS : Aside0 (r.size ≤ 100000000000) := ⟨by omega⟩
        clear hl hr hk
        go_wp2_with fail
        refine (bits_ok W.heap.size W.heap.size v l 1 3 wr HI.out.wr.iw (by decide) (by decide) (by have := HL.out; omega) HI.out.wr.be.size).mono ?_
        rintro e w2 ⟨rfl, v2, hi2, hf2, _⟩
        have H2 := Aside0.mk (HI.out.wr.step hi2 hf2)
        clear hi2 hf2
        go_wp2_with fail
        refine (w_align W.heap.size W.heap.size v2 _ w2 H2.out.iw (Nat.le_trans (sto_le HL.out.1) (by decide))).mono ?_
        rintro e w3 ⟨rfl, hi3, hf3⟩
        have H3 := Aside0.mk (H2.out.step (l' := l ++ (bitsOf 1 3 ++ List.replicate 5 false)) (sto_pad HL.out.2 ▸ hi3) hf3)
        clear hi3 hf3
        go_wp2_with fail
        refine (bits_ok W.heap.size W.heap.size v2 _ r.size 16 w3 H3.out.iw (by decide) (by have := HR.out.1; omega) (Nat.le_trans (sto_len1 HL.out.1) (by decide)) H3.out.be.size).mono ?_
        rintro e w4 ⟨rfl, v4, hi4, hf4, _⟩
        have H4 := Aside0.mk (H3.out.step hi4 hf4)
        clear hi4 hf4
        go_wp2_with fail
        refine (bits_ok W.heap.size W.heap.size v4 _ c 16 w4 H4.out.iw (by decide) (by have := HC2.out; omega) (Nat.le_trans (sto_len2 HL.out.1) (by decide)) H4.out.be.size).mono ?_
        rintro e w5 ⟨rfl, v5, hi5, hf5, _⟩
        have H5 := Aside0.mk (H4.out.step hi5 hf5)
        clear hi5 hf5
        go_wp2_with fail
        refine (w_bytes W.heap.size W.heap.size v5 _ r w5 H5.out.iw (sto_al HL.out.2) (Nat.le_trans (sto_len HL.out.1) (by decide)) HWS.out H5.out.be.size).mono ?_
        rintro e w6 ⟨rfl, v6, hi6, hf6, _⟩
        have H6 := Aside0.mk (H5.out.step hi6 hf6)
        clear hi6 hf6
        go_wp2_with fail
        go_roundw
        case rel => exact ⟨ByteArray.empty, 1, v6, stoF 17 s, k - 1, rfl, rfl, ⟨stoA HI.out HR.out.1 HR.out.2.1 HR.out.2.2 HC2.out rfl H6.out⟩⟩
        case measure => exact (show 0 + 0 < r.size + 1 by omega)
      · obtain ⟨q, hq⟩ : ∃ q, min 65535 r.size = q := ⟨_, rfl⟩
        have hq2 : q = 65535 := by rw [← hq]; exact Nat.min_eq_left (by omega)
        have b1 : (r.extract q r.size).toList.isEmpty = false := by
          cases he : (r.extract q r.size).toList.isEmpty with
          | false => rfl
          | true =>
            have h1 := List.isEmpty_iff.1 he
            have h2 : (r.extract q r.size).size = 0 := by
              rw [ByteArray.toList_eq] at h1
              show (r.extract q r.size).data.size = 0
              rw [← Array.length_toList, h1]
              rfl
            rw [ByteArray.size_extract] at h2
            omega
        obtain ⟨c, hc, hc2⟩ : ∃ c : Nat, (65535 : Int) - (q : Int) = (c : Int) ∧ c = 0 := ⟨0, by omega, rfl⟩
        have hql : q ≤ 65535 := by omega
        have HC2 := Aside0.mk hc2
        have HQ2 := Aside0.mk hq2
        have HN3 := Aside0.mk (show 3 ≤ 57 by decide)
        have HN8 := Aside0.mk (show 0 < 2 ^ 3 by decide)
        have HN16 := Aside0.mk (show 16 ≤ 57 by decide)
        have HN0 := Aside0.mk (show c < 2 ^ 16 by omega)
        have HN65 := Aside0.mk (show q < 2 ^ 16 by omega)
        have HLN : Aside0 (l.length ≤ 1000000000000) := ⟨Nat.le_trans HL.out.1 (by decide)⟩
        have HR := Aside0.mk (And.intro h (And.intro hl hr))
        have HWS : Aside0 ((r.extract 0 65535).size ≤ 100000000000) := ⟨by rw [ByteArray.size_extract]; omega⟩
        clear hl hr hk hc2 hq2
        go_wp2_with fail
        refine (bits_ok W.heap.size W.heap.size v l 0 3 wr HI.out.wr.iw HN3.out HN8.out HLN.out HI.out.wr.be.size).mono ?_
        rintro e w2 ⟨rfl, v2, hi2, hf2, _⟩
        have H2 := Aside0.mk (HI.out.wr.step hi2 hf2)
        clear hi2 hf2
        go_wp2_with fail
        refine (w_align W.heap.size W.heap.size v2 _ w2 H2.out.iw (Nat.le_trans (sto_le HL.out.1) (by decide))).mono ?_
        rintro e w3 ⟨rfl, hi3, hf3⟩
        have H3 := Aside0.mk (H2.out.step (l' := l ++ (bitsOf 0 3 ++ List.replicate 5 false)) (sto_pad HL.out.2 ▸ hi3) hf3)
        clear hi3 hf3
        go_wp2_with fail
        refine (bits_ok W.heap.size W.heap.size v2 _ q 16 w3 H3.out.iw HN16.out HN65.out (Nat.le_trans (sto_len1 HL.out.1) (by decide)) H3.out.be.size).mono ?_
        rintro e w4 ⟨rfl, v4, hi4, hf4, _⟩
        have H4 := Aside0.mk (H3.out.step hi4 hf4)
        clear hi4 hf4
        go_wp2_with fail
        refine (bits_ok W.heap.size W.heap.size v4 _ c 16 w4 H4.out.iw HN16.out HN0.out (Nat.le_trans (sto_len2 HL.out.1) (by decide)) H4.out.be.size).mono ?_
        rintro e w5 ⟨rfl, v5, hi5, hf5, _⟩
        have H5 := Aside0.mk (H4.out.step hi5 hf5)
        clear hi5 hf5
        go_wp2_with fail
        refine (w_bytes W.heap.size W.heap.size v5 _ (r.extract 0 65535) w5 H5.out.iw (sto_al HL.out.2) (Nat.le_trans (sto_len HL.out.1) (by decide)) HWS.out H5.out.be.size).mono ?_
        rintro e w6 ⟨rfl, v6, hi6, hf6, _⟩
        have H6 := Aside0.mk (H5.out.step hi6 hf6)
        clear hi6 hf6
        go_wp2_with fail
        go_roundw
        case rel => exact ⟨_, 0, v6, _, k - 1, rfl, rfl, ⟨stoB HI.out HR.out.1 HR.out.2.1 HR.out.2.2 HQ2.out HC2.out H6.out⟩⟩
        case measure =>
          have hz : (r.extract q r.size).size = r.size - 65535 := by rw [ByteArray.size_extract, HQ2.out]; omega
          exact (show (r.extract q r.size).size + 1 < r.size + 1 by rw [hz]; omega)
    · subst h1
      have HR := Aside0.mk hl
      clear hl
      go_wp2_with fail
      refine (w_done W.heap.size W.heap.size v l wr HI.out.wr.iw).mono ?_
      rintro e w2 ⟨z, rfl, hz, rfl⟩
      have HZ := Aside0.mk hz
      clear hz
      go_wp2_with fail
      go_ret2
      refine ⟨_, rfl, ?_, HI.out.wr.be⟩
      rw [← HR.out]
      exact HZ.out
end Go.Proofs.Ytaghmhcccighgaa.DF
end
section
/- byFixed, byDynamic; walked. -/
namespace Go.Proofs.Ytaghmhcccighgaa.DF
open Go.RowKit Go.Proofs.YtaghmhcccighgaaW.PrintWords Go.Proofs.YtaghmhcccighgaaW.PrintLast Go.Proofs.YtaghmhcccighgaaW.PrintMore Go.Proofs.Ytaghmhcccighgaa.HW Go.Proofs.Ytaghmhcccighgaa.MB Go.Proofs.Ytaghmhcccighgaa.HF Go.Proofs.Ytaghmhcccighgaa.Fn
attribute [local go_sem] max2_int min2_int max_two min_two max_three min_three max_four min_four   -- for this text's walks alone
theorem infoSymP : (Try.prog.info? 60).map (fun i => (i.zero, i.size, i.bytes)) = some (some (.agg #[.int .i64 0, .int .i64 0]), 2, 16) := by kernel_rfl
/-- One block of kind 1. -/
def FixB (xs : List (Nat × Nat)) : List Bool := bitsOf 3 3 ++ (symsW RT.fixL fixD30 xs ++ wd RT.fixL 256)
theorem fix_okS : (∀ k : Nat, k < 288 → rd RT.fixL (k : Int) ≠ 0) ∧ (∀ k : Nat, k < 30 → rd fixD30 (k : Int) ≠ 0) := ⟨by decide +kernel, by decide +kernel⟩
theorem fix_in {x : Nat × Nat} (h : SymV x) : SymIn RT.fixL fixD30 x := by
  have l1 : RT.fixL.length = 288 := by decide +kernel
  have l2 : fixD30.length = 30 := by decide +kernel
  rcases h with ⟨e, e2⟩ | ⟨e, e3, e258, e1, e32⟩
  · exact Or.inl ⟨e, by omega, by omega, fix_okS.1 x.2 (by omega)⟩
  · have hb := lenS_bd e3 e258
    have hc := dis_spec x.1 e1 e32
    exact Or.inr ⟨e, ⟨e3, e258, e1, e32⟩, ⟨by omega, by omega, fix_okS.1 _ (by omega)⟩, ⟨by omega, by omega, fix_okS.2 _ (by omega)⟩⟩
theorem fix_end : okS RT.fixL 256 := ⟨by decide, by decide +kernel, fix_okS.1 256 (by decide)⟩
theorem WrS.below {W w w' : World} {B g : Nat} {v : Value} {l : List Bool} (h : WrS W w B g v l) (hb : Below w.heap.size w w') : WrS W w' B g v l :=
  ⟨h.iw.below hb, h.be.trans (hb.mono h.be.size), h.ge⟩
/-- What a packer gives. -/
def PaQ (P : List Bool → Prop) (W : World) (e : Ending) (w' : World) : Prop := ∃ z b, e = .returned (.string z) ∧ P b ∧ STold z b ∧ Below W.heap.size W w'
set_option maxRecDepth 100000 in
set_option maxHeartbeats 8000000 in
theorem byFixed_ok {W : World} (A : Option Addr) (c : Nat) (xs : List (Nat × Nat)) (hr : RdL W A (xs.map toS)) (hc : xs.length ≤ c) (hx : ∀ x ∈ xs, SymV x) (hl : xs.length ≤ 2000000) :
    Calls Try.prog 17 #[.slice A xs.length c] W (PaQ (fun b => b = FixB xs) W) := by
  have HR := Aside0.mk (And.intro hr hc)
  have HX := Aside0.mk hx
  have HL := Aside0.mk hl
  clear hr hc hx hl
  go_enter Try.func17, Try.ntmps17
  go_wp2_with fail
  refine (newWriter _).mono ?_
  rintro e w1 ⟨rfl, hi1, hb1⟩
  have HS1 := Aside0.mk (WrS.mk hi1 hb1 (Nat.le_refl _))
  clear hi1 hb1
  have HP := Aside0.mk (bits_ok W.heap.size W.heap.size (.slice none 0 0) [] 3 3 w1 HS1.out.iw (by decide) (by decide) (by decide) HS1.out.be.size)
  go_wp2_with fail
  refine HP.out.mono ?_
  rintro e w2 ⟨rfl, v2, hi2, hf2, _⟩
  have HS2 := Aside0.mk (HS1.out.step hi2 hf2)
  rw [List.nil_append] at HS2
  clear hi2 hf2 HP HS1
  go_wp2_with fail
  refine (fixed_ok w2).mono ?_
  rintro e w3 ⟨t1, lv1, wv1, sv1, t2, lv2, wv2, sv2, rfl, ht1, ht2, hb3⟩
  have HS3 := Aside0.mk (HS2.out.below hb3)
  have HCP := Aside0.mk (cput_ok ht1 ht2 okFix.1 okFix.2 HS3.out.iw HS3.out.be.size A c xs (HR.out.1.below HS3.out.be) HR.out.2 (fun x hx => fix_in (HX.out x hx)) fix_end (by rw [bitsOf_length]; have := HL.out; omega))
  clear ht1 ht2 hb3 HS2
  go_wp2_with fail
  refine HCP.out.mono ?_
  rintro e w4 ⟨rfl, v4, hi4, hf4, _⟩
  have HS4 := Aside0.mk (HS3.out.step hi4 hf4)
  clear hi4 hf4 HCP HS3
  go_wp2_with fail
  refine (w_done W.heap.size W.heap.size v4 _ w4 HS4.out.iw).mono ?_
  rintro e w5 ⟨z, rfl, hz, rfl⟩
  have HZ := Aside0.mk hz
  clear hz
  go_wp2_with fail
  go_ret
  exact ⟨z, _, rfl, rfl, HZ.out, HS4.out.be⟩
/-- Blocks of kind 2. -/
inductive DynsB : List (Nat × Nat) → List Bool → Prop where
  | last {xs : List (Nat × Nat)} {b : List Bool} {lens dist first : List Int} (h : DynB xs b lens dist first) : DynsB xs (bitsOf 1 1 ++ bitsOf 2 2 ++ b)
  | more {ys xs : List (Nat × Nat)} {b r : List Bool} {lens dist first : List Int} (h : DynB ys b lens dist first) (hr : DynsB xs r) : DynsB (ys ++ xs) (bitsOf 0 1 ++ bitsOf 2 2 ++ b ++ r)
theorem RdL.take {W : World} {A : Option Addr} {xs : List (Nat × Nat)} (h : RdL W A (xs.map toS)) {m : Nat} (hm : m ≤ xs.length) : RdL W A ((xs.take m).map toS) := by
  refine ⟨?_, h.ty⟩
  rw [List.map_take]
  exact Kd.C_take h.c (by rw [List.length_map]; exact hm)
theorem RdL.drop {W : World} {A : Option Addr} {xs : List (Nat × Nat)} {c : Nat} (h : RdL W A (xs.map toS)) {m : Nat} (hm : m ≤ xs.length) (hc : xs.length ≤ c) : RdL W (if c = m then A else A.map (·.add (m * 2))) ((xs.drop m).map toS) := by
  refine ⟨?_, fun ad ha => ?_⟩
  · rw [List.map_drop]
    exact Kd.C_drop h.c (by rw [List.length_map]; exact hm) (by rw [List.length_map]; exact hc)
  · split at ha
    · exact h.ty ad ha
    · cases A with
      | none => cases ha
      | some a =>
        injection ha with ha
        subst ha
        obtain ⟨cells, hcc⟩ := h.ty a rfl
        refine ⟨cells, ?_⟩
        rw [show (a.add (m * 2)).block = a.block by unfold Addr.add; split <;> rfl]
        exact hcc
theorem DynB.len {xs : List (Nat × Nat)} {b : List Bool} {lens dist first : List Int} (h : DynB xs b lens dist first) : b.length ≤ 5000 + 48 * xs.length := by
  rw [h.bs]
  have h1 := wdsB_len (whole_okL h.w3) (lens ++ dist) h.al
  have h2 := symsW_len (whole_okL h.w1) (whole_okL h.w2) xs h.si
  have h3 := (wd_len (whole_okL h.w1) h.se).2
  have h4 := h.n1
  have h5 := h.n2
  rw [show (lens ++ dist).length = 316 by rw [List.length_append, h4, h5]] at h1
  simp only [List.length_append, bitsOf_length, firstB_len]
  rw [show orderZ.length = 19 from rfl]
  omega
/-- byDynamic's state. -/
structure ByS (W w : World) (xs ys : List (Nat × Nat)) (A : Option Addr) (c : Nat) (lv : Nat) (v : Value) (l : List Bool) (K : Nat) : Prop where
  wr : WrS W w W.heap.size W.heap.size v l
  ro : RdL w A (ys.map toS)
  hc : ys.length ≤ c
  sv : ∀ x ∈ ys, SymV x
  ln : l.length + 48 * ys.length ≤ 48 * xs.length + 5003 * K
  lk : (K - lv) * 16384 + ys.length ≤ xs.length
  rel : (lv = 0 ∧ ∀ r, DynsB ys r → DynsB xs (l ++ r)) ∨ (lv = 1 ∧ DynsB xs l)
theorem ByS.last {W w w5 : World} {xs ys : List (Nat × Nat)} {A A2 : Option Addr} {c c2 m : Nat} {v v5 : Value} {l b : List Bool} {K : Nat} {lens dist first : List Int} (h : ByS W w xs ys A c 0 v l K) (hrel : ∀ r, DynsB ys r → DynsB xs (l ++ r)) (hm : m = ys.length) (hc2 : c - m = c2)
    (hdy : DynB (ys.take m) b lens dist first) (hs : WrS W w5 W.heap.size W.heap.size v5 (l ++ bitsOf 1 1 ++ bitsOf 2 2 ++ b)) (hd : RdL w5 A2 ((ys.drop m).map toS)) : ByS W w5 xs (ys.drop m) A2 c2 1 v5 (l ++ bitsOf 1 1 ++ bitsOf 2 2 ++ b) (K + 1) := by
  have h1 := hdy.len
  have h2 := h.ln
  have h3 := h.lk
  have h4 : ys.take m = ys := List.take_of_length_le (by omega)
  rw [h4] at h1 hdy
  have h5 : (ys.drop m).length = 0 := by rw [List.length_drop]; omega
  have h8 : (ys.drop m).length ≤ c2 := by omega
  have h9 : K + 1 - 1 = K := rfl
  refine ⟨hs, hd, h8, fun x hx => h.sv x (List.mem_of_mem_drop hx), ?_, ?_, Or.inr ⟨rfl, ?_⟩⟩
  · simp only [List.length_append, bitsOf_length]
    omega
  · rw [h9, h5]
    rw [Nat.sub_zero] at h3
    generalize K * 16384 = Z at h3 ⊢
    omega
  · have := hrel _ (.last hdy)
    simp only [List.append_assoc] at this ⊢
    exact this
theorem ByS.more {W w w5 : World} {xs ys : List (Nat × Nat)} {A A2 : Option Addr} {c c2 m : Nat} {v v5 : Value} {l b : List Bool} {K : Nat} {lens dist first : List Int} (h : ByS W w xs ys A c 0 v l K) (hrel : ∀ r, DynsB ys r → DynsB xs (l ++ r)) (hm : m = 16384) (hmy : m ≤ ys.length) (hc2 : c - m = c2)
    (hdy : DynB (ys.take m) b lens dist first) (hs : WrS W w5 W.heap.size W.heap.size v5 (l ++ bitsOf 0 1 ++ bitsOf 2 2 ++ b)) (hd : RdL w5 A2 ((ys.drop m).map toS)) : ByS W w5 xs (ys.drop m) A2 c2 0 v5 (l ++ bitsOf 0 1 ++ bitsOf 2 2 ++ b) (K + 1) := by
  have h1 := hdy.len
  have h2 := h.ln
  have h3 := h.lk
  have h6 := h.hc
  have h4 : (ys.take m).length = m := by rw [List.length_take]; omega
  rw [h4] at h1
  have h5 : (ys.drop m).length = ys.length - m := List.length_drop
  have h8 : (ys.drop m).length ≤ c2 := by omega
  refine ⟨hs, hd, h8, fun x hx => h.sv x (List.mem_of_mem_drop hx), ?_, ?_, Or.inl ⟨rfl, fun q hq => ?_⟩⟩
  · simp only [List.length_append, bitsOf_length]
    omega
  · rw [h5, Nat.sub_zero, Nat.add_mul, Nat.one_mul]
    rw [Nat.sub_zero] at h3
    generalize K * 16384 = Z at h3 ⊢
    omega
  · have := hrel _ (by
      have := DynsB.more hdy hq
      rw [List.take_append_drop] at this
      exact this)
    simp only [List.append_assoc] at this ⊢
    exact this
theorem slTo {A : Option Addr} {n c m : Nat} (hm : m ≤ n) (hc : n ≤ c) (w : World) : (Instr.slice 34 (.slice A n c) none (some (.int .i64 (m : Int))) none).run Try.prog w = .ok (.slice A m c) w := by
  obtain ⟨i0, hi, _⟩ := Option.map_eq_some_iff.1 infoSymP
  have := cut_to (P := Try.prog) 34 60 .i64 Try.underlying34 hi A n c (m : Int) (by omega) (by omega) hc w
  rw [Int.toNat_natCast] at this
  exact this
theorem slFrom {A : Option Addr} {n c m : Nat} (hm : m ≤ n) (w : World) : (Instr.slice 34 (.slice A n c) (some (.int .i64 (m : Int))) none none).run Try.prog w = .ok (.slice (if c = m then A else A.map (·.add (m * 2))) (n - m) (c - m)) w := by
  obtain ⟨i0, hi, hz⟩ := Option.map_eq_some_iff.1 infoSymP
  simp only [Prod.mk.injEq] at hz
  have := cut_from (P := Try.prog) 34 60 .i64 Try.underlying34 hi 2 hz.2.1 A n c (m : Int) (by omega) (by omega) w
  rw [Int.toNat_natCast] at this
  exact this
set_option maxRecDepth 100000 in
set_option maxHeartbeats 16000000 in
theorem byDynamic_ok {W : World} (A : Option Addr) (c : Nat) (xs : List (Nat × Nat)) (hr : RdL W A (xs.map toS)) (hc : xs.length ≤ c) (hx : ∀ x ∈ xs, SymV x) (hl : xs.length ≤ 2000000) :
    Calls Try.prog 18 #[.slice A xs.length c] W (PaQ (DynsB xs) W) := by
  have HR := Aside0.mk (And.intro hr hc)
  have HX := Aside0.mk hx
  have HL := Aside0.mk hl
  clear hr hc hx hl
  go_enter Try.func18, Try.ntmps18
  go_wp2_with fail
  refine (newWriter _).mono ?_
  rintro e w1 ⟨rfl, hi1, hb1⟩
  have HS1 : Aside0 (ByS W w1 xs xs A c 0 (.slice none 0 0) [] 0) := ⟨⟨WrS.mk hi1 hb1 (Nat.le_refl _), HR.out.1.below hb1, HR.out.2, HX.out, by show 0 + _ ≤ _; omega, by omega, Or.inl ⟨rfl, fun r h => h⟩⟩⟩
  clear hi1 hb1 HX
  go_wp2_with fail
  go_loopw [0, 4] (fun v0 v4 wr => ∃ (ys : List (Nat × Nat)) (A : Option Addr) (c lv : Nat) (v : Value) (l : List Bool) (K : Nat), v0 = .slice A ys.length c ∧ v4 = .int .i64 lv ∧ Aside0 (ByS W wr xs ys A c lv v l K)) (fun v0 v4 _ => (match v0 with | .slice _ n _ => n | _ => 0) + (1 - intOf v4).toNat)
  case atStart => exact ⟨xs, A, c, 0, _, _, 0, rfl, rfl, HS1⟩
  case round =>
    clear HS1 HR
    obtain ⟨ys, A, c, lv, v, l, K, rfl, rfl, HS⟩ := hrel
    rcases HS.out.rel with ⟨h0, hrel⟩ | ⟨h1, hd⟩
    · subst h0
      have HREL := Aside0.mk hrel
      have hlk := HS.out.lk
      have hys : ys.length ≤ 2000000 := by have := HL.out; omega
      have hK : K ≤ 200 := by have := HL.out; omega
      have HLN : Aside0 (l.length + 48 * ys.length ≤ 100000000) := ⟨by have := HS.out.ln; have := HL.out; omega⟩
      obtain ⟨n, hn⟩ : ∃ n, ys.length = n := ⟨_, rfl⟩
      obtain ⟨m, hm⟩ : ∃ m, min n 16384 = m := ⟨_, rfl⟩
      have hm2 : min 16384 n = m := by rw [Nat.min_comm]; exact hm
      have hmn : m ≤ n := by rw [← hm]; exact Nat.min_le_left _ _
      obtain ⟨r, hr⟩ : ∃ r, n - m = r := ⟨_, rfl⟩
      have s1 := fun w => slTo (A := A) hmn (hn ▸ HS.out.hc) w
      have s2 := fun w => slFrom (A := A) (c := c) hmn w
      rw [hr] at s2
      obtain ⟨A2, hA2⟩ : ∃ A2, (if c = m then A else A.map (·.add (m * 2))) = A2 := ⟨_, rfl⟩
      obtain ⟨c2, hc2⟩ : ∃ c2, c - m = c2 := ⟨_, rfl⟩
      rw [hA2, hc2] at s2
      have HD := Aside0.mk (HS.out.ro.drop (c := c) (m := m) (by omega) HS.out.hc)
      rw [hA2] at HD
      have HT := Aside0.mk (HS.out.ro.take (m := m) (by omega))
      have htl : (ys.take m).length = m := by rw [List.length_take]; omega
      have hdl : (ys.drop m).length = r := by rw [List.length_drop]; omega
      have HN := Aside0.mk (And.intro hn (And.intro hr (And.intro hm (And.intro hc2 (And.intro htl hdl)))))
      have HSV : Aside0 ((∀ x ∈ ys.take m, SymV x) ∧ ∀ x ∈ ys.drop m, SymV x) := ⟨⟨fun x hx => HS.out.sv x (List.mem_of_mem_take hx), fun x hx => HS.out.sv x (List.mem_of_mem_drop hx)⟩⟩
      by_cases hlast : n ≤ 16384
      · have hr0 : r = 0 := by omega
        have b1 : ((r : Int) == 0) = true := by rw [hr0]; rfl
        have b2 : (r == 0) = true := by rw [hr0]; rfl
        have HM := Aside0.mk hr0
        have hmin : ¬ (16384 : Int) < (n : Int) := by omega
        obtain rfl : m = n := by omega
        have HMN : Aside0 (m = ys.length) := ⟨hn.symm⟩
        clear hrel hlk htl hdl hr hr0 hm hm2
        have HP := Aside0.mk (bits_ok W.heap.size W.heap.size v l 1 1 wr HS.out.wr.iw (by decide) (by decide) (by have := HLN.out; omega) HS.out.wr.be.size)
        go_wp2_with fail
        refine HP.out.mono ?_
        rintro e w2 ⟨rfl, v2, hi, hf, _⟩
        have HS2 := Aside0.mk (HS.out.wr.step hi hf)
        have HD2 := Aside0.mk (HD.out.keepW HS.out.wr.iw hf)
        have HT2 := Aside0.mk (HT.out.keepW HS.out.wr.iw hf)
        clear hi hf HP HD HT
        have HP := Aside0.mk (bits_ok W.heap.size W.heap.size v2 _ 2 2 w2 HS2.out.iw (by decide) (by decide) (by have := HLN.out; rw [List.length_append, bitsOf_length]; omega) HS2.out.be.size)
        go_wp2_with fail
        refine HP.out.mono ?_
        rintro e w3 ⟨rfl, v3, hi, hf, _⟩
        have HS3 := Aside0.mk (HS2.out.step hi hf)
        have HD3 := Aside0.mk (HD2.out.keepW HS2.out.iw hf)
        have HT3 := Aside0.mk (HT2.out.keepW HS2.out.iw hf)
        clear hi hf HP HD2 HT2 HS2
        have HP := Aside0.mk (dynamic_ok HS3.out.iw HS3.out.be.size A c (ys.take m) HT3.out (by have := HN.out; have := HS.out.hc; omega) HSV.out.1 (by have := HLN.out; have := HN.out; simp only [List.length_append, bitsOf_length]; omega))
        rw [HN.out.2.2.2.2.1] at HP
        go_wp2_with fail
        refine HP.out.mono ?_
        rintro e w5 ⟨b, lens, dist, first, hdy, rfl, v5, hi, hf, _⟩
        have HI5 := Aside0.mk hi
        have HF5 := Aside0.mk hf
        clear hi hf
        have HS4 := Aside0.mk (HS3.out.step HI5.out HF5.out)
        have HD4 := Aside0.mk (HD3.out.keepW HS3.out.iw HF5.out)
        have HS5 := Aside0.mk (HS.out.last HREL.out HMN.out HN.out.2.2.2.1 hdy HS4.out HD4.out)
        have HFIN : Aside0 ((ys.drop m).length = r) := ⟨HN.out.2.2.2.2.2⟩
        clear hdy HI5 HF5 HP HS3 HD3 HT3 HS4 HD4 s1 s2
        go_wp2_with fail
        go_roundw
        case rel => exact ⟨ys.drop m, A2, c2, 1, v5, _, K + 1, by rw [HFIN.out], rfl, HS5⟩
        case measure => exact (show _ by simp [intOf]; have := HN.out; omega)
      · have hr0 : 0 < r := by omega
        have b1 : ((r : Int) == 0) = false := by simp; omega
        have b2 : (r == 0) = false := by simp; omega
        have HM : Aside0 (m = 16384 ∧ 0 < r) := ⟨⟨by omega, hr0⟩⟩
        have HMN : Aside0 (m ≤ ys.length) := ⟨by omega⟩
        have hmin : (16384 : Int) < (n : Int) := by omega
        have hm16 : m = 16384 := by omega
        have s1' : ∀ w, (Instr.slice 34 (.slice A n c) none (some (.int .i64 16384)) none).run Try.prog w = .ok (.slice A m c) w := fun w => by have := s1 w; rw [show (m : Int) = 16384 by omega] at this; exact this
        have s2' : ∀ w, (Instr.slice 34 (.slice A n c) (some (.int .i64 (m : Int))) none none).run Try.prog w = .ok (.slice A2 r c2) w := s2
        clear hrel hlk htl hdl hr hm16 hm hm2 s1
        have HP := Aside0.mk (bits_ok W.heap.size W.heap.size v l 0 1 wr HS.out.wr.iw (by decide) (by decide) (by have := HLN.out; omega) HS.out.wr.be.size)
        go_wp2_with fail
        refine HP.out.mono ?_
        rintro e w2 ⟨rfl, v2, hi, hf, _⟩
        have HS2 := Aside0.mk (HS.out.wr.step hi hf)
        have HD2 := Aside0.mk (HD.out.keepW HS.out.wr.iw hf)
        have HT2 := Aside0.mk (HT.out.keepW HS.out.wr.iw hf)
        clear hi hf HP HD HT
        have HP := Aside0.mk (bits_ok W.heap.size W.heap.size v2 _ 2 2 w2 HS2.out.iw (by decide) (by decide) (by have := HLN.out; rw [List.length_append, bitsOf_length]; omega) HS2.out.be.size)
        go_wp2_with fail
        refine HP.out.mono ?_
        rintro e w3 ⟨rfl, v3, hi, hf, _⟩
        have HS3 := Aside0.mk (HS2.out.step hi hf)
        have HD3 := Aside0.mk (HD2.out.keepW HS2.out.iw hf)
        have HT3 := Aside0.mk (HT2.out.keepW HS2.out.iw hf)
        clear hi hf HP HD2 HT2 HS2
        have HP := Aside0.mk (dynamic_ok HS3.out.iw HS3.out.be.size A c (ys.take m) HT3.out (by have := HN.out; have := HS.out.hc; omega) HSV.out.1 (by have := HLN.out; have := HN.out; simp only [List.length_append, bitsOf_length]; omega))
        rw [HN.out.2.2.2.2.1] at HP
        go_wp2_with fail
        refine HP.out.mono ?_
        rintro e w5 ⟨b, lens, dist, first, hdy, rfl, v5, hi, hf, _⟩
        have HI5 := Aside0.mk hi
        have HF5 := Aside0.mk hf
        clear hi hf
        have HS4 := Aside0.mk (HS3.out.step HI5.out HF5.out)
        have HD4 := Aside0.mk (HD3.out.keepW HS3.out.iw HF5.out)
        have HS5 := Aside0.mk (HS.out.more HREL.out HM.out.1 HMN.out HN.out.2.2.2.1 hdy HS4.out HD4.out)
        have HFIN : Aside0 ((ys.drop m).length = r) := ⟨HN.out.2.2.2.2.2⟩
        clear hdy HI5 HF5 HP HS3 HD3 HT3 HS4 HD4 s1' s2' s2
        go_wp2_with fail
        go_roundw
        case rel => exact ⟨ys.drop m, A2, c2, 0, v5, _, K + 1, by rw [HFIN.out], rfl, HS5⟩
        case measure => exact (show _ by simp [intOf]; have := HN.out; omega)
    · subst h1
      have HD := Aside0.mk hd
      clear hd
      go_wp2_with fail
      refine (w_done W.heap.size W.heap.size v l wr HS.out.wr.iw).mono ?_
      rintro e w2 ⟨z, rfl, hz, rfl⟩
      have HZ := Aside0.mk hz
      clear hz
      go_wp2_with fail
      go_ret
      exact ⟨z, l, rfl, HD.out, HZ.out, HS.out.wr.be⟩
end Go.Proofs.Ytaghmhcccighgaa.DF
end
section
/- A map from three bytes to a number. -/
namespace Go.Proofs.Ytaghmhcccighgaa.DF
open Go.RowKit Go.Proofs.YtaghmhcccighgaaW.PrintWords Go.Proofs.YtaghmhcccighgaaW.PrintLast Go.Proofs.YtaghmhcccighgaaW.PrintMore Go.Proofs.Ytaghmhcccighgaa.HW Go.Proofs.Ytaghmhcccighgaa.MB
def keyV (k : K3) : Value := .agg #[.int .u8 k.1, .int .u8 k.2.1, .int .u8 k.2.2]
theorem zeroInt (w : World) : (zeroValue 3).run Try.prog w = .ok (.int .i64 0) w := by kernel_rfl
theorem szU8 (w : World) : (sizeOf 5).run Try.prog w = .ok 1 w := by kernel_rfl
/-- Bytes. -/
def KOk (k : K3) : Prop := (0 ≤ k.1 ∧ k.1 < 256) ∧ (0 ≤ k.2.1 ∧ k.2.1 < 256) ∧ 0 ≤ k.2.2 ∧ k.2.2 < 256
def kb (k : K3) : List UInt8 := [UInt8.ofNat k.1.toNat, UInt8.ofNat k.2.1.toNat, UInt8.ofNat k.2.2.toNat]
theorem cell_u8 (x : Int) (h0 : 0 ≤ x) (h1 : x < 256) : Extern.Stop.cell (UInt8.ofNat x.toNat) = Value.int .u8 x := by
  unfold Extern.Stop.cell
  rw [UInt8.toNat_ofNat', Nat.mod_eq_of_lt (by show x.toNat < 256; omega)]
  exact congrArg (Value.int .u8) (Int.toNat_of_nonneg h0)
theorem keyV_kb {k : K3} (h : KOk k) : keyV k = .agg ((kb k).map Extern.Stop.cell).toArray := by
  unfold kb
  simp only [List.map_cons, List.map_nil]
  rw [cell_u8 _ h.1.1 h.1.2, cell_u8 _ h.2.1.1 h.2.1.2, cell_u8 _ h.2.2.1 h.2.2.2]
  rfl
theorem u8_inj {x y : Int} (h0 : 0 ≤ x) (h1 : x < 256) (h2 : 0 ≤ y) (h3 : y < 256) (e : UInt8.ofNat x.toNat = UInt8.ofNat y.toNat) : x = y := by
  have := congrArg UInt8.toNat e
  rw [UInt8.toNat_ofNat', UInt8.toNat_ofNat', Nat.mod_eq_of_lt (by show x.toNat < 256; omega), Nat.mod_eq_of_lt (by show y.toNat < 256; omega)] at this
  omega
theorem kb_beq {k j : K3} (h : KOk k) (h2 : KOk j) : (kb k == kb j) = decide (j = k) := by
  rw [Bool.eq_iff_iff, beq_iff_eq, decide_eq_true_iff]
  constructor
  · intro e
    unfold kb at e
    simp only [List.cons.injEq, and_true] at e
    obtain ⟨e1, e2, e3⟩ := e
    have := u8_inj h.1.1 h.1.2 h2.1.1 h2.1.2 e1
    have := u8_inj h.2.1.1 h.2.1.2 h2.2.1.1 h2.2.1.2 e2
    have := u8_inj h.2.2.1 h.2.2.2 h2.2.2.1 h2.2.2.2 e3
    refine Prod.ext ?_ (Prod.ext ?_ ?_) <;> simp_all
  · rintro rfl
    rfl
theorem eqKey (w : World) {k j : K3} (h : KOk k) (h2 : KOk j) : (Op.equal 78 (keyV k) (keyV j)).run Try.prog w = .ok (decide (j = k)) w := by
  rw [keyV_kb h, keyV_kb h2, ← kb_beq h h2]
  exact run_equalIn_bytes w 9998 78 5 3 Try.underlying78 Try.underlying5 szU8 (kb k) (kb j) rfl rfl
theorem checkKey3 (w : World) (e : Bool) (k : K3) : (Instr.checkKey e 10000 78 (keyV k)).run Try.prog w = .ok () w := by kernel_rfl
/-- Where a key stands. -/
def fnd : List (K3 × Int) → K3 → Nat → Option (Nat × Int)
  | [], _, _ => none
  | p :: t, k, i => if p.1 = k then some (i, p.2) else fnd t k (i + 1)
theorem run_asking (w : World) {k : K3} (hk : KOk k) : ∀ (es : List MapEntry) (l : List (K3 × Int)) (i : Nat), (∀ p ∈ l, KOk p.1) → es.map (fun e => (e.key, e.val)) = l.map (fun p => (keyV p.1, Value.int .i64 p.2)) →
    (Instr.findAsking 78 (keyV k) es i).run Try.prog w = .ok ((fnd l k i).map (fun x => (x.1, Value.int .i64 x.2))) w
  | [], l, i, _, h => by
    cases l with
    | nil => rfl
    | cons p t => simp at h
  | e :: es, l, i, hl, h => by
    cases l with
    | nil => simp at h
    | cons p t =>
      simp only [List.map_cons, List.cons.injEq, Prod.mk.injEq] at h
      obtain ⟨⟨h1, h2⟩, h3⟩ := h
      rw [Instr.findAsking, h1, Sem.run_bind, eqKey w hk (hl p (List.mem_cons_self ..)), fnd]
      simp only [Result.andThen_ok]
      by_cases hc : p.1 = k
      · rw [if_pos hc, h2]; simp [hc]
      · rw [if_neg hc]; simp only [hc, decide_false, Bool.false_eq_true, if_false]; exact run_asking w hk es t (i + 1) (fun q hq => hl q (List.mem_cons_of_mem _ hq)) h3
theorem run_find (w : World) {k : K3} (hk : KOk k) (es : List MapEntry) (l : List (K3 × Int)) (hl : ∀ p ∈ l, KOk p.1) (h : es.map (fun e => (e.key, e.val)) = l.map (fun p => (keyV p.1, Value.int .i64 p.2))) :
    (Instr.findKey 78 (keyV k) es).run Try.prog w = .ok ((fnd l k 0).map (fun x => (x.1, Value.int .i64 x.2))) w := by
  unfold Instr.findKey
  rw [Sem.run_bind, run_underlying Try.underlying78]
  simp only [Result.andThen_ok]
  cases es with
  | nil =>
    cases l with
    | nil => rfl
    | cons p t => simp at h
  | cons e es =>
    have : Instr.findNow (TypeDesc.array 3 5) (keyV k) (e :: es) 0 = none := rfl
    rw [this]
    exact run_asking w hk (e :: es) l 0 hl h
/-- Block m is a map of these entries. -/
def MapIs (W : World) (m : Nat) (l : List (K3 × Int)) : Prop :=
  (∃ es clock, W.heap[m]? = some (.map es clock) ∧ es.toList.map (fun e => (e.key, e.val)) = l.map (fun p => (keyV p.1, Value.int .i64 p.2))) ∧ ∀ p ∈ l, KOk p.1
theorem MapIs.lt {W : World} {m : Nat} {l : List (K3 × Int)} (h : MapIs W m l) : m < W.heap.size := by
  obtain ⟨⟨es, c, hb, _⟩, _⟩ := h
  exact blk_lt hb
theorem MapIs.move {W W' : World} {m : Nat} {l : List (K3 × Int)} (h : MapIs W m l) (hm : W'.heap[m]? = W.heap[m]?) : MapIs W' m l := by
  obtain ⟨⟨es, c, hb, r⟩, ho⟩ := h
  exact ⟨⟨es, c, hm.trans hb, r⟩, ho⟩
theorem mapIs_new (w : World) : MapIs (w.alloc (.map #[] 0)) w.heap.size [] := ⟨⟨#[], 0, Array.getElem?_push_size, rfl⟩, fun p h => by cases h⟩
/-- What a key has. -/
def look (l : List (K3 × Int)) (k : K3) : Option Int := (fnd l k 0).map (·.2)
theorem fnd_shift : ∀ (l : List (K3 × Int)) (k : K3) (i : Nat), fnd l k i = (fnd l k 0).map (fun x => (x.1 + i, x.2))
  | [], _, _ => rfl
  | p :: t, k, i => by
    rw [fnd, fnd]
    by_cases hk : p.1 = k
    · rw [if_pos hk, if_pos hk]; simp
    · rw [if_neg hk, if_neg hk, fnd_shift t k (i + 1), fnd_shift t k (0 + 1), Option.map_map]
      congr 1
      funext x
      show (x.1 + (i + 1), x.2) = (x.1 + (0 + 1) + i, x.2)
      rw [show x.1 + (i + 1) = x.1 + (0 + 1) + i by omega]
theorem look_nil (k : K3) : look [] k = none := rfl
theorem look_cons (p : K3 × Int) (t : List (K3 × Int)) (k : K3) : look (p :: t) k = if p.1 = k then some p.2 else look t k := by
  unfold look
  rw [fnd]
  by_cases hk : p.1 = k
  · rw [if_pos hk, if_pos hk]; rfl
  · rw [if_neg hk, if_neg hk, fnd_shift t k (0 + 1), Option.map_map]; rfl
/-- A key is put. -/
def putL : List (K3 × Int) → K3 → Int → List (K3 × Int)
  | [], k, v => [(k, v)]
  | p :: t, k, v => if p.1 = k then (k, v) :: t else p :: putL t k v
theorem look_put : ∀ (l : List (K3 × Int)) (k : K3) (v : Int) (j : K3), look (putL l k v) j = if j = k then some v else look l j
  | [], k, v, j => by
    rw [putL, look_cons, look_nil]
    by_cases h : k = j
    · rw [if_pos h, if_pos h.symm]
    · rw [if_neg h, if_neg (fun e => h e.symm)]
  | p :: t, k, v, j => by
    rw [putL]
    by_cases hp : p.1 = k
    · rw [if_pos hp, look_cons, look_cons]
      by_cases h : k = j
      · rw [if_pos h, if_pos h.symm]
      · rw [if_neg h, if_neg (fun e => h e.symm), if_neg (fun e => h (hp.symm.trans e))]
    · rw [if_neg hp, look_cons, look_cons, look_put t k v j]
      by_cases h : p.1 = j
      · rw [if_pos h, if_pos h, if_neg (fun e => hp (h.trans e))]
      · rw [if_neg h, if_neg h]
theorem put_ok3 {l : List (K3 × Int)} {k : K3} (v : Int) (hk : KOk k) : (∀ p ∈ l, KOk p.1) → ∀ p ∈ putL l k v, KOk p.1 := by
  induction l with
  | nil =>
    intro _ p hp
    rw [putL, List.mem_singleton] at hp
    subst hp
    exact hk
  | cons q t ih =>
    intro h p hp
    rw [putL] at hp
    by_cases hq : q.1 = k
    · rw [if_pos hq] at hp
      rcases List.mem_cons.1 hp with rfl | hp
      · exact hk
      · exact h p (List.mem_cons_of_mem _ hp)
    · rw [if_neg hq] at hp
      rcases List.mem_cons.1 hp with rfl | hp
      · exact h p (List.mem_cons_self ..)
      · exact ih (fun r hr => h r (List.mem_cons_of_mem _ hr)) p hp
theorem put_none : ∀ (l : List (K3 × Int)) (k : K3) (v : Int), fnd l k 0 = none → putL l k v = l ++ [(k, v)]
  | [], _, _, _ => rfl
  | p :: t, k, v, h => by
    rw [fnd] at h
    by_cases hp : p.1 = k
    · rw [if_pos hp] at h; cases h
    · rw [if_neg hp, fnd_shift] at h
      rw [putL, if_neg hp, put_none t k v (by simpa using h)]
      rfl
theorem put_some : ∀ (l : List (K3 × Int)) (k : K3) (v : Int) (i : Nat) (u : Int), fnd l k 0 = some (i, u) → putL l k v = l.modify i (fun _ => (k, v)) ∧ l[i]? = some (k, u)
  | [], _, _, _, _, h => by cases h
  | p :: t, k, v, i, u, h => by
    rw [fnd] at h
    by_cases hp : p.1 = k
    · rw [if_pos hp] at h
      injection h with h
      injection h with h1 h2
      subst h1
      subst h2
      rw [putL, if_pos hp]
      refine ⟨rfl, ?_⟩
      rw [← hp]
      rfl
    · rw [if_neg hp, fnd_shift] at h
      cases hf : fnd t k 0 with
      | none => rw [hf] at h; cases h
      | some x =>
        rw [hf] at h
        injection h with h
        injection h with h1 h2
        subst h1
        subst h2
        obtain ⟨e1, e2⟩ := put_some t k v x.1 x.2 hf
        rw [putL, if_neg hp, e1]
        exact ⟨rfl, e2⟩
theorem run_lookup_ok {W : World} {m : Nat} {l : List (K3 × Int)} (h : MapIs W m l) {a b c : Int} (hk : KOk (a, b, c)) : (Instr.lookup 56 (.map (some m)) (.agg #[.int .u8 a, .int .u8 b, .int .u8 c]) true).run Try.prog W = .ok (.tuple #[.int .i64 ((look l (a, b, c)).getD 0), .bool (look l (a, b, c)).isSome]) W := by
  obtain ⟨⟨es, c', hb, he⟩, hl⟩ := h
  have h2 := run_find W hk es.toList l hl he
  show (Instr.lookup 56 (.map (some m)) (keyV (a, b, c)) true).run Try.prog W = _
  unfold look
  cases hf : fnd l (a, b, c) 0 with
  | none =>
    rw [hf] at h2
    simp only [Instr.lookup, Sem.run_bind, run_underlying Try.underlying56, MapKept.run_getObj_map hb, checkKey3, h2, zeroInt, Result.andThen_ok, Option.map_none, Sem.run_pure]
    rfl
  | some x =>
    rw [hf] at h2
    simp only [Instr.lookup, Sem.run_bind, run_underlying Try.underlying56, MapKept.run_getObj_map hb, checkKey3, h2, Result.andThen_ok, Option.map_some, Sem.run_pure]
    rfl
theorem same_keyV (k : K3) : Instr.sameBits 10000 (keyV k) (keyV k) = true := by
  show (_ && _) = true
  simp [keyV, Instr.sameBits]
/-- A key is put. -/
theorem run_put {W : World} {m : Nat} {l : List (K3 × Int)} (h : MapIs W m l) {a b c : Int} (v : Int) (hk : KOk (a, b, c)) : ∃ W', (Instr.mapUpdate 56 (.map (some m)) (.agg #[.int .u8 a, .int .u8 b, .int .u8 c]) (.int .i64 v)).run Try.prog W = .ok () W' ∧ MapIs W' m (putL l (a, b, c) v) ∧ W.grownBy W' (some m) := by
  obtain ⟨⟨es, clk, hb, he⟩, hl⟩ := h
  have h2 := run_find W hk es.toList l hl he
  have hok := put_ok3 v hk hl
  cases hf : fnd l (a, b, c) 0 with
  | none =>
    rw [hf] at h2
    refine ⟨ChangeMaps.setBlock W m (.map (es.push { key := keyV (a, b, c), val := .int .i64 v, born := clk }) (clk + 1)), ?_, ⟨⟨es.push { key := keyV (a, b, c), val := .int .i64 v, born := clk }, clk + 1, ?_, ?_⟩, hok⟩, ?_⟩
    · show (Instr.mapUpdate 56 (.map (some m)) (keyV (a, b, c)) (.int .i64 v)).run Try.prog W = _
      simp only [Instr.mapUpdate, Sem.run_bind, run_underlying Try.underlying56, MapKept.run_getObj_map hb, checkKey3, h2, Result.andThen_ok, Option.map_none]
      rw [MapKept.run_setObj_map _ hb]
      rfl
    · simp only [ChangeMaps.setBlock]
      rw [Array.getElem?_setIfInBounds_self, if_pos (blk_lt hb)]
    · rw [Array.toList_push, List.map_append, he, put_none l _ v hf, List.map_append]; rfl
    · refine ⟨rfl, rfl, rfl, by simp [ChangeMaps.setBlock], fun i hi hne => ?_⟩
      have hne' : ¬ m = i := fun e => hne (by rw [e])
      simp [ChangeMaps.setBlock, hne']
  | some x =>
    rw [hf] at h2
    obtain ⟨p1, p2⟩ := put_some l _ v x.1 x.2 hf
    have hkey : (((es[x.1]?).map (·.key)).getD (keyV (a, b, c))) = keyV (a, b, c) := by
      have h3 := congrArg (fun z => z[x.1]?) he
      simp only [List.getElem?_map, p2, Option.map_some, Array.getElem?_toList] at h3
      cases hx : es[x.1]? with
      | none => rfl
      | some e =>
        rw [hx] at h3
        simp only [Option.map_some, Option.some.injEq, Prod.mk.injEq] at h3
        exact h3.1
    refine ⟨ChangeMaps.setBlock W m (.map (es.modify x.1 fun e => { e with key := keyV (a, b, c), val := .int .i64 v }) clk), ?_, ⟨⟨es.modify x.1 fun e => { e with key := keyV (a, b, c), val := .int .i64 v }, clk, ?_, ?_⟩, hok⟩, ?_⟩
    · show (Instr.mapUpdate 56 (.map (some m)) (keyV (a, b, c)) (.int .i64 v)).run Try.prog W = _
      simp only [Instr.mapUpdate, Sem.run_bind, run_underlying Try.underlying56, MapKept.run_getObj_map hb, checkKey3, h2, Result.andThen_ok, Option.map_some, hkey, Instr.keyThatStays, same_keyV, if_true, Sem.run_pure]
      rw [MapKept.run_setObj_map _ hb]
      rfl
    · simp only [ChangeMaps.setBlock]
      rw [Array.getElem?_setIfInBounds_self, if_pos (blk_lt hb)]
    · rw [p1, Array.toList_modify]
      refine List.ext_getElem? fun i => ?_
      have h3 := congrArg (fun z => z[i]?) he
      simp only [List.getElem?_map] at h3
      rw [List.getElem?_map, List.getElem?_map, List.getElem?_modify, List.getElem?_modify]
      by_cases hi : x.1 = i
      · subst hi
        rw [p2] at h3 ⊢
        cases hx : es.toList[x.1]? with
        | none => rw [hx] at h3; cases h3
        | some e => simp
      · simp only [hi, if_false]
        cases hx : es.toList[i]? with
        | none => rw [hx] at h3; rw [show l[i]? = none by cases hl2 : l[i]? with | none => rfl | some y => rw [hl2] at h3; cases h3]; rfl
        | some e =>
          rw [hx] at h3
          cases hl2 : l[i]? with
          | none => rw [hl2] at h3; cases h3
          | some y => rw [hl2] at h3; simpa using h3
    · refine ⟨rfl, rfl, rfl, by simp [ChangeMaps.setBlock], fun i hi hne => ?_⟩
      have hne' : ¬ m = i := fun e => hne (by rw [e])
      simp [ChangeMaps.setBlock, hne']
end Go.Proofs.Ytaghmhcccighgaa.DF
end
section
/- The matcher: key, note, best; walked. -/
namespace Go.Proofs.Ytaghmhcccighgaa.DF
open Go.RowKit Go.Proofs.YtaghmhcccighgaaW.PrintWords Go.Proofs.YtaghmhcccighgaaW.PrintLast Go.Proofs.YtaghmhcccighgaaW.PrintMore Go.Proofs.Ytaghmhcccighgaa.HW Go.Proofs.Ytaghmhcccighgaa.MB
attribute [local go_sem] max2_int min2_int max_two min_two max_three min_three max_four min_four   -- for this text's walks alone
theorem k3_ok (s : ByteArray) (i : Nat) : KOk (k3 s i) := ⟨bt_rng s _, bt_rng s _, bt_rng s _⟩
theorem bt_in (s : ByteArray) (i : Nat) (h : i < s.size) : bt s (i : Int) = (s[i].toNat : Int) := by
  unfold bt
  simp only [Int.toNat_natCast]
  rw [dif_pos h]
set_option maxRecDepth 100000 in
set_option maxHeartbeats 4000000 in
theorem key_ok (M : Nat) (s : ByteArray) (i : Nat) (W : World) (hc : W.cell? ⟨M, 0, none⟩ = some (.string s)) (hM : M < W.heap.size) (hi : i + 3 ≤ s.size) (hs : s.size ≤ 1000000000000000) :
    Calls Try.prog 43 #[.pointer (some ⟨M, 0, none⟩), .int .i64 i] W fun e w' => e = .returned (keyV (k3 s i)) ∧ Below W.heap.size W w' := by
  have hu := Try.underlying78
  have p0 : (0 : Int) ≤ (i : Int) := by omega
  have p1 : (i : Int) < (s.size : Int) := by omega
  have p2 : (i : Int) + 1 < (s.size : Int) := by omega
  have p3 : (i : Int) + 2 < (s.size : Int) := by omega
  have p4 : (i : Int) ≤ 1000000000000000 := by omega
  have u1 : IntKind.i64.wrap ((i : Int) + 1) = (i : Int) + 1 := IntWalk.i64_in _ (by omega)
  have u2 : IntKind.i64.wrap ((i : Int) + 2) = (i : Int) + 2 := IntWalk.i64_in _ (by omega)
  have u3 : ((i : Int) + 1).toNat = i + 1 := by omega
  have u4 : ((i : Int) + 2).toNat = i + 2 := by omega
  have u5 : (0 : Int) ≤ (i : Int) + 1 := by omega
  have u6 : (0 : Int) ≤ (i : Int) + 2 := by omega
  have h0 : i < s.size := by omega
  have h1 : i + 1 < s.size := by omega
  have h2 : i + 2 < s.size := by omega
  clear hi hs
  go_enter Try.func43, Try.ntmps43
  go_wp2_with fail
  go_region
  have e0 : bt s (i : Int) = (s[i].toNat : Int) := bt_in s i h0
  have e1 : bt s ((i : Int) + 1) = (s[i + 1].toNat : Int) := bt_in s (i + 1) h1
  have e2 : bt s ((i : Int) + 2) = (s[i + 2].toNat : Int) := bt_in s (i + 2) h2
  have HE : Aside0 (keyV (k3 s i) = .agg #[.int .u8 s[i].toNat, .int .u8 s[i + 1].toNat, .int .u8 s[i + 2].toNat]) := ⟨by unfold keyV k3; rw [e0, e1, e2]⟩
  clear e0 e1 e2
  go_wp2_with fail
  refine bodyPost_ret (results_single rfl (.cell W.heap.size 78 #[.int .u8 s[i].toNat, .int .u8 s[i + 1].toNat, .int .u8 s[i + 2].toNat] (0, 0) _ rfl (heap_alloc_new W _) Try.underlying78 rfl (by kernel_rfl) .nil)) rfl ?_
  exact ⟨by rw [HE.out], ((Fr.refl (fun _ => False) W).alloc _).drew.below (Nat.le_refl _) (fun _ h => h.elim)⟩
/-- A matcher that has noted the first places. -/
structure IsM (W : World) (B M m : Nat) (pv : Value) (s : ByteArray) (a : Nat) : Prop where
  bx : W.heap[M]? = some (.cells #[.string s, .map (some m), pv] 58 (0, 0))
  mp : ∃ l, MapIs W m l ∧ ∀ k, look l k = (lastK s k a).map (fun j : Nat => (j : Int))
  ro : ∃ ps, Kd.R (Kd.int .i64) 3 W B (fun _ => True) pv ps ∧ ps.length = s.size ∧ ∀ i, i < a → rd ps (i : Int) = prevOf s i
  hM : B ≤ M
  hm : B ≤ m
  sz : s.size ≤ 1000000000000000
/-- What note may write. -/
def MS (m : Nat) (pv : Value) (k : Nat) : Prop := k = m ∨ pv.ownBlock = some k
section
variable {W W' : World} {B M m : Nat} {pv : Value} {s : ByteArray} {a : Nat}
theorem IsM.lt (h : IsM W B M m pv s a) : M < W.heap.size := blk_lt h.bx
theorem IsM.c0 (h : IsM W B M m pv s a) : W.cell? ⟨M, 0, none⟩ = some (.string s) := (blk_cell h.bx 0).trans rfl
theorem IsM.c1 (h : IsM W B M m pv s a) : W.cell? ⟨M, 1, none⟩ = some (.map (some m)) := (blk_cell h.bx 1).trans rfl
theorem IsM.c2 (h : IsM W B M m pv s a) : W.cell? ⟨M, 2, none⟩ = some pv := (blk_cell h.bx 2).trans rfl
theorem IsM.mlt (h : IsM W B M m pv s a) : m < W.heap.size := by
  obtain ⟨l, hm, _⟩ := h.mp
  exact hm.lt
theorem IsM.mne (h : IsM W B M m pv s a) : M ≠ m := fun e => by
  obtain ⟨l, ⟨⟨es, c, hb, _⟩, _⟩, _⟩ := h.mp
  have := h.bx
  rw [e, hb] at this
  cases this
theorem IsM.pne (h : IsM W B M m pv s a) : pv.ownBlock ≠ some M := fun e => by
  obtain ⟨ps, hr, _⟩ := h.ro
  exact Kd.R_ne hr h.bx (by decide) e.symm
theorem IsM.pnm (h : IsM W B M m pv s a) : pv.ownBlock ≠ some m := fun e => by
  obtain ⟨l, ⟨⟨es, c, hb, _⟩, _⟩, _⟩ := h.mp
  obtain ⟨ps, hr, _⟩ := h.ro
  obtain ⟨_, inner, hown, _⟩ := hr
  obtain ⟨cells, hc⟩ := own_typed hown m e
  rw [hb] at hc
  cases hc
theorem IsM.keep {S : Nat → Prop} (h : IsM W B M m pv s a) (hf : Fr S W W') (h1 : ¬ S M) (h2 : ¬ S m) (h3 : ∀ k, pv.ownBlock = some k → ¬ S k) : IsM W' B M m pv s a := by
  obtain ⟨l, hm, hl⟩ := h.mp
  obtain ⟨ps, hr, hp⟩ := h.ro
  exact ⟨hf.blk h.bx h1, ⟨l, hm.move (hf.block m hm.lt h2), hl⟩, ⟨ps, Kd.R_mono (Kd.R_step (Kd.R_tight rfl hr) (fun k hk hlt => hf.block k hlt (h3 k hk.symm))) (fun _ _ => trivial), hp⟩, h.hM, h.hm, h.sz⟩
theorem IsM.below (h : IsM W B M m pv s a) (hb : Below W.heap.size W W') : IsM W' B M m pv s a := h.keep (Fr.of_below_all hb (fun _ => False)) (fun h => h) (fun h => h) (fun _ _ h => h)
end
end Go.Proofs.Ytaghmhcccighgaa.DF
end
section
/- The matcher's note; walked. -/
namespace Go.Proofs.Ytaghmhcccighgaa.DF
open Go.RowKit Go.Proofs.YtaghmhcccighgaaW.PrintWords Go.Proofs.YtaghmhcccighgaaW.PrintLast Go.Proofs.YtaghmhcccighgaaW.PrintMore Go.Proofs.Ytaghmhcccighgaa.HW Go.Proofs.Ytaghmhcccighgaa.MB
attribute [local go_sem] max2_int min2_int max_two min_two max_three min_three max_four min_four   -- for this text's walks alone
/-- note's state. -/
structure NoS (W w : World) (B M m g c : Nat) (s : ByteArray) (a : Nat) (x : Int) (l : List (K3 × Int)) : Prop where
  bx : w.heap[M]? = some (.cells #[.string s, .map (some m), .slice (some ⟨g, 0, none⟩) s.size c] 58 (0, 0))
  mp : MapIs w m l
  ro : ∃ ps, Kd.R (Kd.int .i64) 3 w B (fun _ => True) (.slice (some ⟨g, 0, none⟩) s.size c) ps ∧ ps.length = s.size ∧ (∀ i, i < a → rd ps (i : Int) = prevOf s i) ∧ rd ps (a : Int) = x
  fr : Fr (MS m (.slice (some ⟨g, 0, none⟩) s.size c)) W w
  Mm : M ≠ m
  Mg : M ≠ g
  mg : m ≠ g
  hM : B ≤ M
  hm : B ≤ m
  sz : s.size ≤ 1000000000000000
section
variable {W w w' : World} {B M m g c : Nat} {s : ByteArray} {a : Nat} {x : Int} {l : List (K3 × Int)}
theorem NoS.start (h : IsM W B M m (.slice (some ⟨g, 0, none⟩) s.size c) s a) : ∃ x l, NoS W W B M m g c s a x l ∧ ∀ k, look l k = (lastK s k a).map (fun j : Nat => (j : Int)) := by
  obtain ⟨l, hm, hl⟩ := h.mp
  obtain ⟨ps, hr, hn, hp⟩ := h.ro
  exact ⟨_, l, ⟨h.bx, hm, ⟨ps, hr, hn, hp, rfl⟩, Fr.refl _ _, h.mne, fun e => h.pne (by rw [e]; rfl), fun e => h.pnm (by rw [e]; rfl), h.hM, h.hm, h.sz⟩, hl⟩
theorem NoS.c0 (h : NoS W w B M m g c s a x l) : w.cell? ⟨M, 0, none⟩ = some (.string s) := (blk_cell h.bx 0).trans rfl
theorem NoS.c1 (h : NoS W w B M m g c s a x l) : w.cell? ⟨M, 1, none⟩ = some (.map (some m)) := (blk_cell h.bx 1).trans rfl
theorem NoS.c2 (h : NoS W w B M m g c s a x l) : w.cell? ⟨M, 2, none⟩ = some (.slice (some ⟨g, 0, none⟩) s.size c) := (blk_cell h.bx 2).trans rfl
theorem NoS.ca (h : NoS W w B M m g c s a x l) (ha : a < s.size) : w.cell? ⟨g, a, none⟩ = some (.int .i64 x) ∧ w.frozen? ⟨g, a, none⟩ = false := by
  obtain ⟨ps, hr, hn, _, hx⟩ := h.ro
  have := Kd.R_celln 0 hr (a : Int) (by omega) (by omega)
  rw [Int.toNat_natCast] at this
  rw [← hx]
  exact this
theorem NoS.lt (h : NoS W w B M m g c s a x l) : M < w.heap.size := blk_lt h.bx
theorem NoS.set (h : NoS W w B M m g c s a x l) (ha : a < s.size) (y : Int) : NoS W (w.setCell ⟨g, a, none⟩ (.int .i64 y)) B M m g c s a y l := by
  obtain ⟨ps, hr, hn, hp, hx⟩ := h.ro
  have hput := (Kd.R_putg hr (a : Int) y).1
  rw [Int.toNat_natCast] at hput
  refine ⟨blk_far h.bx (p := ⟨g, a, none⟩) h.Mg _, h.mp.move (Below.heap_setCell _ _ _ _ h.mg), ⟨ps.set a y, hput, by rw [List.length_set]; exact hn, fun i hi => ?_, ?_⟩, h.fr.setCell (p := ⟨g, a, none⟩) (Or.inl (Or.inr rfl)) _, h.Mm, h.Mg, h.mg, h.hM, h.hm, h.sz⟩
  · rw [rd_set _ _ _ _ (by omega), if_neg (by omega)]
    exact hp i hi
  · rw [rd_set _ _ _ _ (by omega), if_pos rfl]
theorem NoS.keep (h : NoS W w B M m g c s a x l) (hb : Below w.heap.size w w') : NoS W w' B M m g c s a x l := by
  obtain ⟨ps, hr, hn, hp, hx⟩ := h.ro
  exact ⟨(hb.block _ (blk_lt h.bx)).trans h.bx, h.mp.move (hb.block _ h.mp.lt), ⟨ps, Kd.R_mono (Kd.R_step (Kd.R_tight rfl hr) (fun k hk hlt => hb.block k hlt)) (fun _ _ => trivial), hn, hp, hx⟩, h.fr.add hb, h.Mm, h.Mg, h.mg, h.hM, h.hm, h.sz⟩
theorem NoS.put (h : NoS W w B M m g c s a x l) {l' : List (K3 × Int)} (hm : MapIs w' m l') (hg : w.grownBy w' (some m)) : NoS W w' B M m g c s a x l' := by
  obtain ⟨ps, hr, hn, hp, hx⟩ := h.ro
  have hfr := Fr.grown hg h.fr (fun k hk => Or.inl (Or.inl (Option.some.inj hk).symm))
  refine ⟨(hg.block M (blk_lt h.bx) (fun e => h.Mm (Option.some.inj e))).trans h.bx, hm, ⟨ps, Kd.R_mono (Kd.R_step (Kd.R_tight rfl hr) (fun k hk hlt => hg.block k hlt (fun e => ?_))) (fun _ _ => trivial), hn, hp, hx⟩, hfr, h.Mm, h.Mg, h.mg, h.hM, h.hm, h.sz⟩
  have hk2 : some k = some g := hk
  exact h.mg ((Option.some.inj e).symm.trans (Option.some.inj hk2))
theorem NoS.done (h : NoS W w B M m g c s a x l) (hx : x = prevOf s a) (hl : ∀ k, look l k = (lastK s k (a + 1)).map (fun j : Nat => (j : Int))) : IsM w B M m (.slice (some ⟨g, 0, none⟩) s.size c) s (a + 1) := by
  obtain ⟨ps, hr, hn, hp, hx2⟩ := h.ro
  refine ⟨h.bx, ⟨l, h.mp, hl⟩, ⟨ps, hr, hn, fun i hi => ?_⟩, h.hM, h.hm, h.sz⟩
  by_cases hia : i = a
  · subst hia; rw [hx2, hx]
  · exact hp i (by omega)
end
/-- What note comes to. -/
def NQ (W : World) (B M m : Nat) (pv : Value) (s : ByteArray) (a : Nat) (e : Ending) (w' : World) : Prop := e = .returned (.tuple #[]) ∧ IsM w' B M m pv s (a + 1) ∧ Fr (MS m pv) W w'
theorem lastK_end {s : ByteArray} {a : Nat} (h : ¬ a + 3 ≤ s.size) (k : K3) : lastK s k (a + 1) = lastK s k a := if_neg (fun h2 => h h2.1)
theorem lastK_put {s : ByteArray} {a : Nat} (h : a + 3 ≤ s.size) {l : List (K3 × Int)} (hl : ∀ k, look l k = (lastK s k a).map (fun j : Nat => (j : Int))) (k : K3) : look (putL l (k3 s a) (a : Int)) k = (lastK s k (a + 1)).map (fun j : Nat => (j : Int)) := by
  rw [look_put]
  unfold lastK
  by_cases hk : k3 s a = k
  · rw [if_pos hk.symm, if_pos ⟨h, hk⟩]; rfl
  · rw [if_neg (fun e => hk e.symm), if_neg (fun e => hk e.2)]; exact hl k
set_option maxRecDepth 100000 in
set_option maxHeartbeats 8000000 in
theorem note_ok {W : World} {B M m : Nat} {pv : Value} {s : ByteArray} {a : Nat} (h : IsM W B M m pv s a) (ha : a < s.size) :
    Calls Try.prog 32 #[.pointer (some ⟨M, 0, none⟩), .int .i64 a] W (NQ W B M m pv s a) := by
  obtain ⟨ps0, hr0, hn0, _⟩ := h.ro
  obtain ⟨g, c, hpv⟩ := HF.R_first hr0 (by omega)
  rw [hn0] at hpv
  subst hpv
  obtain ⟨x, l, hS, hl⟩ := NoS.start h
  have HS0 := Aside0.mk hS
  have HL := Aside0.mk hl
  have HA := Aside0.mk ha
  have c0 := hS.c0
  have c2 := hS.c2
  obtain ⟨ca, fa⟩ := hS.ca ha
  have hsz := hS.sz
  have p0 : (0 : Int) ≤ (a : Int) := by omega
  have p1 : (a : Int) < (s.size : Int) := by omega
  have p4 : (a : Int) ≤ 1000000000000000 := by omega
  have u1 : IntKind.i64.wrap ((a : Int) + 3) = (a : Int) + 3 := IntWalk.i64_in _ (by omega)
  have HS1 := Aside0.mk (hS.set ha (-1))
  clear hr0 hn0 hS hl ha
  by_cases h3 : a + 3 ≤ s.size
  · have b1 : decide ((s.size : Int) < (a : Int) + 3) = false := decide_eq_false (by omega)
    have H3 := Aside0.mk h3
    obtain ⟨⟨k0, k1, k2⟩, hk⟩ : ∃ k : K3, k3 s a = k := ⟨_, rfl⟩
    have hko : KOk (k0, k1, k2) := hk ▸ k3_ok s a
    have HK := Aside0.mk hk
    have HKO := Aside0.mk hko
    clear h3 h hk hko
    go_enter Try.func32, Try.ntmps32
    go_upto_region 1 with (fail)
    clear c0 c2 ca fa
    generalize W.setCell ⟨g, a, none⟩ (.int .i64 (-1)) = w1 at HS1 ⊢
    have c0 := HS1.out.c0
    have HKEY : Aside0 (∀ w', Below w1.heap.size w1 w' → Calls Try.prog 43 #[.pointer (some ⟨M, 0, none⟩), .int .i64 a] w' fun e w2 => e = .returned (.agg #[.int .u8 k0, .int .u8 k1, .int .u8 k2]) ∧ Below w'.heap.size w' w2) := ⟨fun w' hb => by
      have hN := HS1.out.keep hb
      have := key_ok M s a w' hN.c0 hN.lt H3.out hN.sz
      rw [HK.out] at this
      exact this⟩
    cases hlk : lastK s (k3 s a) a with
    | none =>
      have hS : ∀ w', Below w1.heap.size w1 w' → Below w1.heap.size w1 w' ∧ w'.cell? ⟨M, 1, none⟩ = some (.map (some m)) ∧ (Instr.lookup 56 (.map (some m)) (.agg #[.int .u8 k0, .int .u8 k1, .int .u8 k2]) true).run Try.prog w' = .ok (.tuple #[.int .i64 0, .bool false]) w' := fun w' hb => by
        have hN := HS1.out.keep hb
        refine ⟨hb, hN.c1, ?_⟩
        rw [run_lookup_ok hN.mp HKO.out, HL.out, ← HK.out, hlk]
        rfl
      have HSS := Aside0.mk hS
      have HLK := Aside0.mk hlk
      clear hS hlk
      go_wp2_with fail
      have b1 : Below w1.heap.size w1 w1.drew := below_drew (Below.refl _ _)
      go_region_held3 (fun w' => Below w1.heap.size w1 w' ∧ w'.cell? ⟨M, 1, none⟩ = some (.map (some m)) ∧ (Instr.lookup 56 (.map (some m)) (.agg #[.int .u8 k0, .int .u8 k1, .int .u8 k2]) true).run Try.prog w' = .ok (.tuple #[.int .i64 0, .bool false]) w') ((exact HSS.out _ (by assumption))) ((first | (go_at_call 43; refine (HKEY.out _ (by assumption)).mono ?_; rintro e w2 ⟨rfl, hb2⟩; have b2 := b1.trans (hb2.mono b1.size); clear hb2)))
      have HS2 := Aside0.mk (HS1.out.keep b2)
      have HKEY2 : Aside0 (∀ w', Fr (fun k => k = m) w2 w' → Calls Try.prog 43 #[.pointer (some ⟨M, 0, none⟩), .int .i64 a] w' fun e w3 => e = .returned (.agg #[.int .u8 k0, .int .u8 k1, .int .u8 k2]) ∧ Below w'.heap.size w' w3) := ⟨fun w' hf => by
        have hb := hf.blk HS2.out.bx HS2.out.Mm
        have := key_ok M s a w' ((blk_cell hb 0).trans rfl) (blk_lt hb) H3.out HS2.out.sz
        rw [HK.out] at this
        exact this⟩
      have HSS2 : Aside0 (∀ w', Fr (fun k => k = m) w2 w' → Fr (fun k => k = m) w2 w' ∧ w'.cell? ⟨M, 1, none⟩ = some (.map (some m))) := ⟨fun w' hf => ⟨hf, (blk_cell (hf.blk HS2.out.bx HS2.out.Mm) 1).trans rfl⟩⟩
      clear HKEY HSS HS1 c0 b1 b2
      go_wp2_with fail
      have b1 : Fr (fun k => k = m) w2 w2.drew := (Fr.refl _ _).drew
      go_region_held3 (fun w' => Fr (fun k => k = m) w2 w' ∧ w'.cell? ⟨M, 1, none⟩ = some (.map (some m))) ((exact HSS2.out _ (by assumption))) ((first | (go_at_call 43; refine (HKEY2.out _ (by assumption)).mono ?_; rintro e w3 ⟨rfl, hb3⟩; have hb4 := (below_drew (Below.refl w2.heap.size w2)).trans (hb3.mono (Nat.le_refl _)); have b2 := Fr.of_below_all hb4 (fun k => k = m); have HS3 := Aside0.mk (HS2.out.keep hb4); obtain ⟨w4, hr4, hm4, hg4⟩ := run_put HS3.out.mp (a : Int) HKO.out; have HS4 := Aside0.mk (HS3.out.put hm4 hg4); have b4 := Fr.grown hg4 b2 (fun k hk => Or.inl (Option.some.inj hk).symm); clear hb3 hb4 hm4 hg4)))
      refine bodyPost_end (results_none rfl _ _ _) rfl ⟨rfl, HS4.out.done ?_ (fun k => ?_), HS4.out.fr⟩
      · unfold prevOf
        rw [if_pos H3.out, HLK.out]
        rfl
      · rw [← HK.out]
        exact lastK_put H3.out HL.out k
    | some j =>
      have hS : ∀ w', Below w1.heap.size w1 w' → Below w1.heap.size w1 w' ∧ w'.cell? ⟨M, 1, none⟩ = some (.map (some m)) ∧ (Instr.lookup 56 (.map (some m)) (.agg #[.int .u8 k0, .int .u8 k1, .int .u8 k2]) true).run Try.prog w' = .ok (.tuple #[.int .i64 j, .bool true]) w' := fun w' hb => by
        have hN := HS1.out.keep hb
        refine ⟨hb, hN.c1, ?_⟩
        rw [run_lookup_ok hN.mp HKO.out, HL.out, ← HK.out, hlk]
        rfl
      have HSS := Aside0.mk hS
      have HLK := Aside0.mk hlk
      clear hS hlk
      go_wp2_with fail
      have b1 : Below w1.heap.size w1 w1.drew := below_drew (Below.refl _ _)
      go_region_held3 (fun w' => Below w1.heap.size w1 w' ∧ w'.cell? ⟨M, 1, none⟩ = some (.map (some m)) ∧ (Instr.lookup 56 (.map (some m)) (.agg #[.int .u8 k0, .int .u8 k1, .int .u8 k2]) true).run Try.prog w' = .ok (.tuple #[.int .i64 j, .bool true]) w') ((exact HSS.out _ (by assumption))) ((first | (go_at_call 43; refine (HKEY.out _ (by assumption)).mono ?_; rintro e w2 ⟨rfl, hb2⟩; have b2 := b1.trans (hb2.mono b1.size); clear hb2)))
      have HS2 := Aside0.mk (HS1.out.keep b2)
      clear HKEY HSS HS1 c0 b1 b2
      have c2 := HS2.out.c2
      obtain ⟨ca, fa⟩ := HS2.out.ca HA.out
      have HS5 := Aside0.mk (HS2.out.set HA.out (j : Int))
      clear HS2
      go_upto_region 5 with (fail)
      clear c2 ca fa
      generalize w2.setCell ⟨g, a, none⟩ (.int .i64 (j : Int)) = w5 at HS5 ⊢
      have HKEY2 : Aside0 (∀ w', Fr (fun k => k = m) w5 w' → Calls Try.prog 43 #[.pointer (some ⟨M, 0, none⟩), .int .i64 a] w' fun e w3 => e = .returned (.agg #[.int .u8 k0, .int .u8 k1, .int .u8 k2]) ∧ Below w'.heap.size w' w3) := ⟨fun w' hf => by
        have hb := hf.blk HS5.out.bx HS5.out.Mm
        have := key_ok M s a w' ((blk_cell hb 0).trans rfl) (blk_lt hb) H3.out HS5.out.sz
        rw [HK.out] at this
        exact this⟩
      have HSS2 : Aside0 (∀ w', Fr (fun k => k = m) w5 w' → Fr (fun k => k = m) w5 w' ∧ w'.cell? ⟨M, 1, none⟩ = some (.map (some m))) := ⟨fun w' hf => ⟨hf, (blk_cell (hf.blk HS5.out.bx HS5.out.Mm) 1).trans rfl⟩⟩
      go_wp2_with fail
      have b1 : Fr (fun k => k = m) w5 w5.drew := (Fr.refl _ _).drew
      go_region_held3 (fun w' => Fr (fun k => k = m) w5 w' ∧ w'.cell? ⟨M, 1, none⟩ = some (.map (some m))) ((exact HSS2.out _ (by assumption))) ((first | (go_at_call 43; refine (HKEY2.out _ (by assumption)).mono ?_; rintro e w3 ⟨rfl, hb3⟩; have hb4 := (below_drew (Below.refl w5.heap.size w5)).trans (hb3.mono (Nat.le_refl _)); have b2 := Fr.of_below_all hb4 (fun k => k = m); have HS3 := Aside0.mk (HS5.out.keep hb4); obtain ⟨w4, hr4, hm4, hg4⟩ := run_put HS3.out.mp (a : Int) HKO.out; have HS4 := Aside0.mk (HS3.out.put hm4 hg4); have b4 := Fr.grown hg4 b2 (fun k hk => Or.inl (Option.some.inj hk).symm); clear hb3 hb4 hm4 hg4)))
      refine bodyPost_end (results_none rfl _ _ _) rfl ⟨rfl, HS4.out.done ?_ (fun k => ?_), HS4.out.fr⟩
      · unfold prevOf
        rw [if_pos H3.out, HLK.out]
        rfl
      · rw [← HK.out]
        exact lastK_put H3.out HL.out k
  · have b1 : decide ((s.size : Int) < (a : Int) + 3) = true := decide_eq_true (by omega)
    have H3 := Aside0.mk h3
    clear h3 h
    go_enter Try.func32, Try.ntmps32
    go_upto_region 1 with (fail)
    clear c0 c2 ca fa
    generalize W.setCell ⟨g, a, none⟩ (.int .i64 (-1)) = w1 at HS1 ⊢
    have c0 := HS1.out.c0
    go_wp2_with fail
    refine bodyPost_ret (results_none rfl _ _ _) rfl ⟨rfl, HS1.out.done ?_ (fun k => ?_), HS1.out.fr⟩
    · unfold prevOf; rw [if_neg H3.out]
    · rw [lastK_end H3.out]; exact HL.out k
end Go.Proofs.Ytaghmhcccighgaa.DF
end
