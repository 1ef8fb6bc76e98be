/- SessionLarge: walked. -/
import Derived.Test.YtllgaikgpfionaaHAsk
import Derived.Test.YtllgaikgpfionaaWSQueue
import Derived.Test.YtllgaikgpfionaaPSes
namespace Go.Proofs.Ytllgaikgpfionaa.SM
open Go.RowKit Go.Proofs.YtllgaikgpfionaaW.PrintWords Go.Proofs.YtllgaikgpfionaaW.PrintLast Go.Proofs.YtllgaikgpfionaaW.PrintMore Go.Proofs.Ytllgaikgpfionaa.HW Go.Proofs.Ytllgaikgpfionaa.MB Go.Proofs.Ytllgaikgpfionaa.Fn
attribute [local go_sem] max2_int min2_int max_two min_two max_three min_three max_four min_four   -- for this text's walks alone
/-- The records that are asked for. -/
def lrec (k : Nat) (j : Nat) : S48 := ⟨(j : Int), ⟨#[107]⟩, strOfNums (List.replicate k 0), false⟩
def lrecs (k n : Nat) : List S48 := (List.range n).map (lrec k)
theorem lrecs_len (k n : Nat) : (lrecs k n).length = n := by simp [lrecs]
theorem lrecs_succ (k n : Nat) : lrecs k (n + 1) = lrecs k n ++ [lrec k n] := by simp [lrecs, List.range_succ]
theorem lrecs_at (k n i : Nat) (h : i < n) : (rd_T48 (lrecs k n) (i : Int)).f0 = i := by
  unfold rd_T48 lrecs
  rw [Int.toNat_natCast, List.getD_eq_getElem?_getD, List.getElem?_map, List.getElem?_range h]
  rfl
theorem infoRec : (Try.prog.info? 48).map (fun i => (i.zero, i.size, i.bytes)) = some (some (.agg #[(.int .i64 0), (.string ⟨#[]⟩), (.string ⟨#[]⟩), (.bool false)]), 4, 48) := by kernel_rfl
structure LS (W w : World) (B t m : Nat) (v vl : Value) (l : List S48) : Prop where
  be : Below B W w
  tb : IsT w B t m v aT0
  ro : Kd.R k48 48 w B (fun _ => True) vl l
theorem LS.grow {W w w1 : World} {B t m : Nat} {v vl vl1 : Value} {l l1 : List S48} (h : LS W w B t m v vl l) (hg : w.grownBy w1 vl.ownBlock) (hb : Below B W w1) (ho : Kd.R k48 48 w1 B (fun _ => True) vl1 l1) : LS W w1 B t m v vl1 l1 :=
  ⟨hb, h.tb.keep (Fr.grown hg (Fr.refl (fun k => vl.ownBlock = some k) w) (fun k hk => Or.inl hk)) (fun k hk e => by
    obtain ⟨cells, hc⟩ := R_typed h.ro k e
    exact h.tb.other hc (by decide) (by decide) hk), ho⟩
theorem LS.fresh {W w w1 : World} {B t m : Nat} {v vl : Value} {l : List S48} (h : LS W w B t m v vl l) (hg : w.grownBy w1 none) (hb : Below B W w1) : LS W w1 B t m v vl l :=
  ⟨hb, h.tb.keep (Fr.grown hg (Fr.refl (fun _ => False) w) (fun k hk => by cases hk)) (fun _ _ e => e), Kd.R_grown h.ro hg (fun k _ e => by cases e)⟩
theorem LS.base {W w : World} {B t m : Nat} {v vl : Value} {l : List S48} (h : LS W w B t m v vl l) : B ≤ w.heap.size := Nat.le_of_lt (Nat.lt_of_le_of_lt h.tb.ht h.tb.lt)
set_option maxRecDepth 100000 in
set_option maxHeartbeats 8000000 in
theorem slarge_walk (a : Int) (wa : (Lit.int .i64 a).wf = true) (b : Int) (wb : (Lit.int .i64 b).wf = true) (W : World) : Calls Try.prog 5 #[.int .i64 a, .int .i64 b] W fun e w' => e = .returned (.bool true) ∧ Below W.heap.size W w' := by
  have hu3 := Try.underlying30
  have hu5 := Try.underlying48
  obtain ⟨n, hn, hn'⟩ := and_any a 511 (by decide)
  obtain ⟨k, hk, hk'⟩ := and_any b 8191 (by decide)
  replace hn : Go.bits .and .i64 a 511 = n := hn
  replace hk : Go.bits .and .i64 b 8191 = k := hk
  have HN := Aside0.mk hn'
  have HK := Aside0.mk hk'
  clear wa wb hn' hk'
  obtain ⟨B, hB⟩ : ∃ B, W.heap.size = B := ⟨_, rfl⟩
  have HBG := Aside0.mk hB
  clear hB
  go_enter Try.func5, Try.ntmps5
  go_wp2_with fail
  refine (new_ok 1 W (by decide) (by decide)).mono ?_
  rintro e w1 ⟨t, m, rfl, h1, hb⟩
  rw [HBG.out] at h1 hb
  have HL := Aside0.mk (LS.mk (vl := .slice none 0 0) (l := []) hb h1 (Kd.R_nil _ _ _ _ _))
  clear h1 hb
  go_wp2_with fail
  clear hn hk
  go_loopw [9, 10] (fun v9 v10 wr => ∃ i : Nat, v10 = .int .i64 i ∧ i ≤ n ∧ Aside0 (LS W wr B t m (.slice none 0 0) v9 (lrecs k i))) (fun v9 v10 _ => n - (intOf v10).toNat)
  case atStart => exact ⟨0, rfl, Nat.zero_le _, HL⟩
  case round =>
    clear HL
    obtain ⟨i, rfl, hi, HL⟩ := hrel
    by_cases hlt : i < n
    · have hb1 : decide (i < n) = true := by simp; omega
      have HI := Aside0.mk hlt
      clear hlt
      have hk8 : k ≤ 8191 := HK.out
      have hi511 : i ≤ 511 := by have := HN.out; omega
      have hkk : 0 ≤ (k : Int) := by omega
      go_wp2_with (first | ((with_reducible refine gate_dst (N := 36) rfl ?_); refine Kd.R_make (Kd.int .u8) (w0 := W) B 5 rfl (N := 36) rfl 46 _ _ rfl (k : Int) rfl rfl Try.underlying46 (.int .u8 0) 1 info5 rfl (by decide) (by decide) 0 (ok := fun _ => True) (okp := fun _ => True) rfl (fun _ hk => hk) trivial hkk (by omega) HL.out.be HL.out.base ?_; intro v5 w5 ho hb hg hnew; have HL5 := Aside0.mk (HL.out.fresh hg hb); rw [Int.toNat_natCast] at ho; obtain ⟨zs, hzs⟩ : ∃ zs, List.replicate k (0 : Int) = zs := ⟨_, rfl⟩; rw [hzs] at ho; obtain ⟨A5, c5, e5⟩ := Kd.R_slice ho; subst e5; have hcv := Kd.C_string (P := Try.prog) (A := A5) (c := c5) Try.underlying46 Try.underlying5 Try.underlying9 (Kd.R_reads' ho).2.2; have HZS := Aside0.mk hzs; clear ho hb hg hnew hzs) | ((with_reducible refine gate_builtin (b := .append) (xs := #[.tmp 33, .tmp 39]) rfl ?_); at_builtin; refine Kd.R_append k48 (w0 := W) B rfl (.tmp 33) (.tmp 39) 31 48 (.agg #[.int .i64 0, .string ⟨#[]⟩, .string ⟨#[]⟩, .bool false]) 48 rfl Try.underlying31 infoRec rfl (by decide) (by decide) u9 (lrecs k i) ⟨(i : Int), ⟨#[107]⟩, strOfNums zs, false⟩ [.int .i64 i, .string ⟨#[107]⟩, .string (strOfNums zs), .bool false] (fun _ => True) (fun _ => False) rfl (by first | (go_simp; done) | (go_simp; rfl)) ?aP (fun _ hk => hk.elim) ?aF ?aO ?aB ?aS ?aL ?_; (case aP => exact k48_mkM _ _ _ _); (case aB => exact HL5.out.be); (case aF => exact (fun _ _ => trivial)); (case aO => exact HL5.out.ro); (case aS => exact HL5.out.base); (case aL => rw [lrecs_len]; have := HN.out; have := HI.out; omega); intro v9 w9 ho hb hg hat; have HL9 := Aside0.mk (HL5.out.grow hg hb ho); clear ho hb hg hat))
      have hz : lrecs k i ++ [⟨(i : Int), ⟨#[107]⟩, strOfNums zs, false⟩] = lrecs k (i + 1) := by rw [lrecs_succ, ← HZS.out]; rfl
      rw [hz] at HL9
      go_roundw
      case rel => exact ⟨i + 1, by simp, HI.out, HL9⟩
      case measure => simp [intOf]; have := HI.out; omega
    · have hie : i = n := by omega
      subst hie
      have hb1 : decide (i < i) = false := by simp
      obtain ⟨A, c, e9⟩ := Kd.R_slice HL.out.ro
      subst e9
      have hll := lrecs_len k i
      have hat : ∀ j : Nat, j < (lrecs k i).length → (rd_T48 (lrecs k i) (j : Int)).f0 = j := fun j hj => lrecs_at k i j (by omega)
      have hl1 := PZ.large_f (lrecs k i) (by have := HN.out; omega) hat
      have hl2 := PZ.rlarge_f (lrecs k i) (by have := HN.out; omega) hat
      obtain ⟨r, hr⟩ : ∃ r, PZ.largeR (lrecs k i) = r := ⟨_, rfl⟩
      obtain ⟨ls, hls⟩ : ∃ ls, lrecs k i = ls := ⟨_, rfl⟩
      rw [hr, hls] at hl1 hl2
      rw [hls] at HL ⊢
      have HL1 := Aside0.mk hl1
      have HL2 := Aside0.mk hl2
      clear hll hat hl1 hl2 hr hls hlt
      go_wp2_with fail
      have hrc := Kd.R_reads' HL.out.ro
      refine (ask_new HL.out.tb (by decide) (by decide) rfl A c ls hrc.2.2 hrc.2.1 _ r HL1.out).mono ?_
      rintro e w4 ⟨rfl, hb⟩
      unfold Bat.val Bat.zero
      simp only
      have hb2 := hb.trans ((below_alloc (Below.refl w4.heap.size w4) (.cells #[.int .i64 0, .int .i64 0, .int .i64 0, .int .i64 0, .int .i64 0, .slice none 0 0] 33)).mono hb.size)
      have HL5 := Aside0.mk (Kd.C_below hrc.2.2 hb2)
      have HB5 := Aside0.mk (HL.out.be.trans (hb2.mono HL.out.base))
      have HC := Aside0.mk hrc.2.1
      clear hb hb2 hrc
      cases r with
      | true =>
        go_wp2_with fail
        refine (postroadref15_Large.calls _ A c ls true _ HL5.out HC.out HL2.out).mono ?_
        rintro e w6 ⟨rfl, hb⟩
        have HB6 := Aside0.mk (HB5.out.trans (hb.mono (by have := HB5.out.size; have := HBG.out; omega)))
        clear hb HB5 HL5 HL
        go_wp2_with fail
        refine (awake_ok w6).mono ?_
        rintro e w7 ⟨rfl, hb⟩
        have HB7 := Aside0.mk (HB6.out.trans (hb.mono (by have := HB6.out.size; have := HBG.out; omega)))
        clear hb HB6
        go_wp2_with fail
        go_ret
        exact ⟨rfl, by rw [HBG.out]; exact HB7.out⟩
      | false =>
        go_wp2_with fail
        refine (postroadref15_Large.calls _ A c ls false _ HL5.out HC.out HL2.out).mono ?_
        rintro e w6 ⟨rfl, hb⟩
        have HB6 := Aside0.mk (HB5.out.trans (hb.mono (by have := HB5.out.size; have := HBG.out; omega)))
        clear hb HB5 HL5 HL
        go_wp2_with fail
        refine (awake_ok w6).mono ?_
        rintro e w7 ⟨rfl, hb⟩
        have HB7 := Aside0.mk (HB6.out.trans (hb.mono (by have := HB6.out.size; have := HBG.out; omega)))
        clear hb HB6
        go_wp2_with fail
        go_ret
        exact ⟨rfl, by rw [HBG.out]; exact HB7.out⟩
end Go.Proofs.Ytllgaikgpfionaa.SM
