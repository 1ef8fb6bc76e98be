/- huff.Codes, huff.Whole: walked. huff.Table: how it lies; slices.Clone: walked. huff.NewTable: walked. A reader's methods, each as what it does to the reader's block alone. huff.Table's goes: walked. huff.Table's Symbol: walked. huff.Whole: walked. -/
import Derived.Test.YteffjbjhkaobfaaGA
import Derived.Deep.RegionLaw
import Derived.Lib.SliceRun
namespace Go.Proofs.Yteffjbjhkaobfaa.HF
open Go.RowKit Go.Proofs.YteffjbjhkaobfaaW.PrintWords Go.Proofs.YteffjbjhkaobfaaW.PrintLast Go.Proofs.YteffjbjhkaobfaaW.PrintMore Go.Proofs.Yteffjbjhkaobfaa.HW Go.Proofs.Yteffjbjhkaobfaa.MB Go.Proofs.Yteffjbjhkaobfaa.Fn
attribute [local go_sem] max2_int min2_int max_two min_two max_three min_three max_four min_four   -- for this text's walks alone
theorem R_first {α : Type} {d : Kd α} {e : Nat} {w : World} {base : Nat} {ok : Nat → Prop} {v : Value} {xs : List α} (h : d.R e w base ok v xs) (hn : 0 < xs.length) : ∃ g c, v = .slice (some ⟨g, 0, none⟩) xs.length c := by
  obtain ⟨_, inner, ⟨_, hown⟩, _⟩ := h
  rcases hown with ⟨_, h0⟩ | ⟨g, cap, cur, hv, _⟩
  · omega
  · exact ⟨g, cap, hv⟩
def zeroObj : Obj := .cells #[.int .i64 0, .int .i64 0, .int .i64 0, .int .i64 0, .int .i64 0, .int .i64 0, .int .i64 0, .int .i64 0, .int .i64 0, .int .i64 0, .int .i64 0, .int .i64 0, .int .i64 0, .int .i64 0, .int .i64 0, .int .i64 0] 98
def outI (lens : List Int) (i : Nat) : List Int := (List.range lens.length).map (fun j => if j < i then codeAt lens j else 0)
theorem outI_len (lens : List Int) (i : Nat) : (outI lens i).length = lens.length := by unfold outI; rw [List.length_map, List.length_range]
theorem outI_zero (lens : List Int) : List.replicate lens.length (0 : Int) = outI lens 0 := by
  refine List.ext_getElem? fun j => ?_
  unfold outI
  rw [List.getElem?_replicate, List.getElem?_map]
  by_cases h : j < lens.length
  · rw [if_pos h, List.getElem?_range h]; rfl
  · rw [if_neg h, List.getElem?_eq_none (by rw [List.length_range]; omega)]; rfl
theorem outI_set (lens : List Int) (i : Nat) : (outI lens i).set i (codeAt lens i) = outI lens (i + 1) := by
  refine List.ext_getElem? fun j => ?_
  rw [List.getElem?_set, outI_len]
  unfold outI
  rw [List.getElem?_map, List.getElem?_map]
  by_cases h : j < lens.length
  · rw [List.getElem?_range h]
    by_cases hij : i = j
    · subst hij
      rw [if_pos rfl, if_pos h]
      show _ = some (if i < i + 1 then codeAt lens i else 0)
      rw [if_pos (Nat.lt_succ_self i)]
    · rw [if_neg hij]
      show some (if j < i then codeAt lens j else 0) = some (if j < i + 1 then codeAt lens j else 0)
      by_cases hji : j < i
      · rw [if_pos hji, if_pos (show j < i + 1 by omega)]
      · rw [if_neg hji, if_neg (show ¬ j < i + 1 by omega)]
  · rw [List.getElem?_eq_none (by rw [List.length_range]; omega)]
    split
    · split
      · omega
      · rfl
    · rfl
theorem outI_same (lens : List Int) (i : Nat) (h : codeAt lens i = 0) : outI lens i = outI lens (i + 1) := by
  unfold outI
  refine List.map_congr_left (fun j _ => ?_)
  by_cases h1 : j < i
  · rw [if_pos h1, if_pos (show j < i + 1 by omega)]
  · by_cases h2 : j = i
    · subst h2; rw [if_neg h1, if_pos (Nat.lt_succ_self j), h]
    · rw [if_neg h1, if_neg (show ¬ j < i + 1 by omega)]
theorem outI_all (lens : List Int) : outI lens lens.length = codesL lens := by
  unfold outI codesL
  exact List.map_congr_left (fun j hj => if_pos (List.mem_range.1 hj))
theorem okL_len {lens : List Int} (h : okL lens = true) : lens.length ≤ 288 ∧ (∀ x ∈ lens, 0 ≤ x ∧ x ≤ 15) := by
  unfold okL at h
  rw [Bool.and_eq_true, Bool.and_eq_true] at h
  exact ⟨of_decide_eq_true h.1, fun x hx => of_decide_eq_true (List.all_eq_true.1 h.2.1 x hx)⟩
/-- What Codes tells. -/
def DQ (lens : List Int) (W : World) (e : Ending) (w' : World) : Prop := ∃ v, e = .returned (.tuple #[v, .int .i64 (if okL lens then 0 else 30)]) ∧ Kd.R (Kd.int .i64) 3 w' W.heap.size (fun _ => True) v (if okL lens then codesL lens else []) ∧ Below W.heap.size W w'
/-- The state of Codes. -/
structure KS (W w : World) (q q2 : Nat) (f h : Nat → Int) : Prop where
  be : Below W.heap.size W w
  le : W.heap.size ≤ q2
  ne : q ≠ q2
  ar : IsArr w q f
  nx : IsArr w q2 h
theorem KS.set {W w : World} {q q2 : Nat} {f h : Nat → Int} (s : KS W w q q2 f h) (k : Nat) (v : Int) : KS W (w.setCell ⟨q2, k, none⟩ (.int .i64 v)) q q2 f (upd h k v) :=
  ⟨s.be.setCell s.le _, s.le, s.ne, (Below.heap_setCell _ _ _ _ s.ne).trans s.ar, s.nx.set k v⟩
theorem KS.congr {W w : World} {q q2 : Nat} {f h h' : Nat → Int} (s : KS W w q q2 f h) (e : ∀ k, k < 16 → h k = h' k) : KS W w q q2 f h' := ⟨s.be, s.le, s.ne, s.ar, s.nx.congr e⟩
theorem KS.below {W w w' : World} {q q2 : Nat} {f h : Nat → Int} (s : KS W w q q2 f h) (hb : Below w.heap.size w w') : KS W w' q q2 f h := ⟨s.be.trans (hb.mono s.be.size), s.le, s.ne, s.ar.below hb, s.nx.below hb⟩
set_option maxRecDepth 100000 in
set_option maxHeartbeats 8000000 in
theorem codes_any (A : Option Addr) (c : Nat) (lens : List Int) (W : World) (hr : Kd.C (Kd.int .i64) W A lens.length lens) (hc : lens.length ≤ c) : Calls Try.prog 62 #[.slice A lens.length c] W (DQ lens W) := by
  have hu := Try.underlying98
  have HR := Aside0.mk hr
  have HC := Aside0.mk (counts_any A c lens W hr hc)
  clear hr hc
  go_enter Try.func62, Try.ntmps62
  go_wp2_with fail
  refine HC.out.mono ?_
  rintro e w1 ⟨f, rfl, hf, hb⟩
  have HF := Aside0.mk hf
  have HB := Aside0.mk hb
  clear hf hb HC
  cases hok : okL lens with
  | false =>
    have HO := Aside0.mk hok
    clear hok
    go_wp2_with ((with_reducible refine gate_store (t := 98) (p := 4) (v := .tmp 14) rfl ?_); go_must (refine store_all rfl rfl rfl w1.heap.size (arrV (fun _ => 0)) (arrV f) 98 (by rfl) (by rfl) (IsArr.new w1) ((arrV_size _).trans (arrV_size _).symm) (by rw [arrV_size]; kernel_rfl) (arrV_one _) ?_); intro w9 hr1 hf6; have HF6 := Aside0.mk hf6; clear hr1 hf6)
    go_ret2
    exact ⟨_, (by rw [HO.out]; rfl), by rw [HO.out]; exact Kd.R_nil _ _ _ _ _, HB.out.trans (((below_alloc (Below.refl w1.heap.size w1) _).trans (HF6.out.below (by show _ ≤ (Array.push _ _).size; rw [Array.size_push]; omega) (fun k hk => by rw [hk]; exact Nat.le_refl _))).mono HB.out.size)⟩
  | true =>
    have HO := Aside0.mk hok
    have hl288 := (okL_len hok).1
    clear hok
    go_upto_region 4 with ((with_reducible refine gate_store (t := 98) (p := 4) (v := .tmp 14) rfl ?_); go_must (refine store_all rfl rfl rfl w1.heap.size (arrV (fun _ => 0)) (arrV f) 98 (by rfl) (by rfl) (IsArr.new w1) ((arrV_size _).trans (arrV_size _).symm) (by rw [arrV_size]; kernel_rfl) (arrV_one _) ?_); intro w9 hr1 hf6; have HR1 := Aside0.mk hr1; have HF6 := Aside0.mk hf6; clear hr1 hf6)
    have HB9 := Aside0.mk (HB.out.trans (((below_alloc (Below.refl w1.heap.size w1) _).trans (HF6.out.below (by show _ ≤ (Array.push _ _).size; rw [Array.size_push]; omega) (fun k hk => by rw [hk]; exact Nat.le_refl _))).mono HB.out.size))
    obtain ⟨q, hq⟩ : ∃ q, w1.heap.size = q := ⟨_, rfl⟩
    rw [hq] at HR1
    rw [hq]
    clear HF6 HB hq
    go_upto_region 5 with (fail)
    have HK0 := Aside0.mk (KS.mk (W := W) (w := w9.alloc zeroObj) (q := q) (q2 := w9.heap.size) (f := f) (h := fun _ => 0) (below_alloc HB9.out _) HB9.out.size (Nat.ne_of_lt (blk_lt HR1.out)) (IsArr.below HR1.out (below_alloc (Below.refl _ _) _)) (IsArr.new w9))
    unfold zeroObj at HK0
    obtain ⟨q2, hq2⟩ : ∃ q, w9.heap.size = q := ⟨_, rfl⟩
    rw [hq2] at HK0
    rw [hq2]
    clear hq2 HR1 HB9
    generalize w9.alloc (.cells #[.int .i64 0, .int .i64 0, .int .i64 0, .int .i64 0, .int .i64 0, .int .i64 0, .int .i64 0, .int .i64 0, .int .i64 0, .int .i64 0, .int .i64 0, .int .i64 0, .int .i64 0, .int .i64 0, .int .i64 0, .int .i64 0] 98) = w10 at HK0 ⊢
    go_wp2_with fail
    go_loopw [7] (fun v7 wr => ∃ l : Nat, v7 = .int .i64 l ∧ 1 ≤ l ∧ l ≤ 15 ∧ Aside0 (KS W wr q q2 f (fun k => if k ≤ l then nxt (fun l => cntL lens l) k else 0))) (fun v7 _ => 15 - (intOf v7).toNat)
    case atStart => exact ⟨1, rfl, by decide, by decide, ⟨HK0.out.congr (fun k _ => by
      show (0 : Int) = if k ≤ 1 then nxt _ k else 0
      split
      · rcases (show k = 0 ∨ k = 1 by omega) with rfl | rfl <;> rfl
      · rfl)⟩⟩
    case round =>
      clear HK0
      obtain ⟨l, rfl, hl1, hl2, HK⟩ := hrel
      by_cases hlt : l < 15
      · have hb1 : decide ((l : Int) < 15) = true := by simp; omega
        have c0 := HK.out.nx.cell l (by omega)
        have c1 := HK.out.nx.cell (l + 1) (by omega)
        have f1 := HK.out.nx.frozen (l + 1)
        have d0 := HK.out.ar.cell l (by omega)
        have hfl : f l = cntL lens l := by rw [HF.out HO.out l (by omega)]; unfold cA; rw [if_neg (by omega)]
        rw [hfl] at d0
        have hcb := cntL_nn lens (l : Int)
        have hnb := nxt_bd (f := fun l => cntL lens l) (fun l => ⟨(cntL_nn lens l).1, by have := (cntL_nn lens l).2; omega⟩) l
        have hp2 : (2 : Int) ^ l ≤ 32768 := by
          have := Nat.pow_le_pow_right (n := 2) (by decide) hl2
          have h2 : ((2 ^ l : Nat) : Int) ≤ 32768 := by exact_mod_cast this
          simpa using h2
        simp only [Nat.le_refl, if_true, show ¬ l + 1 ≤ l by omega, if_false] at c0 c1
        obtain ⟨n, hn⟩ : ∃ n, nxt (fun l => cntL lens l) l = n := ⟨_, rfl⟩
        obtain ⟨cn, hcn⟩ : ∃ n, cntL lens (l : Int) = n := ⟨_, rfl⟩
        rw [hn] at c0 hnb
        rw [hcn] at d0 hcb
        have hx : nxt (fun l => cntL lens l) (l + 1) = 2 * (n + cn) := by show (if l = 0 then 0 else 2 * (nxt (fun l => cntL lens l) l + cntL lens (l : Int))) = _; rw [if_neg (by omega), hn, hcn]
        have HX := Aside0.mk hx
        have hw1 : IntKind.i64.wrap (n + cn) = n + cn := IntWalk.i64_in _ (by omega)
        have hw2 : IntKind.i64.wrap (2 * (n + cn)) = 2 * (n + cn) := IntWalk.i64_in _ (by omega)
        have hw3 : IntKind.i64.wrap ((l : Int) + 1) = (l : Int) + 1 := IntWalk.i64_in _ (by omega)
        have q1 : (0 : Int) ≤ (l : Int) := by omega
        have q2' : (l : Int) < 16 := by omega
        have q3 : (0 : Int) ≤ (l : Int) + 1 := by omega
        have q4 : (l : Int) + 1 < 16 := by omega
        have q5 : ((l : Int) + 1).toNat = l + 1 := by omega
        have HI := Aside0.mk hlt
        clear hfl hcb hnb hp2 hn hcn hx hlt
        go_wp2_with fail
        go_region
        all_goals
          have HS2 := Aside0.mk ((HK.out.set (l + 1) (2 * (n + cn))).congr (h' := fun k => if k ≤ l + 1 then nxt (fun l => cntL lens l) k else 0) (fun k _ => by
            unfold upd
            by_cases h0 : k = l + 1
            · subst h0; rw [if_pos rfl, if_pos (Nat.le_refl _), HX.out]
            · rw [if_neg h0]
              show (if k ≤ l then _ else _) = _
              by_cases h1 : k ≤ l
              · rw [if_pos h1, if_pos (show k ≤ l + 1 by omega)]
              · rw [if_neg h1, if_neg (show ¬ k ≤ l + 1 by omega)]))
          go_wp2_with fail
          go_roundw
          case rel => exact ⟨l + 1, by simp, by omega, by have := HI.out; omega, ⟨HS2.out.below (below_drew (Below.refl _ _))⟩⟩
          case measure => simp [intOf]; have := HI.out; omega
      · have hle : l = 15 := by omega
        subst hle
        have hb1 : decide ((15 : Int) < 15) = false := by decide
        have HK2 := Aside0.mk (HK.out.congr (h' := fun k => if k = 0 then 0 else nxt (fun l => cntL lens l) k + cntL (lens.take 0) k) (fun k hk => by
          show (if k ≤ 15 then _ else _) = _
          rw [if_pos (by omega)]
          by_cases h0 : k = 0
          · subst h0; rfl
          · rw [if_neg h0, List.take_zero, cntL_nil, Int.add_zero]))
        clear hlt HK
        go_wp2_with ((with_reducible refine gate_dst (N := 35) rfl ?_); go_must (refine Kd.R_make (Kd.int .i64) (w0 := W) W.heap.size 3 rfl (N := 35) rfl 29 _ _ rfl (lens.length : Int) rfl rfl Try.underlying29 (.int .i64 0) 8 info3 rfl (by decide) (by decide) 0 (ok := fun _ => True) (okp := fun _ => True) rfl (fun _ hk => hk) trivial (by omega) (by omega) HK2.out.be HK2.out.be.size ?_); intro v8 w11 ho hb hg hnew; rw [Int.toNat_natCast, outI_zero] at ho; obtain ⟨b8, hb8, hb8'⟩ := hnew; have HO8 := Aside0.mk ho; have HB11 := Aside0.mk hb; have HK3 := Aside0.mk (KS.below (w' := w11) HK2.out ⟨hg.os, hg.tape, hg.output, hg.size, fun k hk => hg.block k hk (by simp)⟩); have HNB := Aside0.mk (show b8 ≠ q ∧ b8 ≠ q2 from ⟨fun e => by have := blk_lt HK2.out.ar; omega, fun e => by have := blk_lt HK2.out.nx; omega⟩); have HVB := Aside0.mk hb8; clear ho hb hg hb8 hb8'; obtain ⟨A8, c8, e8⟩ := Kd.R_slice HO8.out; rw [outI_len] at e8; subst e8)
        go_loopw [38] (fun v38 wr => ∃ i : Nat, v38 = .int .i64 i ∧ i ≤ lens.length ∧ Aside0 (KS W wr q q2 f (fun k => if k = 0 then 0 else nxt (fun l => cntL lens l) k + cntL (lens.take i) k)) ∧ Aside0 (Kd.R (Kd.int .i64) 3 wr W.heap.size (fun _ => True) (.slice A8 lens.length c8) (outI lens i))) (fun v38 _ => lens.length - (intOf v38).toNat)
        case atStart => exact ⟨0, rfl, Nat.zero_le _, HK3, HO8⟩
        case round =>
          clear HK3 HO8 HK2 HB11
          obtain ⟨i, rfl, hi, HK, HO8⟩ := hrel
          by_cases hlt : i < lens.length
          · have hb2 : decide ((i : Int) < (lens.length : Int)) = true := by simp; omega
            obtain ⟨ad1, hA1, x0⟩ := Kd.at_int (Kd.C_below HR.out HK.out.be) (i : Int) (by omega) (by omega)
            subst hA1
            simp only [Int.toNat_natCast] at x0
            obtain ⟨g8, c8', e8⟩ := R_first HO8.out (by rw [outI_len]; omega)
            rw [outI_len] at e8
            injection e8 with eA _ ec
            subst eA; subst ec
            have hgb : g8 = b8 := by have := HVB.out; injection this
            subst hgb
            have hxr := (okL_len HO.out).2 (rd lens (i : Int)) (by rw [rd_get lens i hlt]; exact List.getElem_mem _)
            have htk := take_rd lens i hlt
            have hca : codeAt lens i = if 0 < rd lens (i : Int) then nxt (fun l => cntL lens l) (rd lens (i : Int)).toNat + cntL (lens.take i) (rd lens (i : Int)) else 0 := by
              unfold codeAt
              have : lens.getD i 0 = rd lens (i : Int) := by unfold rd; rw [Int.toNat_natCast]
              rw [this]
            obtain ⟨x, hx⟩ : ∃ x, rd lens (i : Int) = x := ⟨_, rfl⟩
            rw [hx] at x0 hxr htk hca
            obtain ⟨m, rfl⟩ : ∃ m : Nat, x = m := ⟨x.toNat, by omega⟩
            have hm : m < 16 := by omega
            have q1 : (0 : Int) ≤ (i : Int) := by omega
            have q2' : (i : Int) < (lens.length : Int) := by omega
            have q3 : (0 : Int) ≤ (m : Int) := by omega
            have q4 : (m : Int) < 16 := by omega
            have HTK := Aside0.mk htk
            have HI := Aside0.mk hlt
            by_cases hm0 : m = 0
            · subst hm0
              have hb3 : decide ((0 : Int) < 0) = false := by decide
              have hs := outI_same lens i (by rw [hca]; rfl)
              have HO9 := HO8
              rw [hs] at HO9
              have HK9 := Aside0.mk (HK.out.congr (h' := fun k => if k = 0 then 0 else nxt (fun l => cntL lens l) k + cntL (lens.take (i + 1)) k) (fun k _ => by
                by_cases h0 : k = 0
                · show (if k = 0 then (0 : Int) else _) = if k = 0 then 0 else _
                  rw [if_pos h0, if_pos h0]
                · show (if k = 0 then (0 : Int) else _) = if k = 0 then 0 else _
                  rw [if_neg h0, if_neg h0, HTK.out, cntL_snoc, if_neg (show ¬ ((0 : Nat) : Int) = (k : Int) by omega), Int.add_zero]))
              clear hs hxr htk hca hx HO8 HK hlt
              have x0' : wr.cell? (ad1.add i) = some (.int .i64 0) := x0
              clear x0
              go_wp2_with fail
              go_roundw
              case rel => exact ⟨i + 1, by simp, HI.out, HK9, HO9⟩
              case measure => simp [intOf]; have := HI.out; omega
            · have hb3 : decide ((0 : Int) < (m : Int)) = true := by simp; omega
              have hb4 : 0 < m := by omega
              rw [if_pos (by omega), Int.toNat_natCast] at hca
              have c0 := HK.out.nx.cell m hm
              have f0 := HK.out.nx.frozen m
              have c0' : wr.cell? ⟨q2, m, none⟩ = some (.int .i64 (codeAt lens i)) := by rw [hca, c0]; show some (Value.int .i64 (if m = 0 then 0 else _)) = _; rw [if_neg hm0]
              have hcb := cntL_nn (lens.take i) (m : Int)
              have hnb := nxt_bd (f := fun l => cntL lens l) (fun l => ⟨(cntL_nn lens l).1, by have := (cntL_nn lens l).2; omega⟩) m
              have hp2 : (2 : Int) ^ m ≤ 32768 := by
                have := Nat.pow_le_pow_right (n := 2) (by decide) (show m ≤ 15 by omega)
                have h2 : ((2 ^ m : Nat) : Int) ≤ 32768 := by exact_mod_cast this
                simpa using h2
              have hcb2 : ((lens.take i).length : Int) ≤ 288 := by have h9 : (lens.take i).length ≤ lens.length := (by rw [List.length_take]; omega); omega
              obtain ⟨cv, hcv⟩ : ∃ z, codeAt lens i = z := ⟨_, rfl⟩
              have hcv2 : 0 ≤ cv ∧ cv ≤ 100000000 := by rw [← hcv, hca]; omega
              have hst := outI_set lens i
              rw [hcv] at c0' hst
              have hv1 := hcv2.1
              have hv2 := hcv2.2
              obtain ⟨y0, z0⟩ := Kd.R_celln 0 HO8.out (i : Int) (by omega) (by omega)
              simp only [Int.toNat_natCast] at y0 z0
              have hput := Kd.R_putg HO8.out (i : Int) cv
              simp only [Int.toNat_natCast] at hput
              rw [hst] at hput
              have HP := Aside0.mk hput
              have HCA := Aside0.mk (show cv = nxt (fun l => cntL lens l) m + cntL (lens.take i) m from by rw [← hcv, hca])
              have hM0 := Aside0.mk hm0
              clear hcb hnb hp2 hcb2 hcv hca hxr htk hx c0 hst hput hm0 hlt hcv2
              go_upto_region 15 with (fail)
              have HK4 := Aside0.mk (show KS W (wr.setCell ⟨g8, i, none⟩ (.int .i64 cv)) q q2 f (fun k => if k = 0 then 0 else nxt (fun l => cntL lens l) k + cntL (lens.take i) k) from ⟨HK.out.be.grown HP.out.2 HK.out.be.size (fun b hb => Kd.R_base HO8.out b (by rw [← hb]; rfl)), HK.out.le, HK.out.ne, (Below.heap_setCell _ _ _ _ (fun e => HNB.out.1 e.symm)).trans HK.out.ar, (Below.heap_setCell _ _ _ _ (fun e => HNB.out.2 e.symm)).trans HK.out.nx⟩)
              have HO4 := Aside0.mk HP.out.1
              have c0' : (wr.setCell ⟨g8, i, none⟩ (.int .i64 cv)).cell? ⟨q2, m, none⟩ = some (.int .i64 cv) := by
                rw [HK4.out.nx.cell m hm]
                show some (Value.int .i64 (if m = 0 then 0 else _)) = _
                rw [if_neg hM0.out, HCA.out]
              have f0 := HK4.out.nx.frozen m
              clear y0 z0 HK HO8 HP
              generalize wr.setCell ⟨g8, i, none⟩ (.int .i64 cv) = w12 at HK4 HO4 c0' f0 ⊢
              go_wp2_with fail
              have HK5 := Aside0.mk ((HK4.out.set m (cv + 1)).congr (h' := fun k => if k = 0 then 0 else nxt (fun l => cntL lens l) k + cntL (lens.take (i + 1)) k) (fun k _ => by
                unfold upd
                rw [HTK.out, cntL_snoc]
                by_cases h0 : k = m
                · subst h0
                  rw [if_pos rfl, if_neg hM0.out, if_pos rfl, HCA.out]
                  omega
                · rw [if_neg h0, if_neg (show ¬ (m : Int) = (k : Int) by omega)]
                  show (if k = 0 then (0 : Int) else _) = if k = 0 then 0 else _
                  rw [Int.add_zero]))
              have HO5 := Aside0.mk (Kd.R_set HO4.out HK4.out.nx (by decide) m (.int .i64 (cv + 1)))
              go_roundw
              case rel => exact ⟨i + 1, by simp, HI.out, HK5, HO5⟩
              case measure => simp [intOf]; have := HI.out; omega
          · have hie : i = lens.length := by omega
            subst hie
            have hb2 : decide ((lens.length : Int) < (lens.length : Int)) = false := by simp
            clear hlt
            go_wp2_with fail
            go_ret2
            exact ⟨_, (by rw [HO.out]; rfl), by rw [HO.out, ← outI_all]; exact HO8.out, HK.out.be⟩
end Go.Proofs.Yteffjbjhkaobfaa.HF
namespace Go.Proofs.Yteffjbjhkaobfaa.HF
open Go.RowKit Go.Proofs.YteffjbjhkaobfaaW.PrintWords Go.Proofs.YteffjbjhkaobfaaW.PrintLast Go.Proofs.YteffjbjhkaobfaaW.PrintMore Go.Proofs.Yteffjbjhkaobfaa.HW Go.Proofs.Yteffjbjhkaobfaa.MB Go.Proofs.Yteffjbjhkaobfaa.Fn
attribute [local go_sem] max2_int min2_int max_two min_two max_three min_three max_four min_four   -- for this text's walks alone
/-- The cells of a table. -/
def tabC (lv wv : Value) (f : Nat → Int) (sv : Value) (g : Int) : Array Value := #[lv, wv, .int .i64 (f 0), .int .i64 (f 1), .int .i64 (f 2), .int .i64 (f 3), .int .i64 (f 4), .int .i64 (f 5), .int .i64 (f 6), .int .i64 (f 7), .int .i64 (f 8), .int .i64 (f 9), .int .i64 (f 10), .int .i64 (f 11), .int .i64 (f 12), .int .i64 (f 13), .int .i64 (f 14), .int .i64 (f 15), sv, .int .i64 g]
def TabS (W : World) (t : Nat) (lv wv : Value) (f : Nat → Int) (sv : Value) (g : Int) : Prop := W.heap[t]? = some (.cells (tabC lv wv f sv g) 100 (0, 0))
section
variable {W W' : World} {t : Nat} {lv wv : Value} {f : Nat → Int} {sv : Value} {g : Int}
theorem TabS.c0 (h : TabS W t lv wv f sv g) : W.cell? ⟨t, 0, none⟩ = some lv := (blk_cell h 0).trans rfl
theorem TabS.c1 (h : TabS W t lv wv f sv g) : W.cell? ⟨t, 1, none⟩ = some wv := (blk_cell h 1).trans rfl
theorem TabS.c18 (h : TabS W t lv wv f sv g) : W.cell? ⟨t, 18, none⟩ = some sv := (blk_cell h 18).trans rfl
theorem TabS.c19 (h : TabS W t lv wv f sv g) : W.cell? ⟨t, 19, none⟩ = some (.int .i64 g) := (blk_cell h 19).trans rfl
theorem tabC_n (lv wv : Value) (f : Nat → Int) (sv : Value) (g : Int) : ∀ k, k < 16 → (tabC lv wv f sv g)[2 + k]? = some (.int .i64 (f k))
  | 0, _ => rfl
  | 1, _ => rfl
  | 2, _ => rfl
  | 3, _ => rfl
  | 4, _ => rfl
  | 5, _ => rfl
  | 6, _ => rfl
  | 7, _ => rfl
  | 8, _ => rfl
  | 9, _ => rfl
  | 10, _ => rfl
  | 11, _ => rfl
  | 12, _ => rfl
  | 13, _ => rfl
  | 14, _ => rfl
  | 15, _ => rfl
  | n + 16, h => absurd h (by omega)
theorem TabS.cn (h : TabS W t lv wv f sv g) (k : Nat) (hk : k < 16) : W.cell? ⟨t, 2 + k, none⟩ = some (.int .i64 (f k)) := (blk_cell h (2 + k)).trans (tabC_n lv wv f sv g k hk)
theorem TabS.fz (h : TabS W t lv wv f sv g) (i : Nat) : W.frozen? ⟨t, i, none⟩ = false := blk_frozen h i
theorem TabS.lt (h : TabS W t lv wv f sv g) : t < W.heap.size := blk_lt h
theorem TabS.set0 (h : TabS W t lv wv f sv g) (u : Value) : TabS (W.setCell ⟨t, 0, none⟩ u) t u wv f sv g := (blk_set h 0 u).trans rfl
theorem TabS.set18 (h : TabS W t lv wv f sv g) (u : Value) : TabS (W.setCell ⟨t, 18, none⟩ u) t lv wv f u g := (blk_set h 18 u).trans rfl
theorem TabS.set19 (h : TabS W t lv wv f sv g) (m : Int) : TabS (W.setCell ⟨t, 19, none⟩ (.int .i64 m)) t lv wv f sv m := (blk_set h 19 _).trans rfl
theorem TabS.setn0 (h : TabS W t lv wv f sv g) (m : Int) : TabS (W.setCell ⟨t, 2, none⟩ (.int .i64 m)) t lv wv (upd f 0 m) sv g := (blk_set h 2 _).trans rfl
theorem TabS.congr {f' : Nat → Int} (h : TabS W t lv wv f sv g) (e : ∀ k, k < 16 → f k = f' k) : TabS W t lv wv f' sv g := by
  unfold TabS tabC at h ⊢
  rw [h, e 0 (by omega), e 1 (by omega), e 2 (by omega), e 3 (by omega), e 4 (by omega), e 5 (by omega), e 6 (by omega), e 7 (by omega), e 8 (by omega), e 9 (by omega), e 10 (by omega), e 11 (by omega), e 12 (by omega), e 13 (by omega), e 14 (by omega), e 15 (by omega)]
theorem TabS.below (h : TabS W t lv wv f sv g) (hb : Below W.heap.size W W') : TabS W' t lv wv f sv g := (hb.block _ h.lt).trans h
theorem TabS.keep {S : Nat → Prop} (h : TabS W t lv wv f sv g) (hf : Fr S W W') (hn : ¬ S t) : TabS W' t lv wv f sv g := hf.blk h hn
/-- The array is written as a whole. -/
theorem TabS.setArr (h : TabS W t lv wv f sv g) (f' : Nat → Int) : TabS (W.setCells t 2 (arrV f').toList) t lv wv f' sv g := by
  obtain ⟨c', h1, h2, h3⟩ := setCells_blk (arrV f').toList 2 W _ h
  refine h1.trans (congrArg some (congrArg (fun c => Obj.cells c 100 (0, 0)) ?_))
  have e16 : (arrV f').toList.length = 16 := by rw [Array.length_toList, arrV_size]
  have e20 : (tabC lv wv f sv g).size = 20 := rfl
  refine Array.ext_getElem? fun i => ?_
  rw [h3 i, e16, e20]
  by_cases hi : 2 ≤ i ∧ i < 2 + 16 ∧ i < 20
  · rw [if_pos hi]
    obtain ⟨k, rfl⟩ : ∃ k, i = 2 + k := ⟨i - 2, by omega⟩
    rw [tabC_n lv wv f' sv g k (by omega), show 2 + k - 2 = k by omega, Array.getElem?_toList, arrV_get f' k (by omega)]
  · rw [if_neg hi]
    by_cases h20 : i < 20
    · rcases (show i = 0 ∨ i = 1 ∨ i = 18 ∨ i = 19 by omega) with rfl | rfl | rfl | rfl <;> rfl
    · rw [Array.getElem?_eq_none (by rw [e20]; omega), Array.getElem?_eq_none (by rw [show (tabC lv wv f' sv g).size = 20 from rfl]; omega)]
end
section
variable {P : Program} {ops : Array Oper} {rest : List Oper} {o : Oper} {a : Act} {Q : Exit → Act → World → Prop}
/-- A row of cells inside a block is written. -/
theorem store_seg {W : World} (hgd : o.guard = none) {t : TypeId} {p : Tmp} {v : Operand} (ho : o.op = .store t (.tmp p) v) (hN : o.dst = none) (g off : Nat) (cs cs' : Array Value) (ty : TypeId)
    (hx : a.eval (.tmp p) = .pointer (some ⟨g, off, none⟩)) (hv : a.eval v = .agg cs') (hg : W.heap[g]? = some (.cells cs ty (0, 0))) (hs : off + cs'.size ≤ cs.size) (hi : (P.info? t).map (·.size) = some cs'.size) (h1 : ∀ q ∈ cs'.toList, q.oneCell' = true)
    (h : wpList P ops Q rest a (W.setCells g off cs'.toList)) : wpList P ops Q (o :: rest) a W := by
  refine store_event hgd ho hN (w1 := W.setCells g off cs'.toList) ?_ (fun w' hw' => by subst hw'; exact h)
  have hr := run_store_run (P := P) (w := W) t (.agg cs') cs'.toList hg (o := off) (by rfl) (by rw [hi]; simp) (by simp; omega) h1
  simp only [execOp, ho, hx, hv, Sem.run_bind, hr, Result.andThen_ok, Sem.run_pure]
end
theorem nil_empty {W : World} {n : Nat} {xs : List Int} (h : Kd.C (Kd.int .i64) W none n xs) : xs = [] := by
  by_cases h0 : 0 < n
  · obtain ⟨ad, e, _⟩ := h.2.2 h0
    cases e
  · exact List.eq_nil_of_length_eq_zero (by have := h.1; omega)
/-- Slices.Clone: nil stays nil; else a row of one's own that is not nil. -/
def CloneQ (A : Option Addr) (lens : List Int) (W : World) (e : Ending) (w' : World) : Prop :=
  ∃ v, e = .returned v ∧ Kd.R (Kd.int .i64) 3 w' W.heap.size (fun _ => True) v lens ∧ ((A = none ∧ v = .slice none 0 0) ∨ ∃ b, v.ownBlock = some b) ∧ Below W.heap.size W w'
theorem eql_some (w : World) (ad : Addr) (n c : Nat) : (binOp .eql 29 (.slice (some ad) n c) (.slice none 0 0)).run Try.prog w = .ok (.bool false) w := Lib.run_eql_slice_nil w 29 3 (some ad) n c 0 0 Try.underlying29
theorem eql_none (w : World) (n c : Nat) : (binOp .eql 29 (.slice none n c) (.slice none 0 0)).run Try.prog w = .ok (.bool true) w := Lib.run_eql_slice_nil w 29 3 none n c 0 0 Try.underlying29
set_option maxRecDepth 100000 in
set_option maxHeartbeats 8000000 in
theorem clone_ok (A : Option Addr) (c : Nat) (lens : List Int) (W : World) (hr : Kd.C (Kd.int .i64) W A lens.length lens) (hl : lens.length ≤ 1000000) : Calls Try.prog 63 #[.slice A lens.length c] W (CloneQ A lens W) := by
  have HR := Aside0.mk hr
  have q1 := eql_some
  have q2 := eql_none
  clear hr
  cases A with
  | none =>
    obtain rfl := nil_empty HR.out
    go_enter Try.func63, Try.ntmps63
    go_wp2_with fail
    go_ret
    exact ⟨_, rfl, Kd.R_nil _ _ _ _ _, Or.inl ⟨rfl, rfl⟩, Below.refl _ _⟩
  | some ad =>
    have HB := Aside0.mk (Below.refl W.heap.size W)
    go_enter Try.func63, Try.ntmps63
    go_wp2_with (first | ((with_reducible refine gate_dst (N := 5) rfl ?_); (try (refine gate_guard (by rfl) ?_; dsimp only)); refine Kd.R_lit (Kd.int .i64) _ 3 ?hg (N := 5) ?hd (xs := ([] : List Int)) (inner := []) (ok := fun _ => True) (okp := fun _ => True) ?hr ?hp (fun _ hk => hk) trivial (Below.refl _ _) (Nat.le_refl _) (by simp) ?_; (case hd => rfl); (case hg => rfl); (case hr => first | (go_simp; done) | (go_simp; rfl)); (case hp => exact Reps.none _ _); intro v5 w5 ho hb hg hn; have HO := Aside0.mk ho; have HB := Aside0.mk hb; have HN := Aside0.mk hn; clear ho hb hg hn) | ((with_reducible refine gate_builtin (b := .append) (xs := #[.tmp 5, .tmp 6]) rfl ?_); at_builtin; refine Kd.R_append_rows (Kd.int .i64) (w0 := W) W.heap.size rfl (.tmp 5) (.tmp 6) 29 3 (.int .i64 0) 8 rfl Try.underlying29 info3 rfl (by decide) (by decide) v5 [] lens (some ad) lens.length c (fun _ => True) (fun _ => False) rfl (by first | (go_simp; done) | (go_simp; rfl)) HO.out (Kd.C_below HR.out HB.out) (fun _ _ h => h) (fun _ hk => hk.elim) (fun _ _ => trivial) HB.out HB.out.size (by simp only [List.length_nil]; omega) ?_; intro v9 w9 ho hb hg hat; have HR9 := Aside0.mk ho; have HB9 := Aside0.mk hb; have HAT := Aside0.mk hat; clear ho hb hg hat))
    go_ret
    refine ⟨_, rfl, HR9.out, Or.inr ?_, HB9.out⟩
    rcases HAT.out with h | ⟨b, h, _⟩
    · obtain ⟨b, hb, _⟩ := HN.out
      exact ⟨b, h.trans hb⟩
    · exact ⟨b, h⟩
end Go.Proofs.Yteffjbjhkaobfaa.HF
namespace Go.Proofs.Yteffjbjhkaobfaa.HF
open Go.RowKit Go.Proofs.YteffjbjhkaobfaaW.PrintWords Go.Proofs.YteffjbjhkaobfaaW.PrintLast Go.Proofs.YteffjbjhkaobfaaW.PrintMore Go.Proofs.Yteffjbjhkaobfaa.HW Go.Proofs.Yteffjbjhkaobfaa.MB Go.Proofs.Yteffjbjhkaobfaa.Fn
attribute [local go_sem] max2_int min2_int max_two min_two max_three min_three max_four min_four   -- for this text's walks alone
def cntN (lens : List Int) (k : Nat) : Int := if k = 0 then 0 else cntL lens k
/-- Block t is the table of lengths; all of it lies from B on. -/
structure IsTab (W : World) (B t : Nat) (lens : List Int) (lv wv sv : Value) : Prop where
  bt : TabS W t lv wv (cntN lens) sv (lngT lens 15)
  ht : B ≤ t
  rl : Kd.R (Kd.int .i64) 3 W B (fun _ => True) lv lens
  nn : ∃ b, lv.ownBlock = some b
  rw : Kd.R (Kd.int .i64) 3 W B (fun _ => True) wv (codesL lens)
  rs : Kd.R (Kd.int .i64) 3 W B (fun _ => True) sv (symsT lens 15)
/-- What NewTable tells. -/
def NTQ (lens : List Int) (W : World) (e : Ending) (w' : World) : Prop :=
  (okL lens = true → ∃ t lv wv sv, e = .returned (.tuple #[.pointer (some ⟨t, 0, none⟩), .int .i64 0]) ∧ IsTab w' W.heap.size t lens lv wv sv) ∧ (okL lens = false → e = .returned (.tuple #[.pointer none, .int .i64 30])) ∧ Below W.heap.size W w'
theorem row_keep {W W' : World} {B : Nat} {v : Value} {xs : List Int} (h : Kd.R (Kd.int .i64) 3 W B (fun _ => True) v xs) (hb : ∀ k, v.ownBlock = some k → k < W.heap.size → W'.heap[k]? = W.heap[k]?) : Kd.R (Kd.int .i64) 3 W' B (fun _ => True) v xs :=
  Kd.R_mono (Kd.R_step (Kd.R_tight rfl h) (fun k hk hlt => hb k hk.symm hlt)) (fun _ _ => trivial)
/-- The state of NewTable. -/
structure NTS (W w : World) (t : Nat) (lens : List Int) (lv wv sv : Value) (f : Nat → Int) (ys : List Int) (g : Int) : Prop where
  be : Below W.heap.size W w
  bt : TabS w t lv wv f sv g
  ht : W.heap.size ≤ t
  rl : Kd.R (Kd.int .i64) 3 w W.heap.size (fun _ => True) lv lens
  rw : Kd.R (Kd.int .i64) 3 w W.heap.size (fun _ => True) wv (codesL lens)
  rs : Kd.R (Kd.int .i64) 3 w W.heap.size (fun _ => True) sv ys
  dl : ∀ k, sv.ownBlock = some k → lv.ownBlock ≠ some k ∧ wv.ownBlock ≠ some k
section
variable {W w : World} {t : Nat} {lens : List Int} {lv wv sv : Value} {f : Nat → Int} {ys : List Int} {g : Int}
theorem NTS.below {w' : World} (h : NTS W w t lens lv wv sv f ys g) (hb : Below w.heap.size w w') : NTS W w' t lens lv wv sv f ys g :=
  ⟨h.be.trans (hb.mono h.be.size), h.bt.below hb, h.ht, row_keep h.rl (fun k _ hk => hb.block k hk), row_keep h.rw (fun k _ hk => hb.block k hk), row_keep h.rs (fun k _ hk => hb.block k hk), h.dl⟩
theorem NTS.ne (h : NTS W w t lens lv wv sv f ys g) : lv.ownBlock ≠ some t ∧ wv.ownBlock ≠ some t ∧ sv.ownBlock ≠ some t :=
  ⟨fun e => Kd.R_ne h.rl h.bt (by decide) e.symm, fun e => Kd.R_ne h.rw h.bt (by decide) e.symm, fun e => Kd.R_ne h.rs h.bt (by decide) e.symm⟩
/-- A cell of the table itself is written. -/
theorem NTS.cell (h : NTS W w t lens lv wv sv f ys g) (i : Nat) (u : Value) {f' : Nat → Int} {g' : Int} (hb : TabS (w.setCell ⟨t, i, none⟩ u) t lv wv f' sv g') : NTS W (w.setCell ⟨t, i, none⟩ u) t lens lv wv sv f' ys g' := by
  have hn := h.ne
  have hk : ∀ k, k ≠ t → (w.setCell ⟨t, i, none⟩ u).heap[k]? = w.heap[k]? := fun k e => Below.heap_setCell _ _ _ _ e
  exact ⟨h.be.setCell h.ht _, hb, h.ht, row_keep h.rl (fun k e _ => hk k (fun e2 => hn.1 (by rw [e, e2]))), row_keep h.rw (fun k e _ => hk k (fun e2 => hn.2.1 (by rw [e, e2]))), row_keep h.rs (fun k e _ => hk k (fun e2 => hn.2.2 (by rw [e, e2]))), h.dl⟩
theorem NTS.set19 (h : NTS W w t lens lv wv sv f ys g) (m : Int) : NTS W (w.setCell ⟨t, 19, none⟩ (.int .i64 m)) t lens lv wv sv f ys m := h.cell 19 _ (h.bt.set19 m)
theorem NTS.setn0 (h : NTS W w t lens lv wv sv f ys g) (m : Int) : NTS W (w.setCell ⟨t, 2, none⟩ (.int .i64 m)) t lens lv wv sv (upd f 0 m) ys g := h.cell 2 _ (h.bt.setn0 m)
theorem NTS.congr {f' : Nat → Int} (h : NTS W w t lens lv wv sv f ys g) (e : ∀ k, k < 16 → f k = f' k) : NTS W w t lens lv wv sv f' ys g := ⟨h.be, h.bt.congr e, h.ht, h.rl, h.rw, h.rs, h.dl⟩
theorem NTS.arr (h : NTS W w t lens lv wv sv f ys g) (f' : Nat → Int) : NTS W (w.setCells t 2 (arrV f').toList) t lens lv wv sv f' ys g := by
  have hn := h.ne
  have hF := setCells_fr (g := t) (arrV f').toList 2 w
  have hlt := h.bt.lt
  exact ⟨h.be.trans (hF.below h.be.size (fun k hk => by rw [hk]; exact h.ht)), h.bt.setArr f', h.ht, row_keep h.rl (fun k e hk => hF.block k hk (fun e2 => hn.1 (by rw [e, e2]))), row_keep h.rw (fun k e hk => hF.block k hk (fun e2 => hn.2.1 (by rw [e, e2]))), row_keep h.rs (fun k e hk => hF.block k hk (fun e2 => hn.2.2 (by rw [e, e2]))), h.dl⟩
theorem empty_row {W : World} {b q : Nat} (hb : b ≤ q) (hq : W.heap[q]? = some (.cells #[] 3 (0, 0))) : Kd.R (Kd.int .i64) 3 W b (fun _ => True) (.slice (some ⟨q, 0, none⟩) 0 0) [] :=
  ⟨fun _ _ => trivial, [], ⟨by simp, .inr ⟨q, 0, #[], rfl, hb, hq, Nat.zero_le _, by decide, by simp, by simp⟩⟩, ⟨by simp, fun j p hj => by simp at hj⟩⟩
/-- The lengths' field is written anew: a row without elements that is not nil. -/
theorem NTS.set0 (h : NTS W w t [] lv wv (.slice none 0 0) f ys g) {q : Nat} (hq : w.heap[q]? = some (.cells #[] 3 (0, 0))) (hqW : W.heap.size ≤ q) : NTS W (w.setCell ⟨t, 0, none⟩ (.slice (some ⟨q, 0, none⟩) 0 0)) t [] (.slice (some ⟨q, 0, none⟩) 0 0) wv (.slice none 0 0) f ys g := by
  have hn := h.ne
  have hk : ∀ k, k ≠ t → (w.setCell ⟨t, 0, none⟩ (.slice (some ⟨q, 0, none⟩) 0 0)).heap[k]? = w.heap[k]? := fun k e => Below.heap_setCell _ _ _ _ e
  have hqt : q ≠ t := fun e => by
    have := h.bt
    unfold TabS at this
    rw [← e, hq] at this
    cases this
  exact ⟨h.be.setCell h.ht _, h.bt.set0 _, h.ht, empty_row hqW ((hk q hqt).trans hq), row_keep h.rw (fun k e _ => hk k (fun e2 => hn.2.1 (by rw [e, e2]))), row_keep h.rs (fun k e _ => hk k (fun e2 => hn.2.2 (by rw [e, e2]))), fun k hk => by cases hk⟩
theorem NTS.grownT {w1 : World} (h : NTS W w t lens lv wv sv f ys g) (hg : w.grownBy w1 sv.ownBlock) : TabS w1 t lv wv f sv g := (hg.block t h.bt.lt (fun e => h.ne.2.2 e.symm)).trans h.bt
/-- A symbol is appended: the grown row, then the field. -/
theorem NTS.app {w1 : World} {sv1 : Value} {zs : List Int} (h : NTS W w t lens lv wv sv f ys g) (ho : Kd.R (Kd.int .i64) 3 w1 W.heap.size (fun _ => True) sv1 zs) (hb : Below W.heap.size W w1) (hg : w.grownBy w1 sv.ownBlock) (hat : sv1.ownBlock = sv.ownBlock ∨ ∃ b, sv1.ownBlock = some b ∧ w.heap.size ≤ b) :
    NTS W (w1.setCell ⟨t, 18, none⟩ sv1) t lens lv wv sv1 f zs g := by
  have hn := h.ne
  have bt1 : TabS w1 t lv wv f sv g := (hg.block t h.bt.lt (fun e => hn.2.2 e.symm)).trans h.bt
  have dl1 : ∀ k, sv1.ownBlock = some k → lv.ownBlock ≠ some k ∧ wv.ownBlock ≠ some k := fun k hk => by
    rcases hat with e | ⟨b, e, hbb⟩
    · exact h.dl k (e ▸ hk)
    · rw [hk] at e
      injection e with e
      subst e
      exact ⟨fun e => by have := Kd.R_lt h.rl k e; omega, fun e => by have := Kd.R_lt h.rw k e; omega⟩
  have n1 : NTS W w1 t lens lv wv sv1 f zs g → NTS W (w1.setCell ⟨t, 18, none⟩ sv1) t lens lv wv sv1 f zs g := fun n => n.cell 18 _ (by have := n.bt.set18 sv1; exact this)
  have r1 := row_keep h.rl (W' := w1) (fun k e hk => hg.block k hk (fun e2 => (h.dl k e2.symm).1 e))
  have r2 := row_keep h.rw (W' := w1) (fun k e hk => hg.block k hk (fun e2 => (h.dl k e2.symm).2 e))
  have hk : ∀ k, k ≠ t → (w1.setCell ⟨t, 18, none⟩ sv1).heap[k]? = w1.heap[k]? := fun k e => Below.heap_setCell _ _ _ _ e
  have n3 : sv1.ownBlock ≠ some t := fun e => Kd.R_ne ho bt1 (by decide) e.symm
  exact ⟨hb.setCell h.ht _, bt1.set18 sv1, h.ht, row_keep r1 (fun k e _ => hk k (fun e2 => hn.1 (by rw [e, e2]))), row_keep r2 (fun k e _ => hk k (fun e2 => hn.2.1 (by rw [e, e2]))), row_keep ho (fun k e _ => hk k (fun e2 => n3 (by rw [e, e2]))), dl1⟩
end
set_option maxRecDepth 100000 in
set_option maxHeartbeats 8000000 in
theorem newTable_ok (A : Option Addr) (c : Nat) (lens : List Int) (W : World) (hr : Kd.C (Kd.int .i64) W A lens.length lens) (hc : lens.length ≤ c) : Calls Try.prog 59 #[.slice A lens.length c] W (NTQ lens W) := by
  have HR := Aside0.mk hr
  have hu := Try.underlying100
  have q1 := eql_some
  have q2 := eql_none
  have HCC := Aside0.mk hc
  have HC := Aside0.mk (codes_any A c lens W hr hc)
  clear hr hc
  go_enter Try.func59, Try.ntmps59
  go_wp2_with fail
  refine HC.out.mono ?_
  rintro e w1 ⟨v1, rfl, hr1, hb1⟩
  have HR1 := Aside0.mk hr1
  have HB1 := Aside0.mk hb1
  clear hr1 hb1 HC
  cases hok : okL lens with
  | false =>
    have HO := Aside0.mk hok
    clear hok
    simp only [if_false, Bool.false_eq_true]
    go_wp2_with fail
    go_ret2
    exact ⟨(fun h => by rw [HO.out] at h; cases h), fun _ => rfl, HB1.out⟩
  | true =>
    have HO := Aside0.mk hok
    have HCL := Aside0.mk (clone_ok A c lens w1 (Kd.C_below HR.out HB1.out)  (by have := (okL_len hok).1; omega))
    rw [hok] at HR1
    clear hok
    simp only [if_true] at HR1 ⊢
    obtain ⟨wA, wk, rfl⟩ := Kd.R_slice HR1.out
    rw [codesL_len] at HR1 ⊢
    go_wp2_with fail
    refine HCL.out.mono ?_
    rintro e w2 ⟨v2, rfl, hr2, hn2, hb2⟩
    obtain ⟨lA, lc, rfl⟩ := Kd.R_slice hr2
    have HR2 := Aside0.mk hr2
    have HN2 := Aside0.mk hn2
    have HB2 := Aside0.mk hb2
    clear hr2 hn2 hb2 HCL
    go_upto_region 5 with (fail)
    have HN0 := Aside0.mk (show NTS W (w2.alloc (.cells #[.slice lA lens.length lc, .slice wA lens.length wk, .int .i64 0, .int .i64 0, .int .i64 0, .int .i64 0, .int .i64 0, .int .i64 0, .int .i64 0, .int .i64 0, .int .i64 0, .int .i64 0, .int .i64 0, .int .i64 0, .int .i64 0, .int .i64 0, .int .i64 0, .int .i64 0, .slice none 0 0, .int .i64 0] 100)) w2.heap.size lens (.slice lA lens.length lc) (.slice wA lens.length wk) (.slice none 0 0) (fun _ => 0) [] 0 from by
      have hb := below_alloc (Below.refl w2.heap.size w2) (.cells #[.slice lA lens.length lc, .slice wA lens.length wk, .int .i64 0, .int .i64 0, .int .i64 0, .int .i64 0, .int .i64 0, .int .i64 0, .int .i64 0, .int .i64 0, .int .i64 0, .int .i64 0, .int .i64 0, .int .i64 0, .int .i64 0, .int .i64 0, .int .i64 0, .int .i64 0, .slice none 0 0, .int .i64 0] 100)
      have hbW : Below W.heap.size W w2 := HB1.out.trans (HB2.out.mono HB1.out.size)
      refine ⟨hbW.trans (hb.mono hbW.size), heap_alloc_new w2 _, hbW.size, row_keep (Kd.R_lower HR2.out HB1.out.size) (fun k _ hk => hb.block k hk), row_keep (Kd.R_below HR1.out (HB2.out)) (fun k _ hk => hb.block k hk), Kd.R_nil _ _ _ _ _, fun k hk => by cases hk⟩)
    obtain ⟨t, ht⟩ : ∃ t, w2.heap.size = t := ⟨_, rfl⟩
    rw [ht] at HN0
    rw [ht]
    clear ht
    generalize w2.alloc (.cells #[.slice lA lens.length lc, .slice wA lens.length wk, .int .i64 0, .int .i64 0, .int .i64 0, .int .i64 0, .int .i64 0, .int .i64 0, .int .i64 0, .int .i64 0, .int .i64 0, .int .i64 0, .int .i64 0, .int .i64 0, .int .i64 0, .int .i64 0, .int .i64 0, .int .i64 0, .slice none 0 0, .int .i64 0] 100) = w3 at HN0 ⊢
    have hc0 := HN0.out.bt.c0
    clear HR1 HR2 HB1 HB2
    have hq : (binOp .eql 29 (.slice lA lens.length lc) (.slice none 0 0)).run Try.prog w3 = .ok (.bool lA.isNone) w3 := Lib.run_eql_slice_nil w3 29 3 lA lens.length lc 0 0 Try.underlying29
    go_upto_if 27 with (fail)
    go_cut [] (fun w => ∃ lv : Value, Aside0 (∃ b, lv.ownBlock = some b) ∧ Aside0 (NTS W w t lens lv (.slice wA lens.length wk) (.slice none 0 0) (fun _ => 0) [] 0))
    case first =>
      clear hc0 hq
      cases lA with
      | none =>
        have hz : lens = [] := by
          rcases HN2.out with ⟨h1, _⟩ | ⟨b, hb⟩
          · subst h1; exact nil_empty HR.out
          · cases hb
        subst hz
        have hB3 := below_alloc (Below.refl w3.heap.size w3) (.cells #[] 3)
        have hN1 := HN0.out.below hB3
        have d0 := hN1.bt.c0
        have f0 := hN1.bt.fz 0
        have HN1 := Aside0.mk hN1
        clear hN1 hB3
        go_wp2_with fail
        go_meet
        case rel => exact ⟨_, ⟨⟨w3.heap.size, rfl⟩⟩, ⟨HN1.out.set0 (heap_alloc_new w3 _) HN0.out.be.size⟩⟩
      | some ad =>
        go_wp2_with fail
        go_meet
        case rel => exact ⟨_, ⟨⟨ad.block, rfl⟩⟩, HN0⟩
    case rest =>
      clear HN0 hc0 hq HN2
      obtain ⟨lv, HV, HN0⟩ := hcut
      have HC2 := Aside0.mk (counts_any A c lens wc (Kd.C_below HR.out HN0.out.be) HCC.out)
      go_wp2_with fail
      refine HC2.out.mono ?_
      rintro e w4 ⟨f, rfl, hf, hb4⟩
      have HF := Aside0.mk (hf HO.out)
      have HN1 := Aside0.mk (HN0.out.below hb4)
      clear hf hb4 HC2 HN0
      go_upto_region 8 with (first | ((with_reducible refine gate_store (t := 98) (p := 39) (v := .tmp 36) rfl ?_); go_must (refine store_seg rfl rfl rfl t 2 (tabC lv (.slice wA lens.length wk) (fun _ => 0) (.slice none 0 0) 0) (arrV f) 100 (by rfl) (by rfl) HN1.out.bt (by rw [arrV_size]; show 2 + 16 ≤ 20; omega) (by rw [arrV_size]; kernel_rfl) (arrV_one _) ?_)))
      have HN2 := Aside0.mk (HN1.out.arr f)
      clear HN1
      generalize w4.setCells t 2 (arrV f).toList = w5 at HN2 ⊢
      have c2 : w5.cell? ⟨t, 2, none⟩ = some (.int .i64 (f 0)) := HN2.out.bt.cn 0 (by omega)
      have f2 := HN2.out.bt.fz 2
      have HN3 := Aside0.mk ((HN2.out.setn0 0).congr (f' := cntN lens) (fun k hk => by
        unfold upd cntN
        by_cases h0 : k = 0
        · rw [if_pos h0, if_pos h0]
        · rw [if_neg h0, if_neg h0, HF.out k hk]
          exact if_neg h0))
      go_upto_region 9 with (fail)
      generalize w5.setCell ⟨t, 2, none⟩ (.int .i64 0) = w6 at HN3 ⊢
      clear c2 f2 HN2
      go_wp2_with fail
      go_loopw [7] (fun v7 wr => ∃ l : Nat, v7 = .int .i64 l ∧ 1 ≤ l ∧ l ≤ 16 ∧ ∃ sv, Aside0 (NTS W wr t lens lv (.slice wA lens.length wk) sv (cntN lens) (symsT lens (l - 1)) (lngT lens (l - 1)))) (fun v7 _ => 16 - (intOf v7).toNat)
      case atStart => exact ⟨1, rfl, by decide, by decide, _, HN3⟩
      case round =>
        clear HN3
        obtain ⟨l, rfl, hl1, hl2, sv, HN⟩ := hrel
        by_cases hlt : l ≤ 15
        · have hb1 : decide ((l : Int) ≤ 15) = true := by simp; omega
          go_wp2_with fail
          go_loopw [50] (fun v50 wr => ∃ i : Nat, v50 = .int .i64 i ∧ i ≤ lens.length ∧ ∃ sv, Aside0 (NTS W wr t lens lv (.slice wA lens.length wk) sv (cntN lens) (symsT lens (l - 1) ++ idxL lens l i) (lngI lens l i (lngT lens (l - 1))))) (fun v50 _ => lens.length - (intOf v50).toNat)
          case atStart => exact ⟨0, rfl, Nat.zero_le _, sv, ⟨by have := HN.out; rw [show idxL lens l 0 = [] from rfl, List.append_nil, lngI_zero]; exact this⟩⟩
          case round =>
            clear HN
            obtain ⟨i, rfl, hi, sv, HN⟩ := hrel
            by_cases hlt2 : i < lens.length
            · have hb2 : decide ((i : Int) < (lens.length : Int)) = true := by simp; omega
              obtain ⟨ad1, hA1, x0⟩ := Kd.at_int (Kd.C_below HR.out HN.out.be) (i : Int) (by omega) (by omega)
              subst hA1
              simp only [Int.toNat_natCast] at x0
              have q1 : (0 : Int) ≤ (i : Int) := by omega
              have q2' : (i : Int) < (lens.length : Int) := by omega
              have hgd : lens.getD i 0 = rd lens (i : Int) := by unfold rd; rw [Int.toNat_natCast]
              have HGD := Aside0.mk hgd
              have hi288 : (i : Int) ≤ 288 := by have := (okL_len HO.out).1; omega
              have HI := Aside0.mk hlt2
              clear hgd
              obtain ⟨x, hx⟩ : ∃ x, rd lens (i : Int) = x := ⟨_, rfl⟩
              rw [hx] at x0 HGD
              clear hx
              by_cases hxl : x = (l : Int)
              · have hb3 : decide (x = (l : Int)) = true := decide_eq_true hxl
                have hYL : (symsT lens (l - 1) ++ idxL lens l i).length ≤ 100000 := by
                  have h1 := symsT_len lens (l - 1)
                  have h2 := idxL_len lens l i
                  have h3 := (okL_len HO.out).1
                  have h4 : (l - 1) * lens.length ≤ 15 * 288 := Nat.mul_le_mul (by omega) h3
                  rw [List.length_append]
                  omega
                have HY := Aside0.mk hYL
                have HX := Aside0.mk hxl
                have c18 := HN.out.bt.c18
                clear hYL hlt2
                go_upto_region 17 with ((with_reducible refine gate_builtin (b := .append) (xs := #[.tmp 62, .tmp 64]) rfl ?_); at_builtin; go_must (refine Kd.R_append (Kd.int .i64) (w0 := W) W.heap.size rfl (.tmp 62) (.tmp 64) 29 3 (.int .i64 0) 8 rfl Try.underlying29 info3 rfl (by decide) (by decide) sv (symsT lens (l - 1) ++ idxL lens l i) (i : Int) [.int .i64 (i : Int)] (fun _ => True) (fun _ => False) rfl rfl ?aP (fun _ hk => hk.elim) ?aF ?aO ?aB ?aS ?aL ?_); go_must ((case aP => exact rfl)); go_must ((case aF => exact (fun _ _ => trivial))); go_must ((case aO => exact HN.out.rs)); go_must ((case aB => exact HN.out.be)); go_must ((case aS => exact HN.out.be.size)); go_must ((case aL => have := HY.out; omega)); intro v65 w7 ho hb hg hat; obtain ⟨zs, hzs⟩ : ∃ z, symsT lens (l - 1) ++ idxL lens l i ++ [(i : Int)] = z := ⟨_, rfl⟩; rw [hzs] at ho; obtain ⟨A65, c65, rfl⟩ := Kd.R_slice ho; have HZ := Aside0.mk hzs; clear hzs; go_must (have hT7 := HN.out.grownT hg); have c18b := hT7.c18; have f18b := hT7.fz 18; go_must (have HN4 := Aside0.mk (HN.out.app ho hb hg hat)); clear ho hb hg hat hT7 c18)
                clear HN
                generalize w7.setCell ⟨t, 18, none⟩ (.slice A65 zs.length c65) = w8 at HN4 ⊢
                have c19 := HN4.out.bt.c19
                have f19 := HN4.out.bt.fz 19
                have HN5 := Aside0.mk (HN4.out.set19 l)
                have HN6 : Aside0 (NTS W (w8.setCell ⟨t, 19, none⟩ (.int .i64 (l : Int))) t lens lv (.slice wA lens.length wk) (.slice A65 zs.length c65) (cntN lens) (symsT lens (l - 1) ++ idxL lens l (i + 1)) (lngI lens l (i + 1) (lngT lens (l - 1)))) := ⟨by
                  have := HN5.out
                  rw [idxL_succ, HGD.out, if_pos HX.out, lngI_hit lens l i _ (by rw [HGD.out]; exact HX.out), ← List.append_assoc, HZ.out]
                  exact this⟩
                clear HN4 HN5 c18b f18b
                go_wp2_with fail
                go_roundw
                case rel => exact ⟨i + 1, by simp, HI.out, _, HN6⟩
                case measure => simp [intOf]; have := HI.out; omega
              · have hb3 : decide (x = (l : Int)) = false := decide_eq_false hxl
                have HX := Aside0.mk hxl
                have HN5 : Aside0 (NTS W wr t lens lv (.slice wA lens.length wk) sv (cntN lens) (symsT lens (l - 1) ++ idxL lens l (i + 1)) (lngI lens l (i + 1) (lngT lens (l - 1)))) := ⟨by
                  have := HN.out
                  rw [idxL_succ, HGD.out, if_neg HX.out, List.append_nil, lngI_miss lens l i _ (by rw [HGD.out]; exact HX.out)]
                  exact this⟩
                clear HN hlt2
                go_wp2_with fail
                go_roundw
                case rel => exact ⟨i + 1, by simp, HI.out, sv, HN5⟩
                case measure => simp [intOf]; have := HI.out; omega
            · have hie : i = lens.length := by omega
              subst hie
              have hb2 : decide ((lens.length : Int) < (lens.length : Int)) = false := by simp
              clear hlt2
              have HN5 : Aside0 (NTS W wr t lens lv (.slice wA lens.length wk) sv (cntN lens) (symsT lens (l + 1 - 1)) (lngT lens (l + 1 - 1))) := ⟨by
                have := HN.out
                obtain ⟨m, rfl⟩ : ∃ m, l = m + 1 := ⟨l - 1, by omega⟩
                simp only [Nat.add_sub_cancel] at this ⊢
                exact this⟩
              have hw3 : IntKind.i64.wrap ((l : Int) + 1) = (l : Int) + 1 := IntWalk.i64_in _ (by omega)
              have HL := Aside0.mk hlt
              clear HN hlt
              go_wp2_with fail
              go_roundw
              case rel => exact ⟨l + 1, by simp, by omega, by have := HL.out; omega, sv, HN5⟩
              case measure => simp [intOf]; have := HL.out; omega
        · have hle : l = 16 := by omega
          subst hle
          have hb1 : decide ((16 : Int) ≤ 15) = false := by decide
          clear hlt
          go_wp2_with fail
          go_ret2
          exact ⟨fun _ => ⟨t, lv, _, sv, rfl, HN.out.bt, HN.out.ht, HN.out.rl, HV.out, HN.out.rw, HN.out.rs⟩, (fun h => by rw [HO.out] at h; cases h), HN.out.be⟩
end Go.Proofs.Yteffjbjhkaobfaa.HF
namespace Go.Proofs.Yteffjbjhkaobfaa.HW
open Go.RowKit Go.Proofs.YteffjbjhkaobfaaW.PrintWords Go.Proofs.YteffjbjhkaobfaaW.PrintLast Go.Proofs.YteffjbjhkaobfaaW.PrintMore Go.Proofs.Yteffjbjhkaobfaa.MB Go.Proofs.Yteffjbjhkaobfaa.Fn Go.Proofs.Yteffjbjhkaobfaa.PR

/-- Block g: a reader of s that stands at a. -/
def IsR (W : World) (g : Nat) (s : ByteArray) (a : Nat) : Prop := W.heap[g]? = some (.cells #[.bool true, .string s, .int .i64 a] 64 (0, 0))
/-- No memory at all. -/
def bare (W : World) : World := { W with heap := #[] }
theorem bare_below (W : World) : Below (bare W).heap.size (bare W) W := ⟨rfl, rfl, rfl, Nat.zero_le _, fun k hk => absurd hk (Nat.not_lt_zero k)⟩
theorem IsR.is {W : World} {g : Nat} {s : ByteArray} {a : Nat} (h : IsR W g s a) : IsS64 (bare W) W g true s a := ⟨h, Nat.zero_le _⟩
theorem fr_of_keep {W w' : World} {g : Nat} (hb : Below (bare W).heap.size (bare W) w') (hk : KeepBut W w' g none) : Fr (fun k => k = g) W w' :=
  ⟨hb.os, hb.tape, hb.output, hk.1, fun k h1 h2 => hk.2 k h1 h2 (by simp)⟩
theorem IsR.keep {W W1 : World} {S : Nat → Prop} {g : Nat} {s : ByteArray} {a : Nat} (h : IsR W g s a) (hf : Fr S W W1) (hg : ¬ S g) : IsR W1 g s a := hf.blk h hg
theorem IsR.lt {W : World} {g : Nat} {s : ByteArray} {a : Nat} (h : IsR W g s a) : g < W.heap.size := blk_lt h
theorem newReader (s : ByteArray) (W : World) : Calls Try.prog 19 #[.string s] W fun e w' => ∃ g, e = .returned (.pointer (some ⟨g, 0, none⟩)) ∧ W.heap.size ≤ g ∧ IsR w' g s 0 ∧ Below W.heap.size W w' :=
  (bits_NewReader.calls s _ _ _ W W (Below.refl _ _) rfl).mono (by
    rintro e w' ⟨g, rfl, hI, hb, _⟩
    exact ⟨g, rfl, hI.2, hI.1, hb⟩)
theorem r_ok (g : Nat) (s : ByteArray) (a n : Nat) (W : World) (h : IsR W g s a) (hs : s.size ≤ 1000000000000000) (h57 : n ≤ 57) (hfit : a + n ≤ 8 * s.size) :
    Calls Try.prog 44 #[.pointer (some ⟨g, 0, none⟩), .int .i64 n] W fun e w' => e = .returned (.tuple #[.int .i64 (nb (sbit s) a n), .int .i64 0]) ∧ IsR w' g s (a + n) ∧ Fr (fun k => k = g) W w' := by
  have hf := reader_bits s hs a (by omega) n 60 (by omega)
  unfold rb at hf
  rw [if_neg (by omega), if_neg (by omega), Int.toNat_natCast] at hf
  refine (bits_Reader_Bits.calls 60 g _ _ _ _ _ _ _ _ _ (bare W) W h.is (bare_below W) hf).mono ?_
  rintro e w' ⟨rfl, hI, hb, hk⟩
  exact ⟨rfl, hI.1, fr_of_keep hb hk⟩
theorem r_short (g : Nat) (s : ByteArray) (a n : Nat) (W : World) (h : IsR W g s a) (hs : s.size ≤ 1000000000000000) (h57 : n ≤ 57) (ha : a ≤ 8 * s.size) (hfit : 8 * s.size < a + n) :
    Calls Try.prog 44 #[.pointer (some ⟨g, 0, none⟩), .int .i64 n] W fun e w' => e = .returned (.tuple #[.int .i64 0, .int .i64 5]) ∧ IsR w' g s a ∧ Fr (fun k => k = g) W w' := by
  have hf := reader_bits s hs a (by omega) n 60 (by omega)
  unfold rb at hf
  rw [if_neg (by omega), if_pos (by omega)] at hf
  refine (bits_Reader_Bits.calls 60 g _ _ _ _ _ _ _ _ _ (bare W) W h.is (bare_below W) hf).mono ?_
  rintro e w' ⟨rfl, hI, hb, hk⟩
  exact ⟨rfl, hI.1, fr_of_keep hb hk⟩
theorem r_place (g : Nat) (s : ByteArray) (a : Nat) (W : World) (h : IsR W g s a) :
    Calls Try.prog 21 #[.pointer (some ⟨g, 0, none⟩)] W fun e w' => e = .returned (.int .i64 a) ∧ IsR w' g s a ∧ Fr (fun k => k = g) W w' := by
  refine (bits_Reader_Place.calls g _ _ _ _ _ _ _ (bare W) W h.is (bare_below W) (reader_place s a)).mono ?_
  rintro e w' ⟨rfl, hI, hb, hk⟩
  exact ⟨rfl, hI.1, fr_of_keep hb hk⟩
end Go.Proofs.Yteffjbjhkaobfaa.HW
namespace Go.Proofs.Yteffjbjhkaobfaa.HF
open Go.RowKit Go.Proofs.YteffjbjhkaobfaaW.PrintWords Go.Proofs.YteffjbjhkaobfaaW.PrintLast Go.Proofs.YteffjbjhkaobfaaW.PrintMore Go.Proofs.Yteffjbjhkaobfaa.HW Go.Proofs.Yteffjbjhkaobfaa.MB Go.Proofs.Yteffjbjhkaobfaa.Fn
attribute [local go_sem] max2_int min2_int max_two min_two max_three min_three max_four min_four   -- for this text's walks alone
theorem rooms_nn' {lens : List Int} (ho : okL lens = true) {j : Nat} (hj : j ≤ 15) : 0 ≤ rooms (fun l => cntL lens l) j := by
  unfold okL at ho
  rw [Bool.and_eq_true, Bool.and_eq_true] at ho
  have h15 : 0 ≤ rooms (fun l => cntL lens l) 15 := of_decide_eq_true ho.2.2
  by_cases h : 0 ≤ rooms (fun l => cntL lens l) j
  · exact h
  · have := rooms_neg (f := fun l => cntL lens l) (fun l => (cntL_nn lens l).1) (i := j) (by omega) 15 hj
    omega
theorem eT_rooms (f : Nat → Int) : ∀ l, eT f l + rooms f l = 2 ^ l
  | 0 => by simp [eT, rooms]
  | l + 1 => by
    have := eT_rooms f l
    rw [eT_succ, Int.pow_succ]
    show 2 * eT f l + f (l + 1) + (2 * rooms f l - f (l + 1)) = _
    omega
theorem eT_bd {lens : List Int} (ho : okL lens = true) {l : Nat} (hl : l ≤ 15) : 0 ≤ eT (cF lens) l ∧ eT (cF lens) l ≤ 32768 := by
  have h1 := eT_rooms (cF lens) l
  have h2 := rooms_nn' ho hl
  have h3 : (2 : Int) ^ l ≤ 32768 := by
    have h1 := Nat.pow_le_pow_right (n := 2) (by decide) hl
    have h3 : ((2 ^ l : Nat) : Int) ≤ 32768 := Int.ofNat_le.2 (Nat.le_trans h1 (by decide))
    rw [Int.natCast_pow] at h3
    exact h3
  have h4 : ∀ l, 0 ≤ eT (cF lens) l := fun l => by
    induction l with
    | zero => simp [eT]
    | succ l ih => have := (cntL_nn lens ((l + 1 : Nat) : Int)).1; rw [eT_succ]; show 0 ≤ 2 * eT (cF lens) l + cntL lens ((l + 1 : Nat) : Int); omega
  have h5 : rooms (cF lens) l = rooms (fun l => cntL lens l) l := rfl
  exact ⟨h4 l, by omega⟩
theorem cntN_eq (lens : List Int) {m : Nat} (h : 1 ≤ m) : cntN lens m = cF lens m := if_neg (by omega)
theorem cF_bd {lens : List Int} (ho : okL lens = true) (m : Nat) : 0 ≤ cF lens m ∧ cF lens m ≤ 288 := by
  have h1 := cntL_nn lens (m : Int)
  have h2 := (okL_len ho).1
  unfold cF
  omega
theorem lngT_le (lens : List Int) : ∀ L, lngT lens L ≤ L
  | 0 => Nat.le_refl _
  | L + 1 => by
    have := lngT_le lens L
    unfold lngT lngI
    split <;> omega
theorem pow_bd {d : Nat} (h : d ≤ 15) : (1 : Int) ≤ 2 ^ d ∧ (2 : Int) ^ d ≤ 32768 := by
  have h1 := Nat.pow_le_pow_right (n := 2) (by decide) h
  have h2 := Nat.pow_pos (n := d) (show 0 < 2 by decide)
  have h3 : ((2 ^ d : Nat) : Int) ≤ 32768 := Int.ofNat_le.2 (Nat.le_trans h1 (by decide))
  have h4 : (1 : Int) ≤ ((2 ^ d : Nat) : Int) := Int.ofNat_le.2 h2
  rw [Int.natCast_pow] at h3 h4
  exact ⟨h4, h3⟩
theorem mul_bd2 {w p : Int} (h0 : 0 ≤ w) (h1 : w ≤ 100000) (h2 : 1 ≤ p) (h3 : p ≤ 32768) : 0 ≤ w * p ∧ w * p ≤ 3276800000 := by
  refine ⟨Int.mul_nonneg h0 (by omega), ?_⟩
  have := Int.mul_le_mul h1 h3 (by omega) (by decide)
  omega
set_option maxRecDepth 100000 in
set_option maxHeartbeats 8000000 in
theorem goes_ok {W : World} {B t : Nat} {lens : List Int} {lv wv sv : Value} (h : IsTab W B t lens lv wv sv) (ho : okL lens = true) (word : Int) (l : Nat) (h0 : 0 ≤ word) (h1 : word ≤ 100000) (hl : l < lngT lens 15) :
    Calls Try.prog 61 #[.pointer (some ⟨t, 0, none⟩), .int .i64 word, .int .i64 (eT (cF lens) l), .int .i64 l] W fun e w' => e = .returned (.bool (decide (word * 2 ^ (lngT lens 15 - l) < eT (cF lens) (lngT lens 15)))) ∧ W = w' := by
  have HB := Aside0.mk h.bt
  have HO := Aside0.mk ho
  have HG := Aside0.mk (lngT_le lens 15)
  have HL := Aside0.mk hl
  have HW := Aside0.mk (And.intro h0 h1)
  have c19 := h.bt.c19
  have hE := eT_bd ho (l := l) (by have := lngT_le lens 15; omega)
  have hlw : IntKind.i64.wrap ((l : Int) + 1) = (l : Int) + 1 := IntWalk.i64_in _ (by have := lngT_le lens 15; omega)
  have hl16 : (l : Int) < 16 := by have := lngT_le lens 15; omega
  clear h ho h0 h1 hl
  go_enter Try.func61, Try.ntmps61
  go_wp2_with fail
  go_loopw [1, 9, 10] (fun v1 v9 v10 wr => ∃ (m : Nat) (hi wd : Int), v10 = .int .i64 m ∧ v9 = .int .i64 hi ∧ v1 = .int .i64 wd ∧ Aside0 (l < m ∧ m ≤ lngT lens 15 + 1 ∧ hi = eT (cF lens) (m - 1) ∧ wd = word * 2 ^ (m - 1 - l)) ∧ W = wr) (fun _ _ v10 _ => 17 - (intOf v10).toNat)
  case atStart => exact ⟨l + 1, _, _, by simp, rfl, rfl, ⟨by omega, by have := HL.out; omega, by rw [Nat.add_sub_cancel], by rw [Nat.add_sub_cancel, Nat.sub_self, Int.pow_zero, Int.mul_one]⟩, rfl⟩
  case round =>
    obtain ⟨m, hi, wd, rfl, rfl, rfl, HM, hW⟩ := hrel
    subst hW
    have hm15 : m ≤ 16 := by have := HM.out.2.1; have := HG.out; omega
    have hib : 0 ≤ hi ∧ hi ≤ 32768 := by
      rw [HM.out.2.2.1]
      exact eT_bd HO.out (by omega)
    have hwb : 0 ≤ wd ∧ wd ≤ 3276800000 := by
      rw [HM.out.2.2.2]
      have := HM.out.1
      have p := pow_bd (d := m - 1 - l) (by omega)
      exact mul_bd2 HW.out.1 HW.out.2 p.1 p.2
    have hi0 := hib.1
    have hi1 := hib.2
    have hw0 := hwb.1
    have hw1 := hwb.2
    by_cases hlt : m ≤ lngT lens 15
    · have hb1 : decide ((m : Int) ≤ (lngT lens 15 : Int)) = true := by simp; omega
      have hbp : (m : Int) ≤ (lngT lens 15 : Int) := by omega
      have cm := HB.out.cn m (by have := HG.out; omega)
      rw [cntN_eq lens (by have := HM.out.1; omega)] at cm
      have hcb := cF_bd HO.out m
      obtain ⟨k, hk⟩ : ∃ k, cF lens m = k := ⟨_, rfl⟩
      rw [hk] at cm hcb
      have hk0 := hcb.1
      have hk1 := hcb.2
      have hm0 : (0 : Int) ≤ (m : Int) := by omega
      have hm16 : (m : Int) < 16 := by have := HG.out; omega
      have u1 : IntKind.i64.wrap (2 * hi) = 2 * hi := IntWalk.i64_in _ (by omega)
      have u2 : IntKind.i64.wrap (2 * hi + k) = 2 * hi + k := IntWalk.i64_in _ (by omega)
      have u3 : IntKind.i64.wrap (wd * 2) = wd * 2 := IntWalk.i64_in _ (by omega)
      have u4 : IntKind.i64.wrap ((m : Int) + 1) = (m : Int) + 1 := IntWalk.i64_in _ (by omega)
      have HK := Aside0.mk hk
      have HLT := Aside0.mk hlt
      clear hib hwb hcb hk hlt
      go_wp2_with fail
      go_roundw
      case rel => exact ⟨m + 1, _, _, by simp, rfl, rfl, ⟨by have := HM.out.1; omega, by have := HLT.out; omega, by
        obtain ⟨q, rfl⟩ : ∃ q, m = q + 1 := ⟨m - 1, by have := HM.out.1; omega⟩
        have e := HM.out.2.2.1
        rw [Nat.add_sub_cancel] at e ⊢
        rw [eT_succ, HK.out, e], by
        have e := HM.out.2.2.2
        rw [Nat.add_sub_cancel, e, show m - l = (m - 1 - l) + 1 by have := HM.out.1; omega, Int.pow_succ, Int.mul_assoc]⟩, by trivial⟩
      case measure => simp [intOf]; have := HLT.out; have := HG.out; omega
    · have hb1 : decide ((m : Int) ≤ (lngT lens 15 : Int)) = false := by simp; omega
      have hbp : ¬ (m : Int) ≤ (lngT lens 15 : Int) := by omega
      have HE := Aside0.mk (show m - 1 = lngT lens 15 by have := HM.out.2.1; omega)
      obtain rfl : hi = eT (cF lens) (lngT lens 15) := by rw [HM.out.2.2.1, HE.out]
      obtain rfl : wd = word * 2 ^ (lngT lens 15 - l) := by rw [HM.out.2.2.2, HE.out]
      clear hib hwb hlt
      go_wp2_with fail
      go_ret
      exact ⟨rfl, rfl⟩
end Go.Proofs.Yteffjbjhkaobfaa.HF
namespace Go.Proofs.Yteffjbjhkaobfaa.HF
open Go.RowKit Go.Proofs.YteffjbjhkaobfaaW.PrintWords Go.Proofs.YteffjbjhkaobfaaW.PrintLast Go.Proofs.YteffjbjhkaobfaaW.PrintMore Go.Proofs.Yteffjbjhkaobfaa.HW Go.Proofs.Yteffjbjhkaobfaa.MB Go.Proofs.Yteffjbjhkaobfaa.Fn
attribute [local go_sem] max2_int min2_int max_two min_two max_three min_three max_four min_four   -- for this text's walks alone
/-- The table's own blocks. -/
def TabB (t : Nat) (lv wv sv : Value) (k : Nat) : Prop := k = t ∨ lv.ownBlock = some k ∨ wv.ownBlock = some k ∨ sv.ownBlock = some k
section
variable {W W' : World} {B t : Nat} {lens : List Int} {lv wv sv : Value}
theorem IsTab.keep {S : Nat → Prop} (h : IsTab W B t lens lv wv sv) (hf : Fr S W W') (hn : ∀ k, TabB t lv wv sv k → ¬ S k) : IsTab W' B t lens lv wv sv :=
  ⟨h.bt.keep hf (hn t (Or.inl rfl)), h.ht, row_keep h.rl (fun k e hk => hf.block k hk (hn k (Or.inr (Or.inl e)))), h.nn, row_keep h.rw (fun k e hk => hf.block k hk (hn k (Or.inr (Or.inr (Or.inl e))))), row_keep h.rs (fun k e hk => hf.block k hk (hn k (Or.inr (Or.inr (Or.inr e)))))⟩
theorem IsTab.below (h : IsTab W B t lens lv wv sv) (hb : Below W.heap.size W W') : IsTab W' B t lens lv wv sv := h.keep (Fr.of_below_all hb (fun _ => False)) (fun _ _ h => h)
/-- A block of another type is none of the table's. -/
theorem IsTab.other (h : IsTab W B t lens lv wv sv) {g : Nat} {cells : Array Value} {e : TypeId} (hb : W.heap[g]? = some (.cells cells e (0, 0))) (h1 : e ≠ 100) (h2 : e ≠ 3) : ¬ TabB t lv wv sv g := by
  rintro (rfl | hk | hk | hk)
  · have := h.bt
    unfold TabS at this
    rw [hb] at this
    injection this with this
    injection this with _ h3
    exact h1 h3
  · exact Kd.R_ne h.rl hb (fun e => h2 e.symm) hk.symm
  · exact Kd.R_ne h.rw hb (fun e => h2 e.symm) hk.symm
  · exact Kd.R_ne h.rs hb (fun e => h2 e.symm) hk.symm
theorem IsTab.keepR (h : IsTab W B t lens lv wv sv) {g : Nat} {s : ByteArray} {a : Nat} (hr : IsR W g s a) (hf : Fr (fun k => k = g) W W') : IsTab W' B t lens lv wv sv :=
  h.keep hf (fun k hk e => h.other hr (by decide) (by decide) (e ▸ hk))
theorem IsTab.lt (h : IsTab W B t lens lv wv sv) (k : Nat) (hk : TabB t lv wv sv k) : B ≤ k ∧ k < W.heap.size := by
  rcases hk with rfl | hk | hk | hk
  · exact ⟨h.ht, h.bt.lt⟩
  · exact ⟨Kd.R_base h.rl k hk, Kd.R_lt h.rl k hk⟩
  · exact ⟨Kd.R_base h.rw k hk, Kd.R_lt h.rw k hk⟩
  · exact ⟨Kd.R_base h.rs k hk, Kd.R_lt h.rs k hk⟩
end
/-- What Symbol tells. -/
def SyQ (lens : List Int) (s : ByteArray) (a g : Nat) (W : World) (e : Ending) (w' : World) : Prop :=
  e = .returned (.tuple #[.int .i64 (symF lens s a).1, .int .i64 (symF lens s a).2.1]) ∧ IsR w' g s (symF lens s a).2.2 ∧ Fr (fun k => k = g) W w'
theorem symsT_succ (lens : List Int) {l : Nat} (h : 1 ≤ l) : symsT lens l = symsT lens (l - 1) ++ idxL lens l lens.length := by
  obtain ⟨m, rfl⟩ : ∃ m, l = m + 1 := ⟨l - 1, by omega⟩
  rfl
theorem idx_cF (lens : List Int) (l : Nat) : ((idxL lens l lens.length).length : Int) = cF lens l := by
  have h : ∀ i, i ≤ lens.length → ((idxL lens l i).length : Int) = cntL (lens.take i) l := by
    intro i
    induction i with
    | zero => intro _; rw [List.take_zero]; rfl
    | succ i ih =>
      intro h
      have ih := ih (by omega)
      rw [idxL_succ, List.take_succ_eq_append_getElem (by omega : i < lens.length), cntL_snoc, List.length_append]
      have e : lens.getD i 0 = lens[i] := by rw [List.getD_eq_getElem?_getD, List.getElem?_eq_getElem (by omega : i < lens.length)]; rfl
      rw [e]
      by_cases hl : lens[i] = (l : Int)
      · rw [if_pos hl, if_pos hl]; simp only [List.length_singleton]; omega
      · rw [if_neg hl, if_neg hl]; simp only [List.length_nil]; omega
  rw [h lens.length (Nat.le_refl _), List.take_length]
  rfl
theorem symsT_mono (lens : List Int) (l : Nat) : ∀ d, (symsT lens l).length ≤ (symsT lens (l + d)).length
  | 0 => Nat.le_refl _
  | d + 1 => by
    have := symsT_mono lens l d
    rw [show l + (d + 1) = l + d + 1 by omega]
    show _ ≤ (symsT lens (l + d) ++ idxL lens (l + d + 1) lens.length).length
    rw [List.length_append]
    omega
theorem bitI_b (s : ByteArray) (a : Nat) : bitI s a = 0 ∨ bitI s a = 1 := by
  have := nb_lt (sbit s) a 1
  unfold bitI
  omega
/-- The state of Symbol. -/
structure SyS (W w : World) (B t g : Nat) (lens : List Int) (lv wv sv : Value) (s : ByteArray) (a a' l : Nat) (wd : Int) : Prop where
  tb : IsTab w B t lens lv wv sv
  rd : IsR w g s a'
  fr : Fr (fun k => k = g) W w
  le : a' ≤ 8 * s.size
  wb : 0 ≤ wd ∧ wd < 2 ^ (l - 1)
  l1 : 1 ≤ l
  we : eT (cF lens) (l - 1) ≤ wd
  eq : symF lens s a = symS lens s (16 - l) l wd a'
set_option maxRecDepth 100000 in
set_option maxHeartbeats 8000000 in
theorem symbol_ok {W : World} {B t g : Nat} {lens : List Int} {lv wv sv : Value} {s : ByteArray} {a : Nat} (h : IsTab W B t lens lv wv sv) (ho : okL lens = true) (hr : IsR W g s a) (hs : s.size ≤ 1000000000000000) (ha : a ≤ 8 * s.size) :
    Calls Try.prog 57 #[.pointer (some ⟨t, 0, none⟩), .pointer (some ⟨g, 0, none⟩)] W (SyQ lens s a g W) := by
  have hu := Try.underlying100
  have q1 := eql_some
  have HS0 := Aside0.mk (SyS.mk (W := W) (a := a) (l := 1) (wd := 0) h hr (Fr.refl _ _) ha ⟨Int.le_refl _, by decide⟩ (Nat.le_refl _) (by simp [eT]) rfl)
  have HO := Aside0.mk ho
  have HSZ := Aside0.mk hs
  have c0 := h.bt.c0
  obtain ⟨lA, lc, hlv⟩ := Kd.R_slice h.rl
  have hnn := h.nn
  rw [hlv] at hnn c0
  cases lA with
  | none => obtain ⟨b, hb⟩ := hnn; cases hb
  | some la =>
    obtain ⟨sA, sc, hsv⟩ := Kd.R_slice h.rs
    have HV := Aside0.mk hsv
    clear h ho hr hs ha hlv hnn hsv
    go_enter Try.func57, Try.ntmps57
    go_wp2_with fail
    go_loopw [6, 7, 8, 9] (fun v6 v7 v8 v9 wr => ∃ (l a' p : Nat) (wd fi : Int), v9 = .int .i64 l ∧ v6 = .int .i64 wd ∧ v7 = .int .i64 fi ∧ v8 = .int .i64 p ∧ Aside0 (SyS W wr B t g lens lv wv sv s a a' l wd) ∧ l ≤ 16 ∧ Aside0 (fi = eT (cF lens) (l - 1) ∧ p = (symsT lens (l - 1)).length)) (fun _ _ _ v9 _ => 16 - (intOf v9).toNat)
    case atStart => exact ⟨1, a, 0, 0, 0, rfl, rfl, rfl, rfl, HS0, by decide, ⟨rfl, rfl⟩⟩
    case round =>
      clear HS0 c0
      obtain ⟨l, a', p, wd, fi, rfl, rfl, rfl, rfl, HS, hl16, HP⟩ := hrel
      by_cases hlt : l ≤ 15
      · have hb1 : decide ((l : Int) ≤ 15) = true := by simp; omega
        have hl15 : (l : Int) ≤ 15 := by omega
        by_cases hsh : 8 * s.size < a' + 1
        · have HC := Aside0.mk (r_short g s a' 1 wr HS.out.rd HSZ.out (by decide) HS.out.le hsh)
          have HE := Aside0.mk (show symF lens s a = (0, 5, a') by
            rw [HS.out.eq, show 16 - l = (15 - l) + 1 by omega]
            unfold symS
            rw [if_pos hsh])
          go_wp2_with fail
          refine HC.out.mono ?_
          rintro e w2 ⟨rfl, hr2, hf2⟩
          have HR2 := Aside0.mk hr2
          have HF2 := Aside0.mk hf2
          clear hr2 hf2 HC
          go_wp2_with fail
          go_ret2
          exact ⟨by rw [HE.out]; rfl, by rw [HE.out]; exact HR2.out, HS.out.fr.then_ HF2.out (fun k hk => Or.inl hk)⟩
        · have HC := Aside0.mk (r_ok g s a' 1 wr HS.out.rd HSZ.out (by decide) (by omega))
          obtain ⟨b, hb⟩ : ∃ b : Nat, nb (sbit s) a' 1 = b := ⟨_, rfl⟩
          have hbit : (b : Int) = bitI s a' := by rw [← hb]; rfl
          have hb01 : b ≤ 1 := by have := nb_lt (sbit s) a' 1; omega
          rw [hb] at HC
          have hwb := HS.out.wb
          have hp2 := (pow_bd (d := l - 1) (by omega)).2
          have hfb : 0 ≤ fi ∧ fi ≤ 32768 := by rw [HP.out.1]; exact eT_bd HO.out (by omega)
          have hkb := cF_bd HO.out l
          have hpb : p ≤ 100000 := by
            have h1 := symsT_len lens (l - 1)
            have h3 := (okL_len HO.out).1
            have h4 : (l - 1) * lens.length ≤ 15 * 288 := Nat.mul_le_mul (by omega) h3
            rw [HP.out.2]
            omega
          obtain ⟨k, hk⟩ : ∃ k, cF lens l = k := ⟨_, rfl⟩
          rw [hk] at hkb
          obtain ⟨wn, hwn⟩ : ∃ wn, 2 * wd + (b : Int) = wn := ⟨_, rfl⟩
          obtain ⟨f2, hf2⟩ : ∃ f2, fi * 2 = f2 := ⟨_, rfl⟩
          obtain ⟨fe, hfe⟩ : ∃ fe, f2 + k = fe := ⟨_, rfl⟩
          have hwn2 : 2 * wd + bitI s a' = wn := by rw [← hbit]; exact hwn
          have hET : eT (cF lens) l = fe := by
            obtain ⟨m, rfl⟩ : ∃ m, l = m + 1 := ⟨l - 1, by have := HS.out.l1; omega⟩
            have := HP.out.1
            rw [Nat.add_sub_cancel] at this
            rw [eT_succ, hk, ← this]
            omega
          have hwl : wn < 2 ^ l := by
            obtain ⟨m, rfl⟩ : ∃ m, l = m + 1 := ⟨l - 1, by have := HS.out.l1; omega⟩
            rw [Nat.add_sub_cancel] at hwb
            rw [Int.pow_succ]
            omega
          have u1 : IntKind.i64.wrap (2 * wd) = 2 * wd := IntWalk.i64_in _ (by omega)
          have u2 : IntKind.i64.wrap (2 * wd + (b : Int)) = wn := by rw [hwn]; exact IntWalk.i64_in _ (by omega)
          have u3 : IntKind.i64.wrap (fi * 2) = f2 := by rw [hf2]; exact IntWalk.i64_in _ (by omega)
          have u4 : IntKind.i64.wrap (f2 + k) = fe := by rw [hfe]; exact IntWalk.i64_in _ (by omega)
          have u8 : IntKind.i64.wrap ((l : Int) + 1) = (l : Int) + 1 := IntWalk.i64_in _ (by omega)
          have HET := Aside0.mk hET
          have HW2 := Aside0.mk hwn2
          have HWL := Aside0.mk hwl
          have HWB := Aside0.mk (show 0 ≤ wn ∧ wn ≤ 100000 by omega)
          have HF := Aside0.mk hf2
          have HK := Aside0.mk hk
          have hl0 : (0 : Int) ≤ (l : Int) := by omega
          have hl16' : (l : Int) < 16 := by omega
          have HSE := Aside0.mk (show symF lens s a = if wn < fe then ((symsT lens 15).getD ((symsT lens (l - 1)).length + (wn - 2 * eT (cF lens) (l - 1)).toNat) 0, 0, a' + 1) else if l < lngT lens 15 ∧ wn * 2 ^ (lngT lens 15 - l) < eT (cF lens) (lngT lens 15) then symS lens s (15 - l) (l + 1) wn (a' + 1) else (0, 30, a' + 1) by
            rw [HS.out.eq, show 16 - l = (15 - l) + 1 by omega]
            conv => lhs; unfold symS
            rw [if_neg hsh, hwn2, hET])
          obtain ⟨j, hj⟩ : ∃ j : Nat, wn - f2 = j := ⟨(wn - f2).toNat, by
            have h2 := HS.out.we
            have h3 := HP.out.1
            omega⟩
          obtain ⟨pw, hpw⟩ : ∃ pw, (p : Int) + wn = pw := ⟨_, rfl⟩
          obtain ⟨ix, hix⟩ : ∃ ix, p + j = ix := ⟨_, rfl⟩
          have u5 : IntKind.i64.wrap ((p : Int) + wn) = pw := by rw [hpw]; exact IntWalk.i64_in _ (by omega)
          have u6 : IntKind.i64.wrap (pw - f2) = (ix : Int) := by rw [show pw - f2 = (ix : Int) by omega]; exact IntWalk.i64_in _ (by omega)
          obtain ⟨p2, hp2'⟩ : ∃ p2, (symsT lens l).length = p2 := ⟨_, rfl⟩
          have hpk : (p : Int) + k = p2 := by
            have h1 := symsT_succ lens HS.out.l1
            have h2 := idx_cF lens l
            rw [← hp2', h1, List.length_append, ← hk, ← h2, HP.out.2]
            omega
          have u7 : IntKind.i64.wrap ((p : Int) + k) = (p2 : Int) := by rw [hpk]; exact IntWalk.i64_in _ (by omega)
          have HP2 := Aside0.mk hp2'
          have HJ := Aside0.mk (And.intro hj hix)
          have HFE := Aside0.mk hfe
          have HPK := Aside0.mk hpk
          have HSH := Aside0.mk (show a' + 1 ≤ 8 * s.size by omega)
          have HPB := Aside0.mk hpb
          have HKB := Aside0.mk hkb
          clear hb hbit hb01 hwb hp2 hfb hkb hpb hk hwn hf2 hwn2 hET hwl hfe hpw hj hix hp2' hpk hsh hlt
          go_wp2_with fail
          refine HC.out.mono ?_
          rintro e w2 ⟨rfl, hr2, hff⟩
          have HT2 := Aside0.mk (HS.out.tb.keepR HS.out.rd hff)
          have HR2 := Aside0.mk hr2
          have HF2 := Aside0.mk (HS.out.fr.then_ hff (fun k hk => Or.inl hk))
          clear hr2 hff HC
          have cm := HT2.out.bt.cn l (by omega)
          rw [cntN_eq lens HS.out.l1, HK.out] at cm
          have c18 := HT2.out.bt.c18
          rw [HV.out] at c18
          have c19 := HT2.out.bt.c19
          by_cases hit : wn < fe
          · have hb2 : decide (wn < fe) = true := decide_eq_true hit
            have hixl : ix < (symsT lens 15).length := by
              have h1 := symsT_mono lens l (15 - l)
              rw [show l + (15 - l) = 15 by omega, HP2.out] at h1
              have h2 := HPK.out
              have h3 := HFE.out
              have h4 := HJ.out.1
              have h5 := HJ.out.2
              omega
            have hrs := HT2.out.rs
            rw [HV.out] at hrs
            have hrow := (Kd.R_reads' hrs).2.2
            obtain ⟨ad1, hA1, x0⟩ := Kd.at_int hrow (ix : Int) (by omega) (by omega)
            subst hA1
            simp only [Int.toNat_natCast] at x0
            have hi0 : (0 : Int) ≤ (ix : Int) := by omega
            have hi1 : (ix : Int) < ((symsT lens 15).length : Int) := by omega
            have HE := Aside0.mk (show symF lens s a = (rd (symsT lens 15) (ix : Int), 0, a' + 1) by
              rw [HSE.out, if_pos hit, show wn - 2 * eT (cF lens) (l - 1) = (j : Int) by rw [← HP.out.1]; have := HF.out; have := HJ.out.1; omega, Int.toNat_natCast, ← HP.out.2, HJ.out.2]
              unfold rd
              rw [Int.toNat_natCast])
            clear hixl hrow hrs
            go_wp2_with fail
            go_ret2
            exact ⟨by rw [HE.out]; rfl, by rw [HE.out]; exact HR2.out, HF2.out⟩
          · have hb2 : decide (wn < fe) = false := decide_eq_false hit
            have HIT := Aside0.mk hit
            by_cases hG : l < lngT lens 15
            · have hb3 : decide ((lngT lens 15 : Int) ≤ (l : Int)) = false := decide_eq_false (by omega)
              have hb3' : ¬ (lngT lens 15 : Int) ≤ (l : Int) := by omega
              have HC2 := Aside0.mk (goes_ok HT2.out HO.out wn l HWB.out.1 HWB.out.2 hG)
              rw [HET.out] at HC2
              go_wp2_with fail
              refine HC2.out.mono ?_
              rintro e w3 ⟨rfl, hw3⟩
              subst hw3
              by_cases hg : wn * 2 ^ (lngT lens 15 - l) < eT (cF lens) (lngT lens 15)
              · rw [decide_eq_true hg]
                have HS2 := Aside0.mk (SyS.mk (W := W) (a := a) (l := l + 1) (wd := wn) HT2.out HR2.out HF2.out HSH.out (by rw [Nat.add_sub_cancel]; exact ⟨HWB.out.1, HWL.out⟩) (by omega) (by rw [Nat.add_sub_cancel, HET.out]; omega) (by rw [HSE.out, if_neg (by have := HIT.out; omega), if_pos ⟨hG, hg⟩, show 16 - (l + 1) = 15 - l by omega]))
                have HL := Aside0.mk hG
                clear hg hG HC2
                go_wp2_with fail
                go_roundw
                case rel => exact ⟨l + 1, a' + 1, p2, wn, fe, by simp, rfl, rfl, rfl, HS2, by omega, ⟨by rw [Nat.add_sub_cancel, HET.out], by rw [Nat.add_sub_cancel, HP2.out]⟩⟩
                case measure => simp [intOf]; have := HL.out; omega
              · rw [decide_eq_false hg]
                have HE := Aside0.mk (show symF lens s a = (0, 30, a' + 1) by rw [HSE.out, if_neg (by have := HIT.out; omega), if_neg (fun h => hg h.2)])
                clear hg hG HC2
                go_wp2_with fail
                go_ret2
                exact ⟨by rw [HE.out]; rfl, by rw [HE.out]; exact HR2.out, HF2.out⟩
            · have hb3 : decide ((lngT lens 15 : Int) ≤ (l : Int)) = true := decide_eq_true (by omega)
              have hb3' : (lngT lens 15 : Int) ≤ (l : Int) := by omega
              have HE := Aside0.mk (show symF lens s a = (0, 30, a' + 1) by rw [HSE.out, if_neg (by have := HIT.out; omega), if_neg (fun h => hG h.1)])
              clear hG
              go_wp2_with fail
              go_ret2
              exact ⟨by rw [HE.out]; rfl, by rw [HE.out]; exact HR2.out, HF2.out⟩
      · have hle : l = 16 := by omega
        subst hle
        have hb1 : decide ((16 : Int) ≤ 15) = false := by decide
        have HE := Aside0.mk (show symF lens s a = (0, 30, a') by rw [HS.out.eq]; rfl)
        clear hlt
        go_wp2_with fail
        go_ret2
        exact ⟨by rw [HE.out]; rfl, by rw [HE.out]; exact HS.out.rd, HS.out.fr⟩
end Go.Proofs.Yteffjbjhkaobfaa.HF
namespace Go.Proofs.Yteffjbjhkaobfaa.HF
open Go.RowKit Go.Proofs.YteffjbjhkaobfaaW.PrintWords Go.Proofs.YteffjbjhkaobfaaW.PrintLast Go.Proofs.YteffjbjhkaobfaaW.PrintMore Go.Proofs.Yteffjbjhkaobfaa.HW Go.Proofs.Yteffjbjhkaobfaa.MB Go.Proofs.Yteffjbjhkaobfaa.Fn
attribute [local go_sem] max2_int min2_int max_two min_two max_three min_three max_four min_four   -- for this text's walks alone
/-- What Whole tells. -/
def WQ (lens : List Int) (W : World) (e : Ending) (w' : World) : Prop := e = .returned (.tuple #[.bool (okL lens && wholeL lens), .int .i64 (if okL lens then 0 else 30)]) ∧ Below W.heap.size W w'
set_option maxHeartbeats 2000000 in
theorem whole_any (A : Option Addr) (c : Nat) (lens : List Int) (W : World) (hr : Kd.C (Kd.int .i64) W A lens.length lens) (hc : lens.length ≤ c) : Calls Try.prog 60 #[.slice A lens.length c] W (WQ lens W) := by
  have hu := Try.underlying98
  have HC := Aside0.mk (counts_any A c lens W hr hc)
  clear hr hc
  go_enter Try.func60, Try.ntmps60
  go_wp2_with fail
  refine HC.out.mono ?_
  rintro e w1 ⟨f, rfl, hf, hb⟩
  have HF := Aside0.mk hf
  have HB := Aside0.mk hb
  clear hf hb HC
  cases hok : okL lens with
  | false =>
    have HO := Aside0.mk hok
    clear HF hok
    go_wp2_with ((with_reducible refine gate_store (t := 98) (p := 4) (v := .tmp 9) rfl ?_); go_must (refine store_all rfl rfl rfl w1.heap.size (arrV (fun _ => 0)) (arrV f) 98 (by rfl) (by rfl) (IsArr.new w1) ((arrV_size _).trans (arrV_size _).symm) (by rw [arrV_size]; kernel_rfl) (arrV_one _) ?_); intro w9 hr1 hf6; have HF6 := Aside0.mk hf6; clear hr1 hf6)
    go_ret2
    exact ⟨(by rw [HO.out]; rfl), HB.out.trans (((below_alloc (Below.refl w1.heap.size w1) _).trans (HF6.out.below (by show _ ≤ (Array.push _ _).size; rw [Array.size_push]; omega) (fun k hk => by rw [hk]; exact Nat.le_refl _))).mono HB.out.size)⟩
  | true =>
    have HO := Aside0.mk hok
    clear hok
    go_upto_region 4 with ((with_reducible refine gate_store (t := 98) (p := 4) (v := .tmp 9) rfl ?_); go_must (refine store_all rfl rfl rfl w1.heap.size (arrV (fun _ => 0)) (arrV f) 98 (by rfl) (by rfl) (IsArr.new w1) ((arrV_size _).trans (arrV_size _).symm) (by rw [arrV_size]; kernel_rfl) (arrV_one _) ?_); intro w9 hr1 hf6; have HR1 := Aside0.mk hr1; have HF6 := Aside0.mk hf6; clear hr1 hf6)
    have c0 := IsArr.cell (f := f) HR1.out 0 (by decide)
    have h0 : f 0 = rooms (fun l => cntL lens l) 15 := by rw [HF.out HO.out 0 (by decide)]; rfl
    rw [h0] at c0
    obtain ⟨r, hr⟩ : ∃ r, rooms (fun l => cntL lens l) 15 = r := ⟨_, rfl⟩
    rw [hr] at c0
    have HW := Aside0.mk (show wholeL lens = (r == 0) from by unfold wholeL; rw [hr]; by_cases h : r = 0 <;> simp [h])
    clear h0 hr
    go_wp2_with fail
    go_ret2
    exact ⟨(by rw [HO.out, HW.out]; rfl), HB.out.trans (((below_alloc (Below.refl w1.heap.size w1) _).trans (HF6.out.below (by show _ ≤ (Array.push _ _).size; rw [Array.size_push]; omega) (fun k hk => by rw [hk]; exact Nat.le_refl _))).mono HB.out.size)⟩
end Go.Proofs.Yteffjbjhkaobfaa.HF
