/- huff.Codes, huff.Whole: walked. -/
import Derived.Test.YtmmoenleldcadaaHCounts
import Derived.Deep.RegionLaw
namespace Go.Proofs.Ytmmoenleldcadaa.HF
open Go.RowKit Go.Proofs.YtmmoenleldcadaaW.PrintWords Go.Proofs.YtmmoenleldcadaaW.PrintLast Go.Proofs.YtmmoenleldcadaaW.PrintMore Go.Proofs.Ytmmoenleldcadaa.HW Go.Proofs.Ytmmoenleldcadaa.MB Go.Proofs.Ytmmoenleldcadaa.Fn
attribute [local go_sem] max2_int min2_int max_two min_two max_three min_three max_four min_four   -- for this text's walks alone
theorem R_first {α : Type} {d : Kd α} {e : Nat} {w : World} {base : Nat} {ok : Nat → Prop} {v : Value} {xs : List α} (h : d.R e w base ok v xs) (hn : 0 < xs.length) : ∃ g c, v = .slice (some ⟨g, 0, none⟩) xs.length c := by
  obtain ⟨_, inner, ⟨_, hown⟩, _⟩ := h
  rcases hown with ⟨_, h0⟩ | ⟨g, cap, cur, hv, _⟩
  · omega
  · exact ⟨g, cap, hv⟩
def zeroObj : Obj := .cells #[.int .i64 0, .int .i64 0, .int .i64 0, .int .i64 0, .int .i64 0, .int .i64 0, .int .i64 0, .int .i64 0, .int .i64 0, .int .i64 0, .int .i64 0, .int .i64 0, .int .i64 0, .int .i64 0, .int .i64 0, .int .i64 0] 50
def outI (lens : List Int) (i : Nat) : List Int := (List.range lens.length).map (fun j => if j < i then codeAt lens j else 0)
theorem outI_len (lens : List Int) (i : Nat) : (outI lens i).length = lens.length := by unfold outI; rw [List.length_map, List.length_range]
theorem outI_zero (lens : List Int) : List.replicate lens.length (0 : Int) = outI lens 0 := by
  refine List.ext_getElem? fun j => ?_
  unfold outI
  rw [List.getElem?_replicate, List.getElem?_map]
  by_cases h : j < lens.length
  · rw [if_pos h, List.getElem?_range h]; rfl
  · rw [if_neg h, List.getElem?_eq_none (by rw [List.length_range]; omega)]; rfl
theorem outI_set (lens : List Int) (i : Nat) : (outI lens i).set i (codeAt lens i) = outI lens (i + 1) := by
  refine List.ext_getElem? fun j => ?_
  rw [List.getElem?_set, outI_len]
  unfold outI
  rw [List.getElem?_map, List.getElem?_map]
  by_cases h : j < lens.length
  · rw [List.getElem?_range h]
    by_cases hij : i = j
    · subst hij
      rw [if_pos rfl, if_pos h]
      show _ = some (if i < i + 1 then codeAt lens i else 0)
      rw [if_pos (Nat.lt_succ_self i)]
    · rw [if_neg hij]
      show some (if j < i then codeAt lens j else 0) = some (if j < i + 1 then codeAt lens j else 0)
      by_cases hji : j < i
      · rw [if_pos hji, if_pos (show j < i + 1 by omega)]
      · rw [if_neg hji, if_neg (show ¬ j < i + 1 by omega)]
  · rw [List.getElem?_eq_none (by rw [List.length_range]; omega)]
    split
    · split
      · omega
      · rfl
    · rfl
theorem outI_same (lens : List Int) (i : Nat) (h : codeAt lens i = 0) : outI lens i = outI lens (i + 1) := by
  unfold outI
  refine List.map_congr_left (fun j _ => ?_)
  by_cases h1 : j < i
  · rw [if_pos h1, if_pos (show j < i + 1 by omega)]
  · by_cases h2 : j = i
    · subst h2; rw [if_neg h1, if_pos (Nat.lt_succ_self j), h]
    · rw [if_neg h1, if_neg (show ¬ j < i + 1 by omega)]
theorem outI_all (lens : List Int) : outI lens lens.length = codesL lens := by
  unfold outI codesL
  exact List.map_congr_left (fun j hj => if_pos (List.mem_range.1 hj))
theorem okL_len {lens : List Int} (h : okL lens = true) : lens.length ≤ 288 ∧ (∀ x ∈ lens, 0 ≤ x ∧ x ≤ 15) := by
  unfold okL at h
  rw [Bool.and_eq_true, Bool.and_eq_true] at h
  exact ⟨of_decide_eq_true h.1, fun x hx => of_decide_eq_true (List.all_eq_true.1 h.2.1 x hx)⟩
/-- What Codes tells. -/
def DQ (lens : List Int) (W : World) (e : Ending) (w' : World) : Prop := ∃ v, e = .returned (.tuple #[v, .int .i64 (if okL lens then 0 else 30)]) ∧ Kd.R (Kd.int .i64) 3 w' W.heap.size (fun _ => True) v (if okL lens then codesL lens else []) ∧ Below W.heap.size W w'
/-- The state of Codes. -/
structure KS (W w : World) (q q2 : Nat) (f h : Nat → Int) : Prop where
  be : Below W.heap.size W w
  le : W.heap.size ≤ q2
  ne : q ≠ q2
  ar : IsArr w q f
  nx : IsArr w q2 h
theorem KS.set {W w : World} {q q2 : Nat} {f h : Nat → Int} (s : KS W w q q2 f h) (k : Nat) (v : Int) : KS W (w.setCell ⟨q2, k, none⟩ (.int .i64 v)) q q2 f (upd h k v) :=
  ⟨s.be.setCell s.le _, s.le, s.ne, (Below.heap_setCell _ _ _ _ s.ne).trans s.ar, s.nx.set k v⟩
theorem KS.congr {W w : World} {q q2 : Nat} {f h h' : Nat → Int} (s : KS W w q q2 f h) (e : ∀ k, k < 16 → h k = h' k) : KS W w q q2 f h' := ⟨s.be, s.le, s.ne, s.ar, s.nx.congr e⟩
theorem KS.below {W w w' : World} {q q2 : Nat} {f h : Nat → Int} (s : KS W w q q2 f h) (hb : Below w.heap.size w w') : KS W w' q q2 f h := ⟨s.be.trans (hb.mono s.be.size), s.le, s.ne, s.ar.below hb, s.nx.below hb⟩
set_option maxRecDepth 100000 in
set_option maxHeartbeats 8000000 in
theorem codes_any (A : Option Addr) (c : Nat) (lens : List Int) (W : World) (hr : Kd.C (Kd.int .i64) W A lens.length lens) (hc : lens.length ≤ c) : Calls Try.prog 17 #[.slice A lens.length c] W (DQ lens W) := by
  have hu := Try.underlying50
  have HR := Aside0.mk hr
  have HC := Aside0.mk (counts_any A c lens W hr hc)
  clear hr hc
  go_enter Try.func17, Try.ntmps17
  go_wp2_with fail
  refine HC.out.mono ?_
  rintro e w1 ⟨f, rfl, hf, hb⟩
  have HF := Aside0.mk hf
  have HB := Aside0.mk hb
  clear hf hb HC
  cases hok : okL lens with
  | false =>
    have HO := Aside0.mk hok
    clear hok
    go_wp2_with ((with_reducible refine gate_store (t := 50) (p := 4) (v := .tmp 14) rfl ?_); go_must (refine store_all rfl rfl rfl w1.heap.size (arrV (fun _ => 0)) (arrV f) 50 (by rfl) (by rfl) (IsArr.new w1) ((arrV_size _).trans (arrV_size _).symm) (by rw [arrV_size]; kernel_rfl) (arrV_one _) ?_); intro w9 hr1 hf6; have HF6 := Aside0.mk hf6; clear hr1 hf6)
    go_ret2
    exact ⟨_, (by rw [HO.out]; rfl), by rw [HO.out]; exact Kd.R_nil _ _ _ _ _, HB.out.trans (((below_alloc (Below.refl w1.heap.size w1) _).trans (HF6.out.below (by show _ ≤ (Array.push _ _).size; rw [Array.size_push]; omega) (fun k hk => by rw [hk]; exact Nat.le_refl _))).mono HB.out.size)⟩
  | true =>
    have HO := Aside0.mk hok
    have hl288 := (okL_len hok).1
    clear hok
    go_upto_region 4 with ((with_reducible refine gate_store (t := 50) (p := 4) (v := .tmp 14) rfl ?_); go_must (refine store_all rfl rfl rfl w1.heap.size (arrV (fun _ => 0)) (arrV f) 50 (by rfl) (by rfl) (IsArr.new w1) ((arrV_size _).trans (arrV_size _).symm) (by rw [arrV_size]; kernel_rfl) (arrV_one _) ?_); intro w9 hr1 hf6; have HR1 := Aside0.mk hr1; have HF6 := Aside0.mk hf6; clear hr1 hf6)
    have HB9 := Aside0.mk (HB.out.trans (((below_alloc (Below.refl w1.heap.size w1) _).trans (HF6.out.below (by show _ ≤ (Array.push _ _).size; rw [Array.size_push]; omega) (fun k hk => by rw [hk]; exact Nat.le_refl _))).mono HB.out.size))
    obtain ⟨q, hq⟩ : ∃ q, w1.heap.size = q := ⟨_, rfl⟩
    rw [hq] at HR1
    rw [hq]
    clear HF6 HB hq
    go_upto_region 5 with (fail)
    have HK0 := Aside0.mk (KS.mk (W := W) (w := w9.alloc zeroObj) (q := q) (q2 := w9.heap.size) (f := f) (h := fun _ => 0) (below_alloc HB9.out _) HB9.out.size (Nat.ne_of_lt (blk_lt HR1.out)) (IsArr.below HR1.out (below_alloc (Below.refl _ _) _)) (IsArr.new w9))
    unfold zeroObj at HK0
    obtain ⟨q2, hq2⟩ : ∃ q, w9.heap.size = q := ⟨_, rfl⟩
    rw [hq2] at HK0
    rw [hq2]
    clear hq2 HR1 HB9
    generalize w9.alloc (.cells #[.int .i64 0, .int .i64 0, .int .i64 0, .int .i64 0, .int .i64 0, .int .i64 0, .int .i64 0, .int .i64 0, .int .i64 0, .int .i64 0, .int .i64 0, .int .i64 0, .int .i64 0, .int .i64 0, .int .i64 0, .int .i64 0] 50) = w10 at HK0 ⊢
    go_wp2_with fail
    go_loopw [7] (fun v7 wr => ∃ l : Nat, v7 = .int .i64 l ∧ 1 ≤ l ∧ l ≤ 15 ∧ Aside0 (KS W wr q q2 f (fun k => if k ≤ l then nxt (fun l => cntL lens l) k else 0))) (fun v7 _ => 15 - (intOf v7).toNat)
    case atStart => exact ⟨1, rfl, by decide, by decide, ⟨HK0.out.congr (fun k _ => by
      show (0 : Int) = if k ≤ 1 then nxt _ k else 0
      split
      · rcases (show k = 0 ∨ k = 1 by omega) with rfl | rfl <;> rfl
      · rfl)⟩⟩
    case round =>
      clear HK0
      obtain ⟨l, rfl, hl1, hl2, HK⟩ := hrel
      by_cases hlt : l < 15
      · have hb1 : decide ((l : Int) < 15) = true := by simp; omega
        have c0 := HK.out.nx.cell l (by omega)
        have c1 := HK.out.nx.cell (l + 1) (by omega)
        have f1 := HK.out.nx.frozen (l + 1)
        have d0 := HK.out.ar.cell l (by omega)
        have hfl : f l = cntL lens l := by rw [HF.out HO.out l (by omega)]; unfold cA; rw [if_neg (by omega)]
        rw [hfl] at d0
        have hcb := cntL_nn lens (l : Int)
        have hnb := nxt_bd (f := fun l => cntL lens l) (fun l => ⟨(cntL_nn lens l).1, by have := (cntL_nn lens l).2; omega⟩) l
        have hp2 : (2 : Int) ^ l ≤ 32768 := by
          have := Nat.pow_le_pow_right (n := 2) (by decide) hl2
          have h2 : ((2 ^ l : Nat) : Int) ≤ 32768 := by exact_mod_cast this
          simpa using h2
        simp only [Nat.le_refl, if_true, show ¬ l + 1 ≤ l by omega, if_false] at c0 c1
        obtain ⟨n, hn⟩ : ∃ n, nxt (fun l => cntL lens l) l = n := ⟨_, rfl⟩
        obtain ⟨cn, hcn⟩ : ∃ n, cntL lens (l : Int) = n := ⟨_, rfl⟩
        rw [hn] at c0 hnb
        rw [hcn] at d0 hcb
        have hx : nxt (fun l => cntL lens l) (l + 1) = 2 * (n + cn) := by show (if l = 0 then 0 else 2 * (nxt (fun l => cntL lens l) l + cntL lens (l : Int))) = _; rw [if_neg (by omega), hn, hcn]
        have HX := Aside0.mk hx
        have hw1 : IntKind.i64.wrap (n + cn) = n + cn := IntWalk.i64_in _ (by omega)
        have hw2 : IntKind.i64.wrap (2 * (n + cn)) = 2 * (n + cn) := IntWalk.i64_in _ (by omega)
        have hw3 : IntKind.i64.wrap ((l : Int) + 1) = (l : Int) + 1 := IntWalk.i64_in _ (by omega)
        have q1 : (0 : Int) ≤ (l : Int) := by omega
        have q2' : (l : Int) < 16 := by omega
        have q3 : (0 : Int) ≤ (l : Int) + 1 := by omega
        have q4 : (l : Int) + 1 < 16 := by omega
        have q5 : ((l : Int) + 1).toNat = l + 1 := by omega
        have HI := Aside0.mk hlt
        clear hfl hcb hnb hp2 hn hcn hx hlt
        go_wp2_with fail
        go_region
        all_goals
          have HS2 := Aside0.mk ((HK.out.set (l + 1) (2 * (n + cn))).congr (h' := fun k => if k ≤ l + 1 then nxt (fun l => cntL lens l) k else 0) (fun k _ => by
            unfold upd
            by_cases h0 : k = l + 1
            · subst h0; rw [if_pos rfl, if_pos (Nat.le_refl _), HX.out]
            · rw [if_neg h0]
              show (if k ≤ l then _ else _) = _
              by_cases h1 : k ≤ l
              · rw [if_pos h1, if_pos (show k ≤ l + 1 by omega)]
              · rw [if_neg h1, if_neg (show ¬ k ≤ l + 1 by omega)]))
          go_wp2_with fail
          go_roundw
          case rel => exact ⟨l + 1, by simp, by omega, by have := HI.out; omega, ⟨HS2.out.below (below_drew (Below.refl _ _))⟩⟩
          case measure => simp [intOf]; have := HI.out; omega
      · have hle : l = 15 := by omega
        subst hle
        have hb1 : decide ((15 : Int) < 15) = false := by decide
        have HK2 := Aside0.mk (HK.out.congr (h' := fun k => if k = 0 then 0 else nxt (fun l => cntL lens l) k + cntL (lens.take 0) k) (fun k hk => by
          show (if k ≤ 15 then _ else _) = _
          rw [if_pos (by omega)]
          by_cases h0 : k = 0
          · subst h0; rfl
          · rw [if_neg h0, List.take_zero, cntL_nil, Int.add_zero]))
        clear hlt HK
        go_wp2_with ((with_reducible refine gate_dst (N := 35) rfl ?_); go_must (refine Kd.R_make (Kd.int .i64) (w0 := W) W.heap.size 3 rfl (N := 35) rfl 22 _ _ rfl (lens.length : Int) rfl rfl Try.underlying22 (.int .i64 0) 8 info3 rfl (by decide) (by decide) 0 (ok := fun _ => True) (okp := fun _ => True) rfl (fun _ hk => hk) trivial (by omega) (by omega) HK2.out.be HK2.out.be.size ?_); intro v8 w11 ho hb hg hnew; rw [Int.toNat_natCast, outI_zero] at ho; obtain ⟨b8, hb8, hb8'⟩ := hnew; have HO8 := Aside0.mk ho; have HB11 := Aside0.mk hb; have HK3 := Aside0.mk (KS.below (w' := w11) HK2.out ⟨hg.os, hg.tape, hg.output, hg.size, fun k hk => hg.block k hk (by simp)⟩); have HNB := Aside0.mk (show b8 ≠ q ∧ b8 ≠ q2 from ⟨fun e => by have := blk_lt HK2.out.ar; omega, fun e => by have := blk_lt HK2.out.nx; omega⟩); have HVB := Aside0.mk hb8; clear ho hb hg hb8 hb8'; obtain ⟨A8, c8, e8⟩ := Kd.R_slice HO8.out; rw [outI_len] at e8; subst e8)
        go_loopw [38] (fun v38 wr => ∃ i : Nat, v38 = .int .i64 i ∧ i ≤ lens.length ∧ Aside0 (KS W wr q q2 f (fun k => if k = 0 then 0 else nxt (fun l => cntL lens l) k + cntL (lens.take i) k)) ∧ Aside0 (Kd.R (Kd.int .i64) 3 wr W.heap.size (fun _ => True) (.slice A8 lens.length c8) (outI lens i))) (fun v38 _ => lens.length - (intOf v38).toNat)
        case atStart => exact ⟨0, rfl, Nat.zero_le _, HK3, HO8⟩
        case round =>
          clear HK3 HO8 HK2 HB11
          obtain ⟨i, rfl, hi, HK, HO8⟩ := hrel
          by_cases hlt : i < lens.length
          · have hb2 : decide ((i : Int) < (lens.length : Int)) = true := by simp; omega
            obtain ⟨ad1, hA1, x0⟩ := Kd.at_int (Kd.C_below HR.out HK.out.be) (i : Int) (by omega) (by omega)
            subst hA1
            simp only [Int.toNat_natCast] at x0
            obtain ⟨g8, c8', e8⟩ := R_first HO8.out (by rw [outI_len]; omega)
            rw [outI_len] at e8
            injection e8 with eA _ ec
            subst eA; subst ec
            have hgb : g8 = b8 := by have := HVB.out; injection this
            subst hgb
            have hxr := (okL_len HO.out).2 (rd lens (i : Int)) (by rw [rd_get lens i hlt]; exact List.getElem_mem _)
            have htk := take_rd lens i hlt
            have hca : codeAt lens i = if 0 < rd lens (i : Int) then nxt (fun l => cntL lens l) (rd lens (i : Int)).toNat + cntL (lens.take i) (rd lens (i : Int)) else 0 := by
              unfold codeAt
              have : lens.getD i 0 = rd lens (i : Int) := by unfold rd; rw [Int.toNat_natCast]
              rw [this]
            obtain ⟨x, hx⟩ : ∃ x, rd lens (i : Int) = x := ⟨_, rfl⟩
            rw [hx] at x0 hxr htk hca
            obtain ⟨m, rfl⟩ : ∃ m : Nat, x = m := ⟨x.toNat, by omega⟩
            have hm : m < 16 := by omega
            have q1 : (0 : Int) ≤ (i : Int) := by omega
            have q2' : (i : Int) < (lens.length : Int) := by omega
            have q3 : (0 : Int) ≤ (m : Int) := by omega
            have q4 : (m : Int) < 16 := by omega
            have HTK := Aside0.mk htk
            have HI := Aside0.mk hlt
            by_cases hm0 : m = 0
            · subst hm0
              have hb3 : decide ((0 : Int) < 0) = false := by decide
              have hs := outI_same lens i (by rw [hca]; rfl)
              have HO9 := HO8
              rw [hs] at HO9
              have HK9 := Aside0.mk (HK.out.congr (h' := fun k => if k = 0 then 0 else nxt (fun l => cntL lens l) k + cntL (lens.take (i + 1)) k) (fun k _ => by
                by_cases h0 : k = 0
                · show (if k = 0 then (0 : Int) else _) = if k = 0 then 0 else _
                  rw [if_pos h0, if_pos h0]
                · show (if k = 0 then (0 : Int) else _) = if k = 0 then 0 else _
                  rw [if_neg h0, if_neg h0, HTK.out, cntL_snoc, if_neg (show ¬ ((0 : Nat) : Int) = (k : Int) by omega), Int.add_zero]))
              clear hs hxr htk hca hx HO8 HK hlt
              have x0' : wr.cell? (ad1.add i) = some (.int .i64 0) := x0
              clear x0
              go_wp2_with fail
              go_roundw
              case rel => exact ⟨i + 1, by simp, HI.out, HK9, HO9⟩
              case measure => simp [intOf]; have := HI.out; omega
            · have hb3 : decide ((0 : Int) < (m : Int)) = true := by simp; omega
              have hb4 : 0 < m := by omega
              rw [if_pos (by omega), Int.toNat_natCast] at hca
              have c0 := HK.out.nx.cell m hm
              have f0 := HK.out.nx.frozen m
              have c0' : wr.cell? ⟨q2, m, none⟩ = some (.int .i64 (codeAt lens i)) := by rw [hca, c0]; show some (Value.int .i64 (if m = 0 then 0 else _)) = _; rw [if_neg hm0]
              have hcb := cntL_nn (lens.take i) (m : Int)
              have hnb := nxt_bd (f := fun l => cntL lens l) (fun l => ⟨(cntL_nn lens l).1, by have := (cntL_nn lens l).2; omega⟩) m
              have hp2 : (2 : Int) ^ m ≤ 32768 := by
                have := Nat.pow_le_pow_right (n := 2) (by decide) (show m ≤ 15 by omega)
                have h2 : ((2 ^ m : Nat) : Int) ≤ 32768 := by exact_mod_cast this
                simpa using h2
              have hcb2 : ((lens.take i).length : Int) ≤ 288 := by have h9 : (lens.take i).length ≤ lens.length := (by rw [List.length_take]; omega); omega
              obtain ⟨cv, hcv⟩ : ∃ z, codeAt lens i = z := ⟨_, rfl⟩
              have hcv2 : 0 ≤ cv ∧ cv ≤ 100000000 := by rw [← hcv, hca]; omega
              have hst := outI_set lens i
              rw [hcv] at c0' hst
              have hv1 := hcv2.1
              have hv2 := hcv2.2
              obtain ⟨y0, z0⟩ := Kd.R_celln 0 HO8.out (i : Int) (by omega) (by omega)
              simp only [Int.toNat_natCast] at y0 z0
              have hput := Kd.R_putg HO8.out (i : Int) cv
              simp only [Int.toNat_natCast] at hput
              rw [hst] at hput
              have HP := Aside0.mk hput
              have HCA := Aside0.mk (show cv = nxt (fun l => cntL lens l) m + cntL (lens.take i) m from by rw [← hcv, hca])
              have hM0 := Aside0.mk hm0
              clear hcb hnb hp2 hcb2 hcv hca hxr htk hx c0 hst hput hm0 hlt hcv2
              go_upto_region 15 with (fail)
              have HK4 := Aside0.mk (show KS W (wr.setCell ⟨g8, i, none⟩ (.int .i64 cv)) q q2 f (fun k => if k = 0 then 0 else nxt (fun l => cntL lens l) k + cntL (lens.take i) k) from ⟨HK.out.be.grown HP.out.2 HK.out.be.size (fun b hb => Kd.R_base HO8.out b (by rw [← hb]; rfl)), HK.out.le, HK.out.ne, (Below.heap_setCell _ _ _ _ (fun e => HNB.out.1 e.symm)).trans HK.out.ar, (Below.heap_setCell _ _ _ _ (fun e => HNB.out.2 e.symm)).trans HK.out.nx⟩)
              have HO4 := Aside0.mk HP.out.1
              have c0' : (wr.setCell ⟨g8, i, none⟩ (.int .i64 cv)).cell? ⟨q2, m, none⟩ = some (.int .i64 cv) := by
                rw [HK4.out.nx.cell m hm]
                show some (Value.int .i64 (if m = 0 then 0 else _)) = _
                rw [if_neg hM0.out, HCA.out]
              have f0 := HK4.out.nx.frozen m
              clear y0 z0 HK HO8 HP
              generalize wr.setCell ⟨g8, i, none⟩ (.int .i64 cv) = w12 at HK4 HO4 c0' f0 ⊢
              go_wp2_with fail
              have HK5 := Aside0.mk ((HK4.out.set m (cv + 1)).congr (h' := fun k => if k = 0 then 0 else nxt (fun l => cntL lens l) k + cntL (lens.take (i + 1)) k) (fun k _ => by
                unfold upd
                rw [HTK.out, cntL_snoc]
                by_cases h0 : k = m
                · subst h0
                  rw [if_pos rfl, if_neg hM0.out, if_pos rfl, HCA.out]
                  omega
                · rw [if_neg h0, if_neg (show ¬ (m : Int) = (k : Int) by omega)]
                  show (if k = 0 then (0 : Int) else _) = if k = 0 then 0 else _
                  rw [Int.add_zero]))
              have HO5 := Aside0.mk (Kd.R_set HO4.out HK4.out.nx (by decide) m (.int .i64 (cv + 1)))
              go_roundw
              case rel => exact ⟨i + 1, by simp, HI.out, HK5, HO5⟩
              case measure => simp [intOf]; have := HI.out; omega
          · have hie : i = lens.length := by omega
            subst hie
            have hb2 : decide ((lens.length : Int) < (lens.length : Int)) = false := by simp
            clear hlt
            go_wp2_with fail
            go_ret2
            exact ⟨_, (by rw [HO.out]; rfl), by rw [HO.out, ← outI_all]; exact HO8.out, HK.out.be⟩
end Go.Proofs.Ytmmoenleldcadaa.HF
