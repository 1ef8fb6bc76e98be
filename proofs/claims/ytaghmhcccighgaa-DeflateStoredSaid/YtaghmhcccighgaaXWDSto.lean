/- DeflateStored: walked. -/
import Derived.Test.YtaghmhcccighgaaXPWDSto
import Derived.Maps.AppendAt
namespace Go.Proofs.Ytaghmhcccighgaa.DF
open Go.RowKit Go.Proofs.YtaghmhcccighgaaW.PrintWords Go.Proofs.YtaghmhcccighgaaW.PrintLast Go.Proofs.YtaghmhcccighgaaW.PrintMore Go.Proofs.Ytaghmhcccighgaa.HW Go.Proofs.Ytaghmhcccighgaa.MB Go.Proofs.Ytaghmhcccighgaa.Fn Go.Proofs.Ytaghmhcccighgaa.HF Go.Proofs.Ytaghmhcccighgaa.RT Go.Proofs.Ytaghmhcccighgaa.RT.Rd Go.Proofs.Ytaghmhcccighgaa.HP Go.Proofs.Ytaghmhcccighgaa.HI Go.Proofs.Ytaghmhcccighgaa.IW
attribute [local go_sem] max2_int min2_int max_two min_two max_three min_three max_four min_four   -- for this text's walks alone
theorem andm (n : Int) (m : Nat) (mi : Int) (hi : mi = (m : Int)) (hm : m < 2 ^ 62) : ∃ k : Nat, Go.bits .and .i64 n mi = (k : Int) ∧ k ≤ m := by
  subst hi
  have hle : (BitVec.ofInt 64 n).toNat &&& m ≤ m := Nat.and_le_right
  refine ⟨(BitVec.ofInt 64 n).toNat &&& m, ?_, hle⟩
  have e1 : (BitVec.ofInt 64 n &&& BitVec.ofInt 64 (m : Int)).toNat = (BitVec.ofInt 64 n).toNat &&& m := by
    rw [BitVec.toNat_and, BitVec.ofInt_natCast, BitVec.toNat_ofNat, Nat.mod_eq_of_lt (by omega)]
  show IntKind.i64.wrap ((BitVec.ofInt 64 n &&& BitVec.ofInt 64 (m : Int)).toNat : Int) = _
  rw [e1]
  exact wraps_i64 _ (Int.natCast_nonneg _) (cast_lt_two_pow (by omega))
theorem and255 (n : Nat) (h : n ≤ 65535) : bits .and .i64 (n : Int) 255 = ((n % 256 : Nat) : Int) := by
  have := bits_mask .i64 63 (by decide) (fun n h0 h1 => by rw [IntKind.wrap_i64]; omega) 8 (by decide) (n : Int) (by omega) (by omega)
  rw [show (255 : Int) = 2 ^ 8 - 1 by decide, this]
  omega
theorem cells_reads (w : World) (xs : List Int) (n : Nat) (hn : xs.length = n) (h : n ≤ 1000) : ReadsInt (w.alloc (.cells (nums .u8 xs).toArray 5)) .u8 (some ⟨w.heap.size, 0, none⟩) n xs := by
  refine ⟨hn, by omega, fun _ => ⟨_, rfl, fun j hj => ?_⟩⟩
  rw [add_plain]
  refine (blk_cell (heap_alloc_new w _) j).trans ?_
  unfold nums
  rw [List.getElem?_toArray, List.getElem?_map, List.getElem?_eq_getElem (by omega), List.getD_eq_getElem?_getD, List.getElem?_eq_getElem (by omega)]
  rfl
theorem slCut {A : Option Addr} {n c m : Nat} (hm : m ≤ n) (hc : n ≤ c) (w : World) : (Instr.slice 28 (.slice A n c) none (some (.int .i64 (m : Int))) none).run Try.prog w = .ok (.slice A m c) w := by
  obtain ⟨i0, hi, _⟩ := Option.map_eq_some_iff.1 HI.info5
  have := cut_to (P := Try.prog) 28 5 .i64 Try.underlying28 hi A n c (m : Int) (by omega) (by omega) hc w
  rw [Int.toNat_natCast] at this
  exact this
theorem slMid {A : Option Addr} {n c p q : Nat} (hp : p ≤ q) (hq : q ≤ n) (hc : n ≤ c) (w : World) : (Instr.slice 28 (.slice A n c) (some (.int .i64 (p : Int))) (some (.int .i64 (q : Int))) none).run Try.prog w = .ok (.slice (if c = p then A else A.map (·.add (p * 1))) (q - p) (c - p)) w := by
  obtain ⟨i0, hi, hz⟩ := Option.map_eq_some_iff.1 HI.info5
  simp only [Prod.mk.injEq] at hz
  have hel : Try.prog.elem 28 = 5 := by simp [Program.elem, Try.underlying28]
  have hu : Try.prog.underlying 28 = some (.slice (Try.prog.elem 28)) := by rw [hel]; exact Try.underlying28
  rw [run_slice_lh w 28 A n c hu .i64 .i64 (p : Int) (q : Int) (by omega) (by omega) (by omega), hel]
  simp [sizeOf, typeInfo, hi, hz.2.1, sliced, Result.andThen]
theorem C_cut {w : World} {A : Option Addr} {xs : List Int} {p q c : Nat} (h : (Kd.int .u8).C w A xs.length xs) (h1 : p ≤ q) (h2 : q ≤ xs.length) (hc : xs.length ≤ c) : ReadsInt w .u8 (if c = p then A else A.map (·.add (p * 1))) (q - p) ((xs.take q).drop p) := by
  have hl : (xs.take q).length = q := by rw [List.length_take]; omega
  have h3 := Kd.C_drop (c := c) (m := p) (Kd.C_take h h2) (by omega) (by omega)
  have h4 := Kd.reads_of_C (enc := Value.int .u8) (d := (0 : Int)) (h1 := fun _ => rfl) h3
  rw [List.length_drop, hl] at h4
  exact h4
theorem row_nums {W : World} {B : Nat} {v : Value} {xs : List Int} (h : Kd.R (Kd.int .u8) 5 W B (fun _ => True) v xs) : W.ownsRow B 5 1 v xs.length (nums .u8 xs) := Kd.own_of_R (enc := Value.int .u8) (h1 := fun _ => rfl) h
theorem nums_row {W : World} {B : Nat} {v : Value} {xs : List Int} (h : W.ownsRow B 5 1 v xs.length (nums .u8 xs)) : Kd.R (Kd.int .u8) 5 W B (fun _ => True) v xs := Kd.R_of_own (enc := Value.int .u8) (h1 := fun _ => rfl) h (fun _ _ => trivial)
theorem cap_of {w : World} {B m c : Nat} {A : Option Addr} {S : ByteArray} (h : w.ownsRow B 5 1 (.slice A m c) (bytesOf S).length (nums .u8 (bytesOf S))) (hS : S.size = m) : m ≤ c := by
  rw [bytesOf_length, hS] at h
  rcases h.2 with ⟨h1, h2⟩ | ⟨g, cap, cur, h1, _, _, h3, _⟩
  · omega
  · injection h1 with e1 e2 e3
    omega
theorem read_part {W1 w : World} {A A2 : Option Addr} {T : ByteArray} {p q kk c : Nat} (h : (Kd.int .u8).C W1 A T.size (bytesOf T)) (hb : Below W1.heap.size W1 w) (hpq : p ≤ q) (hq : q ≤ T.size) (hc : T.size ≤ c) (hA : (if c = p then A else A.map (·.add (p * 1))) = A2) (hk : p + kk = q) : ReadsInt w .u8 A2 kk (bytesOf (T.extract p q)) := by
  have hl := bytesOf_length T
  have h1 := Kd.C_below h hb
  rw [← hl] at h1
  have h2 := C_cut (c := c) h1 hpq (by omega) (by omega)
  rw [hA, show q - p = kk by omega, ← bytes_cut] at h2
  exact h2
section
variable {P : Program} {w0 w : World}
/-- A row of bytes, behind an own row. -/
theorem app_ints {ops : Array Oper} {rest : List Oper} {o : Oper} {a : Act} {Q : Exit → Act → World → Prop} (base : Nat) (hgd : o.guard = none) (s x : Operand) (t e : TypeId)
    (ho : o.op = .call { callee := .builtin .append, args := #[s, x], argTypes := #[t, t] })
    (ht : P.underlying t = some (.slice e)) (hinfo : (P.info? e).map (fun i => (i.zero, i.size, i.bytes)) = some (some (.int .u8 0), 1, 1))
    (v : Value) (xs ys : List Int) (A : Option Addr) (m c : Nat) (hs : a.eval s = v) (hx : a.eval x = .slice A m c) (HO : w.ownsRow base e 1 v xs.length (nums .u8 xs)) (HR : ReadsInt w .u8 A m ys) (HB : Below base w0 w) (hbase : base ≤ w.heap.size) (hl : xs.length + m ≤ 100000000)
    (h : ∀ v1 w1, w1.ownsRow base e 1 v1 (xs ++ ys).length (nums .u8 (xs ++ ys)) → Below base w0 w1 → wpList P ops Q rest (a.put o.dst v1) w1) : wpList P ops Q (o :: rest) a w := by
  obtain ⟨i0, hi, hzz⟩ := Option.map_eq_some_iff.1 hinfo
  simp only [Prod.mk.injEq] at hzz
  obtain ⟨hz0, hz1, hz2⟩ := hzz
  have hm : ys.length = m := HR.1
  have hlen : (xs ++ ys).length = xs.length + m := by rw [List.length_append, hm]
  rcases A with _ | ad
  · have h0 : m = 0 := by
      rcases Nat.eq_zero_or_pos m with h0 | h0
      · exact h0
      · obtain ⟨ad, he, _⟩ := HR.2.2 h0
        cases he
    subst h0
    obtain rfl : ys = [] := List.eq_nil_of_length_eq_zero hm
    have hrun : (Builtin.append_ #[t, t] o.type #[v, .slice none 0 c]).run P w = .ok v w := by
      rcases HO.2 with ⟨rfl, hn⟩ | ⟨g, cap, cur, rfl, _, _, hnc, _⟩
      · simp [Builtin.append_, run_underlying ht, sizeOf, typeInfo, hi, Builtin.lenOf, Builtin.firstCells]
      · simp [Builtin.append_, run_underlying ht, sizeOf, typeInfo, hi, Builtin.lenOf, Builtin.firstCells, hnc, storeCells]
    refine wpList_plain hgd fun K hK => ?_
    unfold Oper.wp execOp
    simp only [ho, resolve, invoke, builtin, Sem.run_bind, Sem.run_pure, Result.andThen_ok, List.map_toArray, List.map_cons, List.map_nil, hs, hx, hrun]
    exact hK _ _ (h v w (by rw [List.append_nil]; exact HO) HB)
  · refine wpList_append_own_at w hgd s x t ho base e i0 (.int .u8 0) 1 1 ht hi hz0 hz1 hz2 rfl (by decide) v xs.length (nums .u8 xs) hs HO ad m c (nums .u8 ys) hx (by rw [nums_length, hm, Nat.mul_one]) (fun j u hu => ?_) (fun u hu => ?_) (by simp only [maxLen]; omega) (by omega) hbase (fun v1 w1 h1 h2 _ _ => ?_)
    · have hj : j < ys.length := by
        obtain ⟨h1, _⟩ := List.getElem?_eq_some_iff.1 hu
        rw [nums_length] at h1
        exact h1
      obtain ⟨ad2, he, hc⟩ := HR.2.2 (by omega)
      injection he with he
      subst he
      rw [hc j (by omega)]
      unfold nums at hu
      rw [List.getElem?_map, List.getElem?_eq_getElem hj] at hu
      rw [List.getD_eq_getElem?_getD, List.getElem?_eq_getElem hj]
      exact hu
    · obtain ⟨z, _, rfl⟩ := List.mem_map.1 hu
      rfl
    · refine h v1 w1 (by rw [hlen, nums_append]; exact h1) (HB.grown h2 hbase (fun k hk => own_base HO k hk))
end
/-- The text that grows. -/
structure AllS (W wr : World) (v : Value) (S : ByteArray) : Prop where
  ro : Kd.R (Kd.int .u8) 5 wr W.heap.size (fun _ => True) v (bytesOf S)
  be : Below W.heap.size W wr
/-- What was put so far, behind the text. -/
structure PutS (W1 wr : World) (v : Value) (T : ByteArray) (p : Nat) (l : List Int) : Prop where
  ro : Kd.R (Kd.int .u8) 5 wr W1.heap.size (fun _ => True) v l
  be : Below W1.heap.size W1 wr
  t : StoT T p l
set_option maxRecDepth 100000 in
set_option maxHeartbeats 16000000 in
theorem dsto_walk (s : ByteArray) (hs : s.size ≤ 140737488351232) (many : Int) (_hw : (Lit.int .i64 many).wf = true) (W : World) : Calls Try.prog 4 #[.string s, .int .i64 many] W fun e w' => e = .returned (.bool true) ∧ Below W.heap.size W w' := by
  have HAW := Aside0.mk awake_ok
  obtain ⟨k, hk, hk2⟩ := andm many 131071 131071 rfl (by decide)
  by_cases h : s.size = 0 ∨ 1024 < s.size
  · have HO := Aside0.mk h
    clear h
    go_enter Try.func4, Try.ntmps4
    rcases HO.out with h | h
    · have b0 : ((s.size : Int) == 0) = true := by rw [beq_iff_eq]; omega
      have b2 : (s.size == 0) = true := by rw [beq_iff_eq]; exact h
      clear h HO
      go_wp2_with fail
      refine (HAW.out _).mono ?_
      rintro e w1 ⟨rfl, hb1⟩
      have HB1 := Aside0.mk hb1
      clear hb1
      go_wp2_with fail
      go_ret
      exact ⟨rfl, HB1.out⟩
    · have b0 : ((s.size : Int) == 0) = false := by rw [beq_eq_false_iff_ne]; omega
      have b2 : (s.size == 0) = false := by rw [beq_eq_false_iff_ne]; omega
      have b4 : decide ((1024 : Int) < (s.size : Int)) = true := decide_eq_true (by omega)
      have b5 : decide (1024 < s.size) = true := decide_eq_true h
      clear h HO
      go_wp2_with fail
      refine (HAW.out _).mono ?_
      rintro e w1 ⟨rfl, hb1⟩
      have HB1 := Aside0.mk hb1
      clear hb1
      go_wp2_with fail
      go_ret
      exact ⟨rfl, HB1.out⟩
  · have b0 : ((s.size : Int) == 0) = false := by rw [beq_eq_false_iff_ne]; omega
    have b2 : (s.size == 0) = false := by rw [beq_eq_false_iff_ne]; omega
    have b4 : decide ((1024 : Int) < (s.size : Int)) = false := decide_eq_false (by omega)
    have b5 : decide (1024 < s.size) = false := decide_eq_false (by omega)
    have hsz : 0 < s.size ∧ s.size ≤ 1024 := by omega
    have HSZ := Aside0.mk hsz
    have HK := Aside0.mk hk2
    have HS0 : Aside0 (AllS W W (.slice none 0 0) ⟨#[]⟩) := ⟨⟨Kd.R_nil _ _ _ _ _, Below.refl _ _⟩⟩
    clear h hs hsz hk2
    go_enter Try.func4, Try.ntmps4
    go_wp2_with fail
    go_loopw [6] (fun v6 wr => ∃ (m c : Nat) (A : Option Addr) (S : ByteArray), v6 = .slice A m c ∧ Aside0 (S.size = m) ∧ m ≤ k + 1024 ∧ Aside0 (AllS W wr (.slice A m c) S)) (fun v6 _ => k - (match v6 with | .slice _ n _ => n | _ => 0))
    case atStart => exact ⟨0, 0, none, ⟨#[]⟩, rfl, ⟨rfl⟩, Nat.zero_le _, HS0⟩
    case round =>
      clear HS0
      obtain ⟨m, c, A, S, rfl, HM, hmk, HS⟩ := hrel
      have hk' := HK.out
      by_cases hlt : m < k
      · have c1 : decide ((m : Int) < (k : Int)) = true := decide_eq_true (by omega)
        have c2 : decide (m < k) = true := decide_eq_true hlt
        have HML := Aside0.mk (And.intro hlt hmk)
        have hbl : (bytesOf S).length = m := by rw [bytesOf_length]; exact HM.out
        have HBL := Aside0.mk hbl
        have HRO : Aside0 (wr.ownsRow W.heap.size 5 1 (.slice A m c) (bytesOf S).length (nums .u8 (bytesOf S))) := ⟨row_nums HS.out.ro⟩
        clear hlt hmk hk' hbl
        go_wp2_with ((with_reducible refine gate_builtin (b := .append) (xs := #[.tmp 28, .tmp 29]) rfl ?_); at_builtin; go_must (refine app_str W.heap.size rfl (.tmp 28) (.tmp 29) 28 9 5 rfl Try.underlying28 Try.underlying9 HI.info5 (.slice A m c) (bytesOf S) s rfl rfl HRO.out HS.out.be.size ?hl ?_); (case hl => rw [HBL.out]; have := HML.out; have := HK.out; have := HSZ.out; omega); intro v2 w2 ho hg _; have HO2 := Aside0.mk ho; have HB2 := Aside0.mk (HS.out.be.grown hg HS.out.be.size (fun k hk => Kd.R_base HS.out.ro k hk)); clear ho hg)
        have hbs : (S ++ s).size = m + s.size := by rw [ByteArray.size_append, HM.out]
        have hrow : Kd.R (Kd.int .u8) 5 w2 W.heap.size (fun _ => True) v2 (bytesOf (S ++ s)) := by
          rw [bytes_two]
          exact nums_row HO2.out
        obtain ⟨A2, c2, e2⟩ := Kd.R_slice hrow
        rw [bytesOf_length, hbs] at e2
        subst e2
        have HS2 : Aside0 (AllS W w2 (.slice A2 (m + s.size) c2) (S ++ s)) := ⟨⟨hrow, HB2.out⟩⟩
        have HM2 := Aside0.mk hbs
        clear hrow hbs
        go_roundw
        case rel => exact ⟨m + s.size, c2, A2, S ++ s, rfl, HM2, by have := HML.out; have := HSZ.out; omega, HS2⟩
        case measure => simp; have := HML.out; have := HSZ.out; omega
      · have c1 : decide ((m : Int) < (k : Int)) = false := decide_eq_false (by omega)
        have c2 : decide (m < k) = false := decide_eq_false hlt
        have hcap : m ≤ c := by
          have := (row_nums HS.out.ro)
          exact cap_of this HM.out
        have s1 := fun w => slCut (A := A) (n := m) (c := c) (m := k) (by omega) hcap w
        obtain ⟨T, hT⟩ : ∃ T, S.extract 0 k = T := ⟨_, rfl⟩
        have hTk : T.size = k := by rw [← hT, ByteArray.size_extract, HM.out]; omega
        have hC : (Kd.int .u8).C wr A (bytesOf T).length (bytesOf T) := by
          rw [← hT, bytes_cut, List.drop_zero]
          refine Kd.C_take ?_ (by rw [bytesOf_length, HM.out]; omega)
          exact (Kd.R_reads' HS.out.ro).2.2
        have hTC : (Kd.int .u8).C wr A T.size (bytesOf T) := by
          have := hC
          rw [bytesOf_length] at this
          exact this
        obtain rfl : T.size = k := hTk
        have HCT := Aside0.mk hTC
        have HCC := Aside0.mk (show T.size ≤ c by omega)
        have HBE := Aside0.mk HS.out.be
        have HP0 : Aside0 (PutS wr wr (.slice none 0 0) T 0 []) := ⟨⟨Kd.R_nil _ _ _ _ _, Below.refl _ _, sto_begin T⟩⟩
        clear hT hC hTC hcap hmk hlt hk' HM HS
        go_upto_region 9 with fail
        obtain ⟨W1, hW1⟩ : ∃ x, x = wr := ⟨_, rfl⟩
        subst hW1
        clear c1 c2 s1
        go_wp2_with fail
        go_loopw [7, 8] (fun v7 v8 wx => ∃ (p : Nat) (l : List Int), v8 = .int .i64 p ∧ p ≤ 200000 ∧ Aside0 (PutS W1 wx v7 T p l)) (fun _ v8 _ => 300000 - (intOf v8).toNat)
        case atStart => exact ⟨0, [], rfl, Nat.zero_le _, HP0⟩
        case round =>
          clear HP0
          obtain ⟨p, l, rfl, hp6, HP⟩ := hrel
          obtain ⟨A7, c7, e7⟩ := Kd.R_slice HP.out.ro
          subst e7
          have hT := HK.out
          rcases HP.out.t with hgo | ⟨h0, hTp, hl⟩
          · have hor : p = 0 ∨ p < T.size := by
              obtain ⟨_, _, _, h, _⟩ := hgo
              exact h
            have HGO := Aside0.mk hgo
            have HOR := Aside0.mk hor
            clear hgo hor
            go_upto_region 10 with (fail)
            go_cut [40] from 34 to 41 (fun v w => v = .bool true ∧ wr = w)
            case first =>
              have hor := HOR.out
              by_cases hp0 : p = 0
              · subst hp0
                clear hor
                go_wp2_with fail
                go_meet
                case rel => exact ⟨rfl, rfl⟩
              · have g1 : ((p : Int) == 0) = false := by rw [beq_eq_false_iff_ne]; omega
                have g2 : (p == 0) = false := by rw [beq_eq_false_iff_ne]; exact hp0
                have g3 : decide ((p : Int) < (T.size : Int)) = true := decide_eq_true (by omega)
                have g4 : decide (p < T.size) = true := decide_eq_true (by omega)
                clear hor hp0
                go_wp2_with fail
                go_meet
                case rel => exact ⟨rfl, rfl⟩
            case rest =>
              obtain ⟨rfl, rfl⟩ := hcut
              obtain ⟨r, kk, q, lo, hh, b, hr, hq, hqT, hkk, hm, hb, hlo, hhh, hpT, hst⟩ := sto_round hT HGO.out
              have HST := Aside0.mk hst
              have hsub : (T.size : Int) - (p : Int) = (r : Int) := by omega
              have hqI : (p : Int) + (kk : Int) = (q : Int) := by omega
              have hbI : ((q : Int) == (T.size : Int)) = b := by
                rw [← hb]
                by_cases h : q = T.size
                · rw [decide_eq_true h, beq_iff_eq]; omega
                · rw [decide_eq_false h, beq_eq_false_iff_ne]; omega
              have hbI2 : (q == T.size) = b := by
                rw [← hb]
                by_cases h : q = T.size
                · rw [decide_eq_true h, beq_iff_eq]; exact h
                · rw [decide_eq_false h, beq_eq_false_iff_ne]; exact h
              have hand := and255 kk hkk
              rw [hlo] at hand
              have hlo2 : lo < 256 := by omega
              have wm1 : (lo : Int) % 256 = (lo : Int) := by omega
              have wm2 : wrap64 (255 - (lo : Int)) = 255 - (lo : Int) := wrap64_id _ (by omega) (by omega)
              have wm3 : (255 - (lo : Int)) % 256 = 255 - (lo : Int) := by omega
              have hdiv : (kk : Int) / 256 = (hh : Int) := by omega
              have hh2 : hh < 256 := by omega
              have vm1 : (hh : Int) % 256 = (hh : Int) := by omega
              have vm2 : wrap64 (255 - (hh : Int)) = 255 - (hh : Int) := wrap64_id _ (by omega) (by omega)
              have vm3 : (255 - (hh : Int)) % 256 = 255 - (hh : Int) := by omega
              obtain ⟨p2, hp2⟩ : ∃ p2, p + 65535 = p2 := ⟨_, rfl⟩
              have hpp : (p : Int) + 65535 = (p2 : Int) := by omega
              have HP2 := Aside0.mk hp2
              have HPQ := Aside0.mk (And.intro hq (And.intro hqT (And.intro hpT (And.intro (show p ≤ q by omega) hkk))))
              have s2 := fun w => slMid (A := A) (n := T.size) (c := c) (p := p) (q := q) (by omega) hqT HCC.out w
              obtain ⟨A2, hA2⟩ : ∃ A2, (if c = p then A else A.map (·.add (p * 1))) = A2 := ⟨_, rfl⟩
              obtain ⟨c2, hc2⟩ : ∃ c2, c - p = c2 := ⟨_, rfl⟩
              rw [hA2, hc2, show q - p = kk by omega] at s2
              have hA2 := Aside0.mk hA2
              have HLL := Aside0.mk (stoT_len HP.out.t HK.out)
              clear hc2
              have HM := Aside0.mk hm
              clear hp2 hst hr hq hm hb hlo hhh hp6 hpT hqT hkk hlo2 hh2
              go_upto_region 12 with (fail)
              go_cut [9] from 43 to 47 (fun v9 w => v9 = .int .i64 kk ∧ wr = w)
              case first =>
                by_cases h65 : r < 65535
                · have h1 : (r : Int) < 65535 := by omega
                  have hkr : kk = r := by have := HM.out; omega
                  have HKR := Aside0.mk hkr
                  clear h65 hkr
                  go_wp2_with fail
                  go_meet
                  case rel => exact ⟨by rw [HKR.out]; try rfl, rfl⟩
                · have h1 : ¬ (r : Int) < 65535 := by omega
                  have hkr : kk = 65535 := by have := HM.out; omega
                  have HKR := Aside0.mk hkr
                  clear h65 hkr
                  go_wp2_with fail
                  go_meet
                  case rel => exact ⟨by rw [HKR.out]; try rfl, rfl⟩
              case rest =>
                obtain ⟨rfl, rfl⟩ := hcut
                cases b
                · have HST2 : Aside0 (StoT T (p + 65535) (l ++ fiveB 0 lo hh ++ bytesOf (T.extract p q))) := ⟨HST.out⟩
                  go_upto_region 17 with ((with_reducible refine gate_builtin (b := .append) (xs := #[.tmp 52, .tmp 68]) rfl ?_); at_builtin; go_must (refine app_ints (w0 := W1) W1.heap.size rfl (.tmp 52) (.tmp 68) 28 5 rfl Try.underlying28 HI.info5 (.slice A7 l.length c7) l (fiveB 0 lo hh) (some ⟨wr.heap.size, 0, none⟩) 5 5 rfl rfl ?aO ?aR ?aB ?aS ?aL ?_); (case aO => exact row_nums (Kd.R_below HP.out.ro (below_alloc (Below.refl wr.heap.size wr) _))); (case aR => exact cells_reads wr (fiveB 0 lo hh) 5 rfl (by decide)); (case aB => exact HP.out.be.trans ((below_alloc (Below.refl wr.heap.size wr) _).mono HP.out.be.size)); (case aS => exact Nat.le_trans HP.out.be.size (below_alloc (Below.refl wr.heap.size wr) _).size); (case aL => have := HLL.out; omega); intro v1 w1 ho hb; have HO1 := Aside0.mk ho; have HB1 := Aside0.mk hb; clear ho hb)
                  have HR1 := Aside0.mk (nums_row HO1.out)
                  obtain ⟨A8, c8, e8⟩ := Kd.R_slice HR1.out
                  subst e8
                  have HRD := Aside0.mk (read_part HCT.out HB1.out HPQ.out.2.2.2.1 HPQ.out.2.1 HCC.out hA2.out HPQ.out.1)
                  go_wp2_with ((with_reducible refine gate_builtin (b := .append) (xs := #[.tmp 70, .tmp 76]) rfl ?_); at_builtin; go_must (refine app_ints (w0 := W1) W1.heap.size rfl (.tmp 70) (.tmp 76) 28 5 rfl Try.underlying28 HI.info5 (.slice A8 (l ++ fiveB 0 lo hh).length c8) (l ++ fiveB 0 lo hh) (bytesOf (T.extract p q)) A2 kk c2 rfl rfl ?aO ?aR ?aB ?aS ?aL ?_); (case aO => exact HO1.out); (case aR => exact HRD.out); (case aB => exact HB1.out); (case aS => exact HB1.out.size); (case aL => have := HLL.out; have h5 : (fiveB 0 lo hh).length = 5 := rfl; rw [List.length_append, h5]; have := HPQ.out; omega); intro v2 w2 ho hb; have HO2 := Aside0.mk ho; have HB2 := Aside0.mk hb; clear ho hb)
                  have HS2 : Aside0 (PutS W1 w2 v2 T p2 (l ++ fiveB 0 lo hh ++ bytesOf (T.extract p q))) := ⟨⟨nums_row HO2.out, HB2.out, by rw [← HP2.out]; exact HST2.out⟩⟩
                  go_roundw
                  case rel => exact ⟨p2, _, rfl, by have := HP2.out; have := HPQ.out; have := HK.out; omega, HS2⟩
                  case measure => simp [intOf]; have := HP2.out; have := HPQ.out; have := HK.out; omega
                · have HST2 : Aside0 (StoT T (p + 65535) (l ++ fiveB 1 lo hh ++ bytesOf (T.extract p q))) := ⟨HST.out⟩
                  go_upto_region 17 with ((with_reducible refine gate_builtin (b := .append) (xs := #[.tmp 52, .tmp 68]) rfl ?_); at_builtin; go_must (refine app_ints (w0 := W1) W1.heap.size rfl (.tmp 52) (.tmp 68) 28 5 rfl Try.underlying28 HI.info5 (.slice A7 l.length c7) l (fiveB 1 lo hh) (some ⟨wr.heap.size, 0, none⟩) 5 5 rfl rfl ?aO ?aR ?aB ?aS ?aL ?_); (case aO => exact row_nums (Kd.R_below HP.out.ro (below_alloc (Below.refl wr.heap.size wr) _))); (case aR => exact cells_reads wr (fiveB 1 lo hh) 5 rfl (by decide)); (case aB => exact HP.out.be.trans ((below_alloc (Below.refl wr.heap.size wr) _).mono HP.out.be.size)); (case aS => exact Nat.le_trans HP.out.be.size (below_alloc (Below.refl wr.heap.size wr) _).size); (case aL => have := HLL.out; omega); intro v1 w1 ho hb; have HO1 := Aside0.mk ho; have HB1 := Aside0.mk hb; clear ho hb)
                  have HR1 := Aside0.mk (nums_row HO1.out)
                  obtain ⟨A8, c8, e8⟩ := Kd.R_slice HR1.out
                  subst e8
                  have HRD := Aside0.mk (read_part HCT.out HB1.out HPQ.out.2.2.2.1 HPQ.out.2.1 HCC.out hA2.out HPQ.out.1)
                  go_wp2_with ((with_reducible refine gate_builtin (b := .append) (xs := #[.tmp 70, .tmp 76]) rfl ?_); at_builtin; go_must (refine app_ints (w0 := W1) W1.heap.size rfl (.tmp 70) (.tmp 76) 28 5 rfl Try.underlying28 HI.info5 (.slice A8 (l ++ fiveB 1 lo hh).length c8) (l ++ fiveB 1 lo hh) (bytesOf (T.extract p q)) A2 kk c2 rfl rfl ?aO ?aR ?aB ?aS ?aL ?_); (case aO => exact HO1.out); (case aR => exact HRD.out); (case aB => exact HB1.out); (case aS => exact HB1.out.size); (case aL => have := HLL.out; have h5 : (fiveB 1 lo hh).length = 5 := rfl; rw [List.length_append, h5]; have := HPQ.out; omega); intro v2 w2 ho hb; have HO2 := Aside0.mk ho; have HB2 := Aside0.mk hb; clear ho hb)
                  have HS2 : Aside0 (PutS W1 w2 v2 T p2 (l ++ fiveB 1 lo hh ++ bytesOf (T.extract p q))) := ⟨⟨nums_row HO2.out, HB2.out, by rw [← HP2.out]; exact HST2.out⟩⟩
                  go_roundw
                  case rel => exact ⟨p2, _, rfl, by have := HP2.out; have := HPQ.out; have := HK.out; omega, HS2⟩
                  case measure => simp [intOf]; have := HP2.out; have := HPQ.out; have := HK.out; omega
          · have g1 : ((p : Int) == 0) = false := by rw [beq_eq_false_iff_ne]; omega
            have g2 : (p == 0) = false := by rw [beq_eq_false_iff_ne]; omega
            have g3 : decide ((p : Int) < (T.size : Int)) = false := decide_eq_false (by omega)
            have g4 : decide (p < T.size) = false := decide_eq_false (by omega)
            have HL := Aside0.mk hl
            have hC := Kd.C_below HCT.out HP.out.be
            have hcv := Kd.C_string (P := Try.prog) (A := A) (c := c) Try.underlying28 Try.underlying5 Try.underlying9 hC
            rw [strOfNums_bytesOfD] at hcv
            have H1 := Aside0.mk (fun W : World => stored_ok T (by have := HK.out; omega) W)
            have HBW := Aside0.mk (HBE.out.trans (HP.out.be.mono HBE.out.size))
            clear h0 hTp hl hC hp6 hT
            go_wp2_with fail
            refine (H1.out _).mono ?_
            rintro e w5 ⟨z, rfl, hz, hb5⟩
            have HB5 := Aside0.mk (HBW.out.trans (hb5.mono HBW.out.size))
            have hcv2 := Kd.C_string (P := Try.prog) (A := A7) (c := c7) Try.underlying28 Try.underlying5 Try.underlying9 (Kd.C_below (Kd.R_reads' HP.out.ro).2.2 hb5)
            have hlz : strOfNums l = z := by rw [HL.out]; exact sto_told hz
            rw [hlz] at hcv2
            have e1 : decide (z = z) = true := decide_eq_true rfl
            clear hb5 hz hlz hcv
            go_wp2_with fail
            refine (HAW.out _).mono ?_
            rintro e w6 ⟨rfl, hb6⟩
            have HB6 := Aside0.mk (HB5.out.trans (hb6.mono HB5.out.size))
            clear hb6
            go_wp2_with fail
            go_ret
            exact ⟨rfl, HB6.out⟩
end Go.Proofs.Ytaghmhcccighgaa.DF
