/- What InflateSays calls: put; walked. -/
import Derived.Test.YteffjbjhkaobfaaPSayI
namespace Go.Proofs.Yteffjbjhkaobfaa.IW
open Go.RowKit Go.Proofs.YteffjbjhkaobfaaW.PrintWords Go.Proofs.YteffjbjhkaobfaaW.PrintLast Go.Proofs.YteffjbjhkaobfaaW.PrintMore Go.Proofs.Yteffjbjhkaobfaa.HW Go.Proofs.Yteffjbjhkaobfaa.MB Go.Proofs.Yteffjbjhkaobfaa.Fn Go.Proofs.Yteffjbjhkaobfaa.HF Go.Proofs.Yteffjbjhkaobfaa.RT Go.Proofs.Yteffjbjhkaobfaa.RT.Rd Go.Proofs.Yteffjbjhkaobfaa.HP Go.Proofs.Yteffjbjhkaobfaa.HI
attribute [local go_sem] max2_int min2_int max_two min_two max_three min_three max_four min_four   -- for this text's walks alone
theorem bitsOf_snoc (x i : Nat) : bitsOf x (i + 1) = bitsOf x i ++ [x.testBit i] := by
  unfold bitsOf
  rw [List.range_succ, List.map_append]
  rfl
set_option maxRecDepth 100000 in
set_option maxHeartbeats 4000000 in
theorem put_ok (v : Value) (l : List Bool) (x n B : Nat) (W : World) (h : Kd.R (Kd.int .i64) 3 W B (fun _ => True) v (ib l)) (hB : B ≤ W.heap.size) (hl : l.length + n ≤ 1000000) (hx : x < 2 ^ 62) (hn : n ≤ 57) :
    Calls Try.prog 13 #[v, .int .i64 x, .int .i64 n] W fun e w' => ∃ v', e = .returned v' ∧ Kd.R (Kd.int .i64) 3 w' B (fun _ => True) v' (ib (l ++ bitsOf x n)) ∧ Fr (fun k => v.ownBlock = some k) W w' ∧ AtB W v v' := by
  have HL := Aside0.mk hl
  have HB := Aside0.mk hB
  have HX := Aside0.mk hx
  have HN := Aside0.mk hn
  have HR0 : Aside0 (Kd.R (Kd.int .i64) 3 W B (fun _ => True) v (ib (l ++ bitsOf x 0)) ∧ Fr (fun k => v.ownBlock = some k) W W ∧ AtB W v v) := ⟨by rw [show bitsOf x 0 = [] from rfl, List.append_nil]; exact h, Fr.refl _ _, AtB.refl _ _⟩
  clear h hl hB hx hn
  go_enter Try.func13, Try.ntmps13
  go_wp2_with fail
  go_loopw [0, 7] (fun v0 v7 wr => ∃ (i : Nat) (u : Value), v7 = .int .i64 i ∧ v0 = u ∧ i ≤ n ∧ Aside0 (Kd.R (Kd.int .i64) 3 wr B (fun _ => True) u (ib (l ++ bitsOf x i)) ∧ Fr (fun k => v.ownBlock = some k) W wr ∧ AtB W v u)) (fun _ v7 _ => n - (intOf v7).toNat)
  case atStart => exact ⟨0, v, rfl, rfl, Nat.zero_le _, HR0⟩
  case round =>
    clear HR0
    obtain ⟨i, u, rfl, hu, hi, HR⟩ := hrel
    have hu' := hu.symm
    clear hu
    subst hu'
    by_cases hlt : i < n
    · have b1 : decide (i < n) = true := decide_eq_true hlt
      have b2 : decide ((i : Int) < (n : Int)) = true := decide_eq_true (by omega)
      have hn57 := HN.out
      have hi57 : i ≤ 57 := by omega
      have hw : IntKind.i64.wrap ((i : Int) + 1) = (i : Int) + 1 := IntWalk.i64_in _ (by omega)
      have hi0 : (0 : Int) ≤ (i : Int) := by omega
      obtain ⟨b, hb⟩ : ∃ b, b2i (x.testBit i) = b := ⟨_, rfl⟩
      have hbit : bits BinOp.and IntKind.i64 ((x : Int) / 2 ^ i) 1 = b := by rw [← hb, b2i_bnat]; exact and_bit x i (Nat.lt_trans HX.out (by decide))
      have hib : ib (l ++ bitsOf x (i + 1)) = ib (l ++ bitsOf x i) ++ [b] := by
        rw [bitsOf_snoc, ← List.append_assoc, ib_append (l ++ bitsOf x i) [x.testBit i], ← hb]
        rfl
      have HIB := Aside0.mk hib
      have hlen : (ib (l ++ bitsOf x i)).length ≤ 1000000 := by rw [ib_length, List.length_append, bitsOf_length]; have := HL.out; omega
      have HLN := Aside0.mk hlen
      have HI2 := Aside0.mk hlt
      clear hlt hi hb hib hlen hn57
      go_wp2_with ((with_reducible refine gate_builtin (b := .append) (xs := #[.tmp 13, .tmp 18]) rfl ?_); at_builtin; go_must (refine Kd.R_append (Kd.int .i64) (w0 := wr) B rfl (.tmp 13) (.tmp 18) 29 3 (.int .i64 0) 8 rfl Try.underlying29 Fn.info3 rfl (by decide) (by decide) u (ib (l ++ bitsOf x i)) b [.int .i64 b] (fun _ => True) (fun _ => False) rfl rfl ?aP (fun _ hk => hk.elim) ?aF ?aO ?aB ?aS ?aL ?_); (case aP => exact rfl); (case aF => exact (fun _ _ => trivial)); (case aO => exact HR.out.1); (case aB => exact Below.refl _ _); (case aS => exact Nat.le_trans HB.out HR.out.2.1.size); (case aL => have := HLN.out; omega); intro v1 w8 ho hb hg hat; have HR8 : Aside0 (Kd.R (Kd.int .i64) 3 w8 B (fun _ => True) v1 (ib (l ++ bitsOf x (i + 1))) ∧ Fr (fun k => v.ownBlock = some k) W w8 ∧ AtB W v v1) := ⟨by rw [HIB.out]; exact ho, HR.out.2.1.grown hg (fun k hk => by rcases HR.out.2.2 with e | ⟨b, e, hb2⟩; exact Or.inl (e ▸ hk); rw [e] at hk; injection hk with hk; subst hk; exact Or.inr hb2), AtB.trans HR.out.2.2 hat HR.out.2.1.size⟩; clear ho hb hg hat)
      go_roundw
      case rel => exact ⟨i + 1, _, by simp, rfl, HI2.out, HR8⟩
      case measure => simp [intOf]; have := HI2.out; omega
    · have hie : i = n := by omega
      subst hie
      have b1 : decide (i < i) = false := decide_eq_false (by omega)
      have b2 : decide ((i : Int) < (i : Int)) = false := decide_eq_false (by omega)
      clear hlt hi
      go_wp2_with fail
      go_ret
      exact ⟨_, rfl, HR.out⟩
end Go.Proofs.Yteffjbjhkaobfaa.IW
