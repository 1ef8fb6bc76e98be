/- awake, walked. -/
import Derived.Test.YtjdicocmajjojaaFnb
import Derived.Test.YtjdicocmajjojaaHOf
namespace Go.Proofs.Ytjdicocmajjojaa.RA
open Go.RowKit Go.Proofs.YtjdicocmajjojaaW.PrintWords Go.Proofs.YtjdicocmajjojaaW.PrintLast Go.Proofs.YtjdicocmajjojaaW.PrintMore Go.Proofs.Ytjdicocmajjojaa.Fn Go.Proofs.Ytjdicocmajjojaa.PV Go.Proofs.Ytjdicocmajjojaa.RB Go.Proofs.Ytjdicocmajjojaa.RO
attribute [local go_sem] max2_int min2_int max_two min_two max_three min_three max_four min_four   -- for this text's walks alone
attribute [local go_sem high] eqA28
def record_Bytes.f (l0 : List (S28)) (a1 : Int) : Option (ByteArray × Int) := RB.recBytes l0 a1
def record_Of.f (a0 : ByteArray) (a1 : Int) (a2 : Int) : Option ((List (S28)) × Int) := RO.recOf a0 a1 a2
theorem record_Of.calls (a0 : ByteArray) (a1 : Int) (a2 : Int) (r1 : List (S28)) (r2 : Int) (w : World) (h : record_Of.f a0 a1 a2 = some (r1, r2)) :
    Calls Try.prog 14 #[.string a0, .int .i64 a1, .int .i64 a2] w fun e w' => ∃ v0_ : Value, e = .returned (.tuple #[v0_, .int .i64 r2]) ∧ Kd.R k28 28 w' w.heap.size (fun _ => True) v0_ r1 ∧ Below w.heap.size w w' := RO.of_any a0 a1 a2 r1 r2 w h
theorem record_Bytes.calls (A0 : Option Addr) (c0 : Nat) (l0 : List (S28)) (a1 : Int) (r1 : ByteArray) (r2 : Int) (w : World) (hr0 : Kd.C k28 w A0 l0.length l0) (hc0 : l0.length ≤ c0) (h : record_Bytes.f l0 a1 = some (r1, r2)) :
    Calls Try.prog 9 #[.slice A0 l0.length c0, .int .i64 a1] w fun e w' => e = .returned (.tuple #[.string r1, .int .i64 r2]) ∧ Below w.heap.size w w' := RB.bytes_any A0 c0 l0 a1 r1 r2 w hr0 hc0 h
theorem aw_bytes : record_Bytes.f [(⟨7, (⟨#[107]⟩ : ByteArray), (⟨#[118]⟩ : ByteArray), false⟩ : S28)] 5 = some (⟨#[2, 1, 107, 2, 118]⟩, 0) := by
  have h1 : vs 1 = ⟨#[1]⟩ := by unfold vs; rw [pv_lt (by decide)]; rfl
  have h2 : vs 2 = ⟨#[2]⟩ := by unfold vs; rw [pv_lt (by decide)]; rfl
  unfold record_Bytes.f recBytes
  rw [if_neg (by decide), if_pos (by decide), rgo, if_pos (by decide), rgo]
  unfold recB
  rw [if_neg (by decide)]
  show some ((⟨#[]⟩ : ByteArray) ++ (vs 2 ++ vs 1 ++ ⟨#[107]⟩ ++ (vs 2 ++ ⟨#[118]⟩)), (0 : Int)) = _
  rw [h1, h2]
  rfl
theorem aw_of : record_Of.f (⟨#[2, 1, 107, 0]⟩ : ByteArray) 5 1 = some ([(⟨7, (⟨#[107]⟩ : ByteArray), (⟨#[]⟩ : ByteArray), true⟩ : S28)], 0) := by
  kernel_rfl
set_option maxHeartbeats 8000000 in
set_option maxRecDepth 100000 in
theorem awake_any (w : World) : Calls Try.prog 13 #[] w fun e w' => e = .returned (.bool true) ∧ Below w.heap.size w w' := by
  have hu28 := Try.underlying28
  have HB := Aside0.mk (Below.refl w.heap.size w)
  obtain ⟨y157, hy157⟩ : ∃ y_ : List (S28), y_ = (([(⟨7, (⟨#[107]⟩ : ByteArray), (⟨#[118]⟩ : ByteArray), false⟩ : S28)] : List (S28))) := ⟨_, rfl⟩
  have hA1 := aw_bytes
  rw [← hy157] at hA1
  have Ny157 := Aside0.mk hy157
  clear hy157
  obtain ⟨t160, h160⟩ : ∃ t : ByteArray, t = ⟨#[2, 1, 107, 2, 118]⟩ := ⟨_, rfl⟩
  obtain ⟨t161, h161⟩ : ∃ t : Int, t = 0 := ⟨_, rfl⟩
  obtain ⟨t163, h163⟩ : ∃ t : Int, t = 0 := ⟨_, rfl⟩
  obtain ⟨t162, h162⟩ : ∃ t : List S28, t = [(⟨7, (⟨#[107]⟩ : ByteArray), (⟨#[]⟩ : ByteArray), true⟩ : S28)] := ⟨_, rfl⟩
  have hA2 := aw_of
  rw [← h162] at hA2
  have A2 : Aside0 (record_Of.f (⟨#[2, 1, 107, 0]⟩ : ByteArray) 5 1 = some (t162, t163)) := ⟨by rw [h163]; exact hA2⟩
  have A1 : Aside0 (record_Bytes.f y157 5 = some (t160, t161)) := ⟨by rw [h160, h161]; exact hA1⟩
  have c3b0 : (t160.toList == ([2, 1, 107, 2, 118] : List UInt8)) = true := by rw [h160, Lib.toList_data]; rfl
  have c3b1 : (t160.toList != ([2, 1, 107, 2, 118] : List UInt8)) = false := by rw [bne, c3b0]; rfl
  have c4b0 : (t161 == 0) = true := by rw [h161]; rfl
  have c4b1 : (t161 != 0) = false := by rw [h161]; rfl
  have c5b0 : (t163 == 0) = true := by rw [h163]; rfl
  have c5b1 : (t163 != 0) = false := by rw [h163]; rfl
  have c6b0 : ((t162.length : Int) == 1) = true := by rw [h162]; rfl
  have c6b1 : ((t162.length : Int) != 1) = false := by rw [h162]; rfl
  have c7b0 : decide (0 < (t162.length : Int)) = true := by rw [h162]; rfl
  have c7b1 : decide (0 < t162.length) = true := by rw [h162]; rfl
  have x0 : (rd_T28 t162 0).f0 = 7 := by rw [h162]; rfl
  have x1 : (rd_T28 t162 0).f1.toList = [107] := by rw [h162, Lib.toList_data]; rfl
  have x2 : (rd_T28 t162 0).f2.toList = [] := by rw [h162, Lib.toList_data]; rfl
  have x3 : (rd_T28 t162 0).f3 = true := by rw [h162]; rfl
  clear h160 h161 h162 h163 hA1 hA2
  go_enter Try.func13, Try.ntmps13
  go_wp2_with (first | ((with_reducible refine gate_dst (N := 7) rfl ?_); (try (refine gate_guard (by rfl) ?_; dsimp only)); refine Kd.R_lit k28 _ 28 ?hg (N := 7) ?hd (xs := ([(⟨7, (⟨#[107]⟩ : ByteArray), (⟨#[118]⟩ : ByteArray), false⟩ : S28)] : List (S28))) (inner := [.int .i64 7, .string (⟨#[107]⟩ : ByteArray), .string (⟨#[118]⟩ : ByteArray), .bool false]) (ok := fun _ => True) (okp := fun _ => True) ?hr ?hp (fun _ hk => hk) trivial (Below.refl _ _) (Nat.le_refl _) (by simp) ?_; (case hd => rfl); (case hg => rfl); (case hr => first | (go_simp; done) | (go_simp; rfl)); (case hp => exact (Reps.c4 (show Kd.M k28 _ _ _ (⟨7, (⟨#[107]⟩ : ByteArray), (⟨#[118]⟩ : ByteArray), false⟩ : S28) [.int .i64 7, .string (⟨#[107]⟩ : ByteArray), .string (⟨#[118]⟩ : ByteArray), .bool false] from (k28_mkM _ _ _ (⟨7, (⟨#[107]⟩ : ByteArray), (⟨#[118]⟩ : ByteArray), false⟩ : S28) )) (Reps.none _ _))); intro v158 w8 ho9 hb hg_ hnew_; clear hg_ hnew_; (first | rw [← Ny157.out] at ho9 | (simp only [Int.reduceToNat] at ho9; rw [← Ny157.out] at ho9)); have n0_ := Aside0.mk (Kd.R_lower ho9 (below_size (by repeat (first | (with_reducible first | exact HB.out | apply below_alloc | apply pw_below_drewN | apply below_drew1) | exact HB.out)))); have n1_ := Aside0.mk (below_step (by repeat (first | (with_reducible first | exact HB.out | apply below_alloc | apply pw_below_drewN | apply below_drew1) | exact HB.out)) hb); clear HB; have HO159 := n0_; have HB := n1_; clear n0_ n1_; clear hb ho9; obtain ⟨Ao10, co10, eo10⟩ := Kd.R_slice HO159.out; subst eo10) | ((with_reducible refine gate_callee (f := 9) rfl ?_); refine goesL_ (some 8) rfl rfl Try.func9 (by kernel_rfl) rfl #[.slice Ao10 y157.length co10, .int .i64 5] rfl (by (try simp only [List.map_toArray, List.map_cons, List.map_nil]); first | done | rfl | (simp only [List.length_drop, List.length_take]; rfl)) ?_; (with_reducible refine (record_Bytes.calls _ _ y157 5 t160 t161 _ ?side1 ?side2 A1.out).mono ?_); (case side1 => repeat (first | exact (Kd.R_reads' HO159.out).2.2 | (with_reducible refine Kd.C_alloc ?_ _) | (with_reducible refine Kd.C_drewN ?_ _) | (with_reducible refine Kd.C_drew ?_))); (case side2 => exact (Kd.R_reads' HO159.out).2.1); rintro e w11 ⟨rfl, hb⟩; refine ⟨_, rfl, ?_⟩; have n0_ := Aside0.mk (Kd.R_below (by (with_reducible repeat (first | apply Kd.R_alloc | apply Kd.R_drewN | apply Kd.R_drew)); exact HO159.out) hb); have n1_ := Aside0.mk (below_step (by repeat (first | (with_reducible first | exact HB.out | apply below_alloc | apply pw_below_drewN | apply below_drew1) | exact HB.out)) hb); clear HO159; clear HB; have HO159 := n0_; have HB := n1_; clear n0_ n1_; (try clear hb); (try clear hb2); (try clear hk); (try clear hi)) | ((with_reducible refine gate_callee (f := 14) rfl ?_); refine goesL_ (some 12) rfl rfl Try.func14 (by kernel_rfl) rfl #[.string (⟨#[2, 1, 107, 0]⟩ : ByteArray), .int .i64 5, .int .i64 1] rfl (by (try simp only [List.map_toArray, List.map_cons, List.map_nil]); first | done | rfl | (simp only [List.length_drop, List.length_take]; rfl)) ?_; (with_reducible refine (record_Of.calls (⟨#[2, 1, 107, 0]⟩ : ByteArray) 5 1 t162 t163 _ A2.out).mono ?_); rintro e w12 ⟨v164, rfl, ho0, hb⟩; refine ⟨_, rfl, ?_⟩; have n0_ := Aside0.mk (Kd.R_elder' (by (with_reducible repeat (first | apply Kd.R_alloc | apply Kd.R_drewN | apply Kd.R_drew)); exact HO159.out) (Kd.R_base ho0) hb); have n1_ := Aside0.mk (Kd.R_lower (Kd.R_new' ho0 (Kd.R_lt (by (with_reducible repeat (first | apply Kd.R_alloc | apply Kd.R_drewN | apply Kd.R_drew)); exact HO159.out))) (below_size (by repeat (first | (with_reducible first | exact HB.out | apply below_alloc | apply pw_below_drewN | apply below_drew1) | exact HB.out)))); have n2_ := Aside0.mk (below_step (by repeat (first | (with_reducible first | exact HB.out | apply below_alloc | apply pw_below_drewN | apply below_drew1) | exact HB.out)) hb); clear HO159; clear HB; have HO159 := n0_; have HO165 := n1_; have HB := n2_; clear n0_ n1_ n2_; (try clear hb); (try clear hb2); (try clear hk); (try clear hi); (try clear ho0); obtain ⟨Ao13, co13, eo13⟩ := Kd.R_slice HO165.out; subst eo13; have p166 : 0 ≤ (0 : Int) := (by omega); have q166 : 0 < (t162.length : Int) := of_decide_eq_true (by first | (with_reducible assumption) | assumption); obtain ⟨ad166, e166, hx166_0, hx166_1, hx166_2, hx166_3⟩ := at_T28 (Kd.R_reads' HO165.out).2.2 0 p166 q166; cases e166; have qi166 : (0 < t162.length) = True := eq_true (by omega); (try rw [show ((0 : Int)).toNat = 0 from rfl] at hx166_0); (try rw [show 0 * 4 = 0 from rfl] at hx166_0); (try rw [Addr.add_zero'] at hx166_0); (try rw [show ((0 : Int)).toNat = 0 from rfl] at hx166_1); (try rw [show 0 * 4 = 0 from rfl] at hx166_1); (try rw [Addr.add_zero'] at hx166_1); (try rw [show ((0 : Int)).toNat = 0 from rfl] at hx166_2); (try rw [show 0 * 4 = 0 from rfl] at hx166_2); (try rw [Addr.add_zero'] at hx166_2); (try rw [show ((0 : Int)).toNat = 0 from rfl] at hx166_3); (try rw [show 0 * 4 = 0 from rfl] at hx166_3); (try rw [Addr.add_zero'] at hx166_3); replace p166 := eq_true p166; replace q166 := eq_true q166))
  go_ret
  exact ⟨rfl, by repeat (first | (with_reducible first | exact HB.out | apply below_alloc | apply pw_below_drewN | apply below_drew1) | exact HB.out)⟩
end Go.Proofs.Ytjdicocmajjojaa.RA
