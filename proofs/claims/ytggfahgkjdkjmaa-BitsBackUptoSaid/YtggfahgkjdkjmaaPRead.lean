/- What a reader's methods come to, and the document's bits. -/
import Derived.Test.YtggfahgkjdkjmaaFnx1
import Derived.Test.YtggfahgkjdkjmaaMBits
namespace Go.Proofs.Ytggfahgkjdkjmaa.PR
open Go.RowKit Go.Proofs.YtggfahgkjdkjmaaW.PrintWords Go.Proofs.YtggfahgkjdkjmaaW.PrintLast Go.Proofs.YtggfahgkjdkjmaaW.PrintMore Go.Proofs.Ytggfahgkjdkjmaa.MB Go.Proofs.Ytggfahgkjdkjmaa.Fn

theorem w64c (n : Nat) (h : n < 9223372036854775808) : wrap64 (n : Int) = n := by unfold wrap64; omega
theorem loop_end {f : Nat → Bool} {x a n : Nat} (hx : x < 2 ^ 64) (hn : n ≤ 57) (h : ∀ i, i < n → x.testBit i = f (a + i)) :
    wrap64 (Go.bits .and .u64 (x : Int) (IntKind.u64.wrap ((shl .u64 1 (n : Int)) - 1))) = (nb f a n : Int) := by
  have hp : 2 ^ n ≤ 2 ^ 57 := Nat.pow_le_pow_right (by decide) hn
  have hpos : 0 < 2 ^ n := Nat.two_pow_pos n
  have e1 : shl .u64 1 (n : Int) = ((2 ^ n : Nat) : Int) := by
    have := shl_u64 1 n (by omega) (by omega)
    rw [Nat.one_mul] at this
    exact this
  have e2 : ((2 ^ n : Nat) : Int) - 1 = ((2 ^ n - 1 : Nat) : Int) := by omega
  rw [e1, e2, wraps_u64 _ (by omega) (by omega), and_u64 _ _ hx (by omega), Nat.and_two_pow_sub_one_eq_mod]
  have hlt := nb_lt f a n
  have e3 : x % 2 ^ n = nb f a n := nb_unique (Nat.mod_lt _ hpos) (fun i hi => by rw [Nat.testBit_mod_two_pow]; simp [hi, h i hi])
  rw [e3]
  exact w64c _ (by omega)
theorem reader_loop (s : ByteArray) (hs : s.size ≤ 1000000000000000) (a n : Nat) (hn : n ≤ 57) (hfit : a + n ≤ 8 * s.size) : ∀ (d k got x : Nat), n ≤ got + d → got ≤ n → d < k → x < 2 ^ 64 → (got < n → x < 2 ^ got) →
    (∀ i, i < got → x.testBit i = sbit s (a + i)) → bits_Reader_Bits.l0 k (n : Int) (x : Int) (got : Int) true s ((a + got : Nat) : Int) = some ((nb (sbit s) a n : Int), 0, true, s, ((a + n : Nat) : Int)) := by
  intro d
  induction d using Nat.strongRecOn with
  | ind d ih =>
    intro k got x hd hg hk hx hxg hbit
    obtain ⟨k, rfl⟩ : ∃ m, k = m + 1 := ⟨k - 1, by omega⟩
    rw [bits_Reader_Bits.l0]
    by_cases h : got < n
    · have hq : (a + got) / 8 < s.size := by omega
      have hr : (a + got) % 8 < 8 := Nat.mod_lt _ (by decide)
      obtain ⟨b, hb, hb8⟩ := bt_nat s (((a + got) / 8 : Nat) : Int)
      obtain ⟨st, hst⟩ : ∃ st, st = min (8 - (a + got) % 8) (n - got) := ⟨_, rfl⟩
      have hx2 := hxg h
      have hy : b / 2 ^ ((a + got) % 8) * 2 ^ got < 2 ^ 64 := by
        have h1 : b / 2 ^ ((a + got) % 8) < 2 ^ 8 := Nat.lt_of_le_of_lt (Nat.div_le_self _ _) hb8
        have h2 : 2 ^ got ≤ 2 ^ 56 := Nat.pow_le_pow_right (by decide) (by omega)
        calc b / 2 ^ ((a + got) % 8) * 2 ^ got ≤ b / 2 ^ ((a + got) % 8) * 2 ^ 56 := Nat.mul_le_mul_left _ h2
          _ < 2 ^ 8 * 2 ^ 56 := Nat.mul_lt_mul_of_pos_right h1 (by decide)
          _ = 2 ^ 64 := by decide
      have hbits : ∀ j, j < st → b.testBit ((a + got) % 8 + j) = sbit s (a + got + j) := by
        intro j hj
        unfold sbit
        rw [show (a + got + j) / 8 = (a + got) / 8 from by omega, show (a + got + j) % 8 = (a + got) % 8 + j from by omega, hb]
        rfl
      have hs1 := step_bits hx2 hbit hbits
      have hs2 := step_lt (r := (a + got) % 8) hx2 hb8 (by omega)
      have e1 : wrap64 (8 - (((a + got) % 8 : Nat) : Int)) = ((8 - (a + got) % 8 : Nat) : Int) := by unfold wrap64; omega
      have e2 : wrap64 ((n : Int) - (got : Int)) = ((n - got : Nat) : Int) := by unfold wrap64; omega
      rw [tdiv_cast, tmod_cast, w64c _ (by omega), e1, e2]
      clear e1 e2
      rw [if_pos (by omega), if_pos (by omega), if_pos (by omega), if_pos (by omega), if_pos (by omega), hb, shr_u8 _ _ (by omega), wraps_u64 _ (Int.natCast_nonneg _) (cast_lt_two_pow (Nat.lt_of_le_of_lt (Nat.div_le_self _ _) (Nat.lt_of_lt_of_le hb8 (by decide)))), shl_u64 _ _ (by omega) hy, or_u64 _ _ hx hy, mn_cast, ← hst, ← Int.natCast_add, ← Int.natCast_add, w64c _ (by omega), w64c _ (by omega), Nat.add_assoc a got st]
      refine ih (n - (got + st)) (by omega) k (got + st) _ (by omega) (by omega) (by omega) (Nat.or_lt_two_pow hx hy) (fun hlt => ?_) (fun i hi => ?_)
      · rw [show st = 8 - (a + got) % 8 from by omega]
        exact hs2
      · exact hs1 i hi
    · have hgn : got = n := by omega
      subst hgn
      rw [if_neg (by omega), if_pos (by omega), loop_end hx hn hbit]
/-- What Bits of a reader comes to. -/
def rb (s : ByteArray) (a : Nat) (n : Int) : Int × Int × Bool × ByteArray × Int :=
  if n < 0 ∨ 57 < n then (0, 1, true, s, (a : Int)) else if 8 * (s.size : Int) - a < n then (0, 5, true, s, (a : Int)) else ((nb (sbit s) a n.toNat : Int), 0, true, s, ((a + n.toNat : Nat) : Int))
theorem reader_bits (s : ByteArray) (hs : s.size ≤ 1000000000000000) (a : Nat) (ha : a ≤ 8 * s.size) (n : Int) (k : Nat) (hk : 60 ≤ k) : bits_Reader_Bits.f k true s (a : Int) n = some (rb s a n) := by
  obtain ⟨k, rfl⟩ : ∃ m, k = m + 1 := ⟨k - 1, by omega⟩
  unfold bits_Reader_Bits.f bits_Reader_given.f rb
  simp only [Option.bind_some, if_true]
  by_cases h1 : n < 0
  · rw [if_pos h1, if_pos (Or.inl h1), bits_Reader_Bits.j0, if_pos rfl]
  · rw [if_neg h1]
    by_cases h2 : n > 57
    · rw [if_pos (Or.inr h2), bits_Reader_Bits.j0, if_pos (by simpa using h2)]
    · rw [if_neg (by omega), bits_Reader_Bits.j0, if_neg (by simpa using h2)]
      have e1 : wrap64 (wrap64 (8 * (s.size : Int)) - (a : Int)) = 8 * (s.size : Int) - a := by unfold wrap64; omega
      rw [e1]
      clear e1
      by_cases h3 : 8 * (s.size : Int) - a < n
      · rw [if_pos h3, if_pos h3]
      · rw [if_neg h3, if_neg h3]
        obtain ⟨m, rfl⟩ := Int.eq_ofNat_of_zero_le (by omega : 0 ≤ n)
        have := reader_loop s hs a m (by omega) (by omega) m k 0 0 (by omega) (by omega) (by omega) (by decide) (fun _ => by decide) (fun i hi => by omega)
        rw [Int.toNat_natCast]
        exact this
theorem reader_place (s : ByteArray) (a : Int) : bits_Reader_Place.f true s a = some (a, true, s, a) := rfl
end Go.Proofs.Ytggfahgkjdkjmaa.PR
