/- What a reader's methods come to, and the document's bits. The document's bits: plain. Symbols by the words' places are the document's: plain. The document's Symbol is what a table's Symbol tells: plain. The document's Codes: plain. -/
import Derived.Test.YtmmoenleldcadaaFRd
import Derived.Test.YtmmoenleldcadaaGA
import Derived.Test.YtmmoenleldcadaaFSym
import Derived.Test.YtmmoenleldcadaaGH
import Derived.Test.YtmmoenleldcadaaFCod
namespace Go.Proofs.Ytmmoenleldcadaa.PR
open Go.RowKit Go.Proofs.YtmmoenleldcadaaW.PrintWords Go.Proofs.YtmmoenleldcadaaW.PrintLast Go.Proofs.YtmmoenleldcadaaW.PrintMore Go.Proofs.Ytmmoenleldcadaa.MB Go.Proofs.Ytmmoenleldcadaa.Fn

theorem w64c (n : Nat) (h : n < 9223372036854775808) : wrap64 (n : Int) = n := by unfold wrap64; omega
theorem loop_end {f : Nat → Bool} {x a n : Nat} (hx : x < 2 ^ 64) (hn : n ≤ 57) (h : ∀ i, i < n → x.testBit i = f (a + i)) :
    wrap64 (Go.bits .and .u64 (x : Int) (IntKind.u64.wrap ((shl .u64 1 (n : Int)) - 1))) = (nb f a n : Int) := by
  have hp : 2 ^ n ≤ 2 ^ 57 := Nat.pow_le_pow_right (by decide) hn
  have hpos : 0 < 2 ^ n := Nat.two_pow_pos n
  have e1 : shl .u64 1 (n : Int) = ((2 ^ n : Nat) : Int) := by
    have := shl_u64 1 n (by omega) (by omega)
    rw [Nat.one_mul] at this
    exact this
  have e2 : ((2 ^ n : Nat) : Int) - 1 = ((2 ^ n - 1 : Nat) : Int) := by omega
  rw [e1, e2, wraps_u64 _ (by omega) (by omega), and_u64 _ _ hx (by omega), Nat.and_two_pow_sub_one_eq_mod]
  have hlt := nb_lt f a n
  have e3 : x % 2 ^ n = nb f a n := nb_unique (Nat.mod_lt _ hpos) (fun i hi => by rw [Nat.testBit_mod_two_pow]; simp [hi, h i hi])
  rw [e3]
  exact w64c _ (by omega)
theorem reader_loop (s : ByteArray) (hs : s.size ≤ 1000000000000000) (a n : Nat) (hn : n ≤ 57) (hfit : a + n ≤ 8 * s.size) : ∀ (d k got x : Nat), n ≤ got + d → got ≤ n → d < k → x < 2 ^ 64 → (got < n → x < 2 ^ got) →
    (∀ i, i < got → x.testBit i = sbit s (a + i)) → bits_Reader_Bits.l0 k (n : Int) (x : Int) (got : Int) true s ((a + got : Nat) : Int) = some ((nb (sbit s) a n : Int), 0, true, s, ((a + n : Nat) : Int)) := by
  intro d
  induction d using Nat.strongRecOn with
  | ind d ih =>
    intro k got x hd hg hk hx hxg hbit
    obtain ⟨k, rfl⟩ : ∃ m, k = m + 1 := ⟨k - 1, by omega⟩
    rw [bits_Reader_Bits.l0]
    by_cases h : got < n
    · have hq : (a + got) / 8 < s.size := by omega
      have hr : (a + got) % 8 < 8 := Nat.mod_lt _ (by decide)
      obtain ⟨b, hb, hb8⟩ := bt_nat s (((a + got) / 8 : Nat) : Int)
      obtain ⟨st, hst⟩ : ∃ st, st = min (8 - (a + got) % 8) (n - got) := ⟨_, rfl⟩
      have hx2 := hxg h
      have hy : b / 2 ^ ((a + got) % 8) * 2 ^ got < 2 ^ 64 := by
        have h1 : b / 2 ^ ((a + got) % 8) < 2 ^ 8 := Nat.lt_of_le_of_lt (Nat.div_le_self _ _) hb8
        have h2 : 2 ^ got ≤ 2 ^ 56 := Nat.pow_le_pow_right (by decide) (by omega)
        calc b / 2 ^ ((a + got) % 8) * 2 ^ got ≤ b / 2 ^ ((a + got) % 8) * 2 ^ 56 := Nat.mul_le_mul_left _ h2
          _ < 2 ^ 8 * 2 ^ 56 := Nat.mul_lt_mul_of_pos_right h1 (by decide)
          _ = 2 ^ 64 := by decide
      have hbits : ∀ j, j < st → b.testBit ((a + got) % 8 + j) = sbit s (a + got + j) := by
        intro j hj
        unfold sbit
        rw [show (a + got + j) / 8 = (a + got) / 8 from by omega, show (a + got + j) % 8 = (a + got) % 8 + j from by omega, hb]
        rfl
      have hs1 := step_bits hx2 hbit hbits
      have hs2 := step_lt (r := (a + got) % 8) hx2 hb8 (by omega)
      have e1 : wrap64 (8 - (((a + got) % 8 : Nat) : Int)) = ((8 - (a + got) % 8 : Nat) : Int) := by unfold wrap64; omega
      have e2 : wrap64 ((n : Int) - (got : Int)) = ((n - got : Nat) : Int) := by unfold wrap64; omega
      rw [tdiv_cast, tmod_cast, w64c _ (by omega), e1, e2]
      clear e1 e2
      rw [if_pos (by omega), if_pos (by omega), if_pos (by omega), if_pos (by omega), if_pos (by omega), hb, shr_u8 _ _ (by omega), wraps_u64 _ (Int.natCast_nonneg _) (cast_lt_two_pow (Nat.lt_of_le_of_lt (Nat.div_le_self _ _) (Nat.lt_of_lt_of_le hb8 (by decide)))), shl_u64 _ _ (by omega) hy, or_u64 _ _ hx hy, mn_cast, ← hst, ← Int.natCast_add, ← Int.natCast_add, w64c _ (by omega), w64c _ (by omega), Nat.add_assoc a got st]
      refine ih (n - (got + st)) (by omega) k (got + st) _ (by omega) (by omega) (by omega) (Nat.or_lt_two_pow hx hy) (fun hlt => ?_) (fun i hi => ?_)
      · rw [show st = 8 - (a + got) % 8 from by omega]
        exact hs2
      · exact hs1 i hi
    · have hgn : got = n := by omega
      subst hgn
      rw [if_neg (by omega), if_pos (by omega), loop_end hx hn hbit]
/-- What Bits of a reader comes to. -/
def rb (s : ByteArray) (a : Nat) (n : Int) : Int × Int × Bool × ByteArray × Int :=
  if n < 0 ∨ 57 < n then (0, 1, true, s, (a : Int)) else if 8 * (s.size : Int) - a < n then (0, 5, true, s, (a : Int)) else ((nb (sbit s) a n.toNat : Int), 0, true, s, ((a + n.toNat : Nat) : Int))
theorem reader_bits (s : ByteArray) (hs : s.size ≤ 1000000000000000) (a : Nat) (ha : a ≤ 8 * s.size) (n : Int) (k : Nat) (hk : 60 ≤ k) : bits_Reader_Bits.f k true s (a : Int) n = some (rb s a n) := by
  obtain ⟨k, rfl⟩ : ∃ m, k = m + 1 := ⟨k - 1, by omega⟩
  unfold bits_Reader_Bits.f bits_Reader_given.f rb
  simp only [Option.bind_some, if_true]
  by_cases h1 : n < 0
  · rw [if_pos h1, if_pos (Or.inl h1), bits_Reader_Bits.j0, if_pos rfl]
  · rw [if_neg h1]
    by_cases h2 : n > 57
    · rw [if_pos (Or.inr h2), bits_Reader_Bits.j0, if_pos (by simpa using h2)]
    · rw [if_neg (by omega), bits_Reader_Bits.j0, if_neg (by simpa using h2)]
      have e1 : wrap64 (wrap64 (8 * (s.size : Int)) - (a : Int)) = 8 * (s.size : Int) - a := by unfold wrap64; omega
      rw [e1]
      clear e1
      by_cases h3 : 8 * (s.size : Int) - a < n
      · rw [if_pos h3, if_pos h3]
      · rw [if_neg h3, if_neg h3]
        obtain ⟨m, rfl⟩ := Int.eq_ofNat_of_zero_le (by omega : 0 ≤ n)
        have := reader_loop s hs a m (by omega) (by omega) m k 0 0 (by omega) (by omega) (by omega) (by decide) (fun _ => by decide) (fun i hi => by omega)
        rw [Int.toNat_natCast]
        exact this
theorem reader_place (s : ByteArray) (a : Int) : bits_Reader_Place.f true s a = some (a, true, s, a) := rfl
end Go.Proofs.Ytmmoenleldcadaa.PR
namespace Go.Proofs.Ytmmoenleldcadaa.PR
open Go.RowKit Go.Proofs.YtmmoenleldcadaaW.PrintWords Go.Proofs.YtmmoenleldcadaaW.PrintLast Go.Proofs.YtmmoenleldcadaaW.PrintMore Go.Proofs.Ytmmoenleldcadaa.MB Go.Proofs.Ytmmoenleldcadaa.Fn

theorem shl_i64_bit (c m : Nat) (hc : c < 2) (hm : m ≤ 57) : shl .i64 (c : Int) (m : Int) = ((c * 2 ^ m : Nat) : Int) := by
  have h1 : 2 ^ m ≤ 2 ^ 57 := Nat.pow_le_pow_right (by decide) hm
  have h2 : c * 2 ^ m ≤ 1 * 2 ^ m := Nat.mul_le_mul_right _ (by omega)
  unfold shl
  rw [show min ((m : Int)).toNat IntKind.i64.bits = m from by simp [IntKind.bits]; omega]
  have e : ((c : Int) * 2 ^ m) = ((c * 2 ^ m : Nat) : Int) := by simp
  rw [e]
  exact wraps_i64 _ (Int.natCast_nonneg _) (cast_lt_two_pow (by omega))
theorem testBit_zero_mod (b r : Nat) : b / 2 ^ r % 2 = if b.testBit r then 1 else 0 := by
  have := Nat.testBit_eq_decide_div_mod_eq (x := b) (i := r)
  rw [this]
  have h2 := Nat.mod_two_eq_zero_or_one (b / 2 ^ r)
  rcases h2 with h | h <;> simp [h]
theorem bit_f (s : ByteArray) (hs : s.size ≤ 1000000000000000) (a : Nat) (ha : a < 8 * s.size) : postroadref01_Bit.f s (a : Int) = some (((if sbit s a then 1 else 0 : Nat)) : Int) := by
  unfold postroadref01_Bit.f
  obtain ⟨b, hb, hb8⟩ := bt_nat s ((a / 8 : Nat) : Int)
  rw [tdiv_cast, tmod_cast, w64c _ (by omega), if_pos (by omega), if_pos (by omega), if_pos (by omega), hb, shr_u8 _ _ (by omega)]
  have hy : b / 2 ^ (a % 8) < 256 := Nat.lt_of_le_of_lt (Nat.div_le_self _ _) hb8
  rw [w64c _ (Nat.lt_of_lt_of_le hy (by decide)), show (1 : Int) = ((1 : Nat) : Int) from rfl, and_i64 _ 1 (Nat.lt_of_lt_of_le hy (by decide)) (by decide)]
  have e : b / 2 ^ (a % 8) &&& 1 = b / 2 ^ (a % 8) % 2 := by rw [show (1 : Nat) = 2 ^ 1 - 1 from rfl, Nat.and_two_pow_sub_one_eq_mod]
  rw [e, testBit_zero_mod]
  unfold sbit
  rw [hb]
  rfl
theorem rbits_loop (s : ByteArray) (hs : s.size ≤ 1000000000000000) (a n : Nat) (hn : n ≤ 57) (hfit : a + n ≤ 8 * s.size) : ∀ (d k i : Nat), i + d = n → d < k →
    postroadref01_Bits.l0 k s (a : Int) (n : Int) (nb (sbit s) a i : Int) (i : Int) = some ((nb (sbit s) a n : Int), true) := by
  intro d
  induction d with
  | zero =>
    intro k i hi hk
    obtain ⟨k, rfl⟩ : ∃ m, k = m + 1 := ⟨k - 1, by omega⟩
    rw [postroadref01_Bits.l0, if_neg (by omega), show i = n from by omega]
  | succ d ih =>
    intro k i hi hk
    obtain ⟨k, rfl⟩ : ∃ m, k = m + 1 := ⟨k - 1, by omega⟩
    have hlt := nb_lt (sbit s) a (i + 1)
    have hp : 2 ^ (i + 1) ≤ 2 ^ 57 := Nat.pow_le_pow_right (by decide) (by omega)
    have e0 : nb (sbit s) a (i + 1) = nb (sbit s) a i + (if sbit s (a + i) then 1 else 0) * 2 ^ i := by
      show nb (sbit s) a i + (if sbit s (a + i) = true then 2 ^ i else 0) = _
      split <;> simp
    rw [postroadref01_Bits.l0, if_pos (by omega), ← Int.natCast_add, w64c _ (by omega), bit_f s hs (a + i) (by omega)]
    simp only [Option.bind_some]
    rw [if_pos (by omega), shl_i64_bit _ _ (by split <;> omega) (by omega), ← Int.natCast_add, ← e0, w64c _ (by omega), show (i : Int) + 1 = ((i + 1 : Nat) : Int) from rfl, w64c _ (by omega)]
    exact ih k (i + 1) (by omega) (by omega)
theorem rbits_f (s : ByteArray) (hs : s.size ≤ 1000000000000000) (a : Nat) (ha : a ≤ 8 * s.size) (n : Int) (h0 : 0 ≤ n) (h57 : n ≤ 57) (k : Nat) (hk : 60 ≤ k) :
    postroadref01_Bits.f k s (a : Int) n = some (if 8 * (s.size : Int) - a < n then (0, false) else ((nb (sbit s) a n.toNat : Int), true)) := by
  unfold postroadref01_Bits.f
  have e1 : wrap64 (wrap64 (8 * (s.size : Int)) - (a : Int)) = 8 * (s.size : Int) - a := by unfold wrap64; omega
  rw [e1]
  clear e1
  by_cases h3 : 8 * (s.size : Int) - a < n
  · rw [if_pos h3, if_pos h3]
  · rw [if_neg h3, if_neg h3]
    obtain ⟨m, rfl⟩ := Int.eq_ofNat_of_zero_le h0
    exact rbits_loop s hs a m (by omega) (by omega) m k 0 (by omega) (by omega)
end Go.Proofs.Ytmmoenleldcadaa.PR
namespace Go.Proofs.Ytmmoenleldcadaa.HP
open Go.RowKit Go.Proofs.Ytmmoenleldcadaa.Fn Go.Proofs.Ytmmoenleldcadaa.HF Go.Proofs.Ytmmoenleldcadaa.MB Go.Proofs.YtmmoenleldcadaaW.PrintWords Go.Proofs.YtmmoenleldcadaaW.PrintLast Go.Proofs.YtmmoenleldcadaaW.PrintMore
theorem idxL_cnt (lens : List Int) (l : Nat) : ∀ i, i ≤ lens.length → ((idxL lens l i).length : Int) = cntL (lens.take i) l
  | 0, _ => by rw [List.take_zero]; rfl
  | i + 1, h => by
    have ih := idxL_cnt lens l i (by omega)
    rw [idxL_succ, List.take_succ_eq_append_getElem (by omega : i < lens.length), cntL_snoc, List.length_append]
    have e : lens.getD i 0 = lens[i] := by rw [List.getD_eq_getElem?_getD, List.getElem?_eq_getElem (by omega : i < lens.length)]; rfl
    rw [e]
    by_cases hl : lens[i] = (l : Int)
    · rw [if_pos hl, if_pos hl]; simp only [List.length_singleton]; omega
    · rw [if_neg hl, if_neg hl]; simp only [List.length_nil]; omega
theorem idxL_at (lens : List Int) (l : Nat) : ∀ i, i ≤ lens.length → ∀ k, (hk : k < (idxL lens l i).length) → ∃ j, ∃ hj : j < lens.length, j < i ∧ (idxL lens l i)[k] = (j : Int) ∧ lens[j] = (l : Int) ∧ cntL (lens.take j) l = k
  | 0, _, k, hk => by exact absurd hk (Nat.not_lt_zero k)
  | i + 1, h, k, hk => by
    have e : lens.getD i 0 = lens[i] := by rw [List.getD_eq_getElem?_getD, List.getElem?_eq_getElem (by omega : i < lens.length)]; rfl
    by_cases hk2 : k < (idxL lens l i).length
    · obtain ⟨j, h1, h2, h3, h4, h5⟩ := idxL_at lens l i (by omega) k hk2
      refine ⟨j, h1, by omega, ?_, h4, h5⟩
      rw [← h3]
      simp only [idxL_succ]
      exact List.getElem_append_left hk2
    · have hkk := hk
      rw [idxL_succ, e] at hkk
      by_cases hl : lens[i] = (l : Int)
      · rw [if_pos hl, List.length_append, List.length_singleton] at hkk
        refine ⟨i, by omega, by omega, ?_, hl, ?_⟩
        · simp only [idxL_succ, e, if_pos hl]
          rw [List.getElem_append_right (by omega)]
          simp
        · rw [← idxL_cnt lens l i (by omega)]; omega
      · rw [if_neg hl, List.append_nil] at hkk
        exact absurd hkk hk2
theorem symsT_split (lens : List Int) (l : Nat) : ∀ d, ∃ r, symsT lens (l + d) = symsT lens l ++ r
  | 0 => ⟨[], by rw [Nat.add_zero, List.append_nil]⟩
  | d + 1 => by
    obtain ⟨r, hr⟩ := symsT_split lens l d
    exact ⟨r ++ idxL lens (l + d + 1) lens.length, by rw [show l + (d + 1) = l + d + 1 by omega, symsT, hr, List.append_assoc]⟩
theorem cF_len (lens : List Int) (l : Nat) : ((idxL lens l lens.length).length : Int) = cF lens l := by
  rw [idxL_cnt lens l lens.length (Nat.le_refl _), List.take_length]
  rfl
/-- The symbol that bears a word. -/
theorem sym_at {lens : List Int} (l k : Nat) (h1 : 1 ≤ l) (h15 : l ≤ 15) (hk : (k : Int) < cF lens l) :
    ∃ j, ∃ hj : j < lens.length, (symsT lens 15).getD ((symsT lens (l - 1)).length + k) 0 = (j : Int) ∧ lens[j] = (l : Int) ∧ codeAt lens j = 2 * eT (cF lens) (l - 1) + k := by
  have hc := cF_len lens l
  obtain ⟨j, hj, _, h3, h4, h5⟩ := idxL_at lens l lens.length (Nat.le_refl _) k (by omega)
  refine ⟨j, hj, ?_, h4, ?_⟩
  · obtain ⟨r, hr⟩ := symsT_split lens l (15 - l)
    rw [show l + (15 - l) = 15 by omega] at hr
    obtain ⟨m, rfl⟩ : ∃ m, l = m + 1 := ⟨l - 1, by omega⟩
    rw [hr, symsT, Nat.add_sub_cancel, List.getD_eq_getElem?_getD, List.append_assoc, List.getElem?_append_right (by omega), Nat.add_sub_cancel_left, List.getElem?_append_left (by omega), List.getElem?_eq_getElem (by omega), h3]
    rfl
  · obtain ⟨m, rfl⟩ : ∃ m, l = m + 1 := ⟨l - 1, by omega⟩
    rw [codeAt_eq lens j (m + 1) hj h4 (by omega), Nat.add_sub_cancel, ← eT_next, h5]
    rfl
theorem eT_used {f : Nat → Int} (l : Nat) (h : 1 ≤ l) : eT f l = 2 ^ l - rooms f l := by
  unfold eT
  rw [if_neg (by omega), used f l h]
theorem eT_le {lens : List Int} (ho : okL lens = true) (l : Nat) (h15 : l ≤ 15) : eT (cF lens) l ≤ 2 ^ l := by
  cases l with
  | zero => simp [eT]
  | succ l =>
    have hr := rooms_nn (cnt_nn' lens) (okL_open ho).2.2 h15
    rw [eT_used (l + 1) (by omega)]
    show 2 ^ (l + 1) - rooms (fun k : Nat => cntL lens k) (l + 1) ≤ _
    omega
theorem cF_nn (lens : List Int) (k : Nat) : 0 ≤ cF lens k := (cntL_nn lens k).1
theorem eT_nn (lens : List Int) : ∀ l, 0 ≤ eT (cF lens) l
  | 0 => by simp [eT]
  | l + 1 => by have := eT_nn lens l; have := cF_nn lens (l + 1); rw [eT_succ]; omega
theorem eT_grow (lens : List Int) (l : Nat) : ∀ d, eT (cF lens) l * 2 ^ d ≤ eT (cF lens) (l + d)
  | 0 => by simp
  | d + 1 => by
    have ih := eT_grow lens l d
    have hn := cF_nn lens (l + d + 1)
    rw [show l + (d + 1) = l + d + 1 by omega, eT_succ, Int.pow_succ, ← Int.mul_assoc]
    omega
/-- A length that some symbol bears is not above the longest one. -/
theorem lng_ge (lens : List Int) : ∀ L l, 1 ≤ l → l ≤ L → 0 < cF lens l → l ≤ lngT lens L
  | 0, l, h1, h2, _ => by omega
  | L + 1, l, h1, h2, h3 => by
    unfold lngT lngI
    have hc := cF_len lens (L + 1)
    by_cases he : (idxL lens (L + 1) lens.length).length = 0
    · rw [if_pos he]
      have : l ≠ L + 1 := fun e => by subst e; omega
      exact lng_ge lens L l h1 (by omega) h3
    · rw [if_neg he]; exact h2
theorem lng_le (lens : List Int) : ∀ L, lngT lens L ≤ L
  | 0 => Nat.le_refl _
  | L + 1 => by
    have := lng_le lens L
    unfold lngT lngI
    split <;> omega
/-- A longer word begins with a word. -/
def Begins (lens : List Int) (l : Nat) (w : Int) (i : Nat) : Prop := ∃ h : i < lens.length, (l : Int) < lens[i] ∧ shr .i64 (codeAt lens i) (lens[i] - l) = w
theorem begins_iff {lens : List Int} (ho : okL lens = true) (l : Nat) (h1 : 1 ≤ l) (w : Nat) (hw : eT (cF lens) l ≤ w) : (∃ i, Begins lens l w i) ↔ (l < lngT lens 15 ∧ (w : Int) * 2 ^ (lngT lens 15 - l) < eT (cF lens) (lngT lens 15)) := by
  obtain ⟨o1, o2, o3⟩ := okL_open ho
  constructor
  · rintro ⟨i, hi, h2, h3⟩
    have hr := o2 lens[i] (List.getElem_mem _)
    obtain ⟨L, hL⟩ : ∃ L : Nat, lens[i] = L := ⟨lens[i].toNat, by omega⟩
    obtain ⟨c1, c2, c3⟩ := code_fits ho i L hi hL (by omega)
    have he : codeAt lens i + 1 ≤ eT (cF lens) L := by
      unfold eT
      rw [if_neg (by omega)]
      exact c2
    obtain ⟨c, hc⟩ : ∃ c : Nat, codeAt lens i = c := ⟨(codeAt lens i).toNat, by omega⟩
    have hG := lng_ge lens 15 L (by omega) (by omega) (by
      have := cnt_all lens i hi
      have := (cntL_nn (lens.take i) lens[i]).1
      show 0 < cntL lens (L : Int)
      rw [← hL]
      omega)
    obtain ⟨d, rfl⟩ : ∃ d, L = l + d := ⟨L - l, by omega⟩
    rw [hc, hL, show ((l + d : Nat) : Int) - (l : Int) = (d : Int) by omega, shr_i64 c d (by omega)] at h3
    have h4 : c / 2 ^ d = w := by omega
    have h5 : w * 2 ^ d ≤ c := by rw [← h4]; exact Nat.div_mul_le_self c (2 ^ d)
    refine ⟨by omega, ?_⟩
    obtain ⟨e, hE⟩ : ∃ e, lngT lens 15 = l + d + e := ⟨lngT lens 15 - (l + d), by omega⟩
    rw [hE, show l + d + e - l = d + e by omega, Int.pow_add, ← Int.mul_assoc]
    have g := eT_grow lens (l + d) e
    have p : (0 : Int) < 2 ^ e := Int.pow_pos (by decide)
    have h6 : (w : Int) * 2 ^ d < eT (cF lens) (l + d) := by
      have : ((w * 2 ^ d : Nat) : Int) ≤ c := by omega
      rw [Int.natCast_mul, Int.natCast_pow] at this
      have h2 : ((2 : Nat) : Int) = 2 := rfl
      rw [h2] at this
      omega
    exact Int.lt_of_lt_of_le (Int.mul_lt_mul_of_pos_right h6 p) g
  · rintro ⟨h2, h3⟩
    have hG := lng_le lens 15
    have key : ∀ d, l + d ≤ 15 → (w : Int) * 2 ^ d < eT (cF lens) (l + d) → ∃ i, Begins lens l w i := by
      intro d
      induction d with
      | zero => intro _ h; simp at h; omega
      | succ d ih =>
        intro hd h
        by_cases hlt : (w : Int) * 2 ^ d < eT (cF lens) (l + d)
        · exact ih (by omega) hlt
        · rw [show l + (d + 1) = l + d + 1 by omega, eT_succ, Int.pow_succ, ← Int.mul_assoc] at h
          obtain ⟨k, hk⟩ : ∃ k : Nat, (w : Int) * 2 ^ d * 2 - 2 * eT (cF lens) (l + d) = k := ⟨((w : Int) * 2 ^ d * 2 - 2 * eT (cF lens) (l + d)).toNat, by omega⟩
          obtain ⟨j, hj, _, hl2, hc⟩ := sym_at (lens := lens) (l + d + 1) k (by omega) (by omega) (by omega)
          rw [Nat.add_sub_cancel] at hc
          refine ⟨j, hj, by rw [hl2]; omega, ?_⟩
          have e : codeAt lens j = ((w * 2 ^ (d + 1) : Nat) : Int) := by
            rw [hc, Int.natCast_mul, Int.natCast_pow, Int.pow_succ]
            have h2 : ((2 : Nat) : Int) = 2 := rfl
            rw [h2, ← Int.mul_assoc]
            omega
          rw [e, hl2, show ((l + d + 1 : Nat) : Int) - (l : Int) = ((d + 1 : Nat) : Int) by omega, shr_i64 _ _ (by omega), Nat.mul_div_cancel _ (Nat.pow_pos (by decide))]
    exact key (lngT lens 15 - l) (by omega) (by rw [show l + (lngT lens 15 - l) = lngT lens 15 by omega]; exact h3)
end Go.Proofs.Ytmmoenleldcadaa.HP
namespace Go.Proofs.Ytmmoenleldcadaa.HP
open Go.RowKit Go.Proofs.Ytmmoenleldcadaa.Fn Go.Proofs.Ytmmoenleldcadaa.HF Go.Proofs.Ytmmoenleldcadaa.PR Go.Proofs.Ytmmoenleldcadaa.MB Go.Proofs.YtmmoenleldcadaaW.PrintWords Go.Proofs.YtmmoenleldcadaaW.PrintLast Go.Proofs.YtmmoenleldcadaaW.PrintMore
/-- Does a longer word begin with w (as the loop asks)? -/
def begB (lens : List Int) (l : Nat) (w : Int) (i : Nat) : Bool := decide ((l : Int) < rd lens (i : Int)) && (shr .i64 (rd (codesL lens) (i : Int)) (rd lens (i : Int) - l) == w)
theorem begB_iff {lens : List Int} {l : Nat} {w : Int} {i : Nat} (hi : i < lens.length) : begB lens l w i = true ↔ Begins lens l w i := by
  unfold begB Begins
  rw [rd_get lens i hi, codes_rd lens i hi]
  simp only [Bool.and_eq_true, decide_eq_true_eq, beq_iff_eq]
  exact ⟨fun ⟨h1, h2⟩ => ⟨hi, h1, h2⟩, fun ⟨_, h1, h2⟩ => ⟨h1, h2⟩⟩
theorem sym_step {lens : List Int} (hl : lens.length ≤ 288) (hr : ∀ x ∈ lens, 0 ≤ x ∧ x ≤ 15) (s : ByteArray) (a l i : Nat) (h15 : l ≤ 15) (w : Int) (b : Bool) (k : Nat) (hi : i < lens.length) (hn : ¬ (rd lens (i : Int) = (l : Int) ∧ rd (codesL lens) (i : Int) = w)) :
    postroadref03_Symbol.l1 (k + 1) lens (codesL lens) s (a : Int) w (l : Int) b (i : Int) = postroadref03_Symbol.l1 k lens (codesL lens) s (a : Int) w (l : Int) (b || begB lens l w i) ((i + 1 : Nat) : Int) := by
  have w1 : wrap64 ((i : Int) + 1) = ((i + 1 : Nat) : Int) := by unfold wrap64; omega
  have hx := hr lens[i] (List.getElem_mem _)
  have hrd := rd_get lens i hi
  have w2 : wrap64 (rd lens (i : Int) - (l : Int)) = rd lens (i : Int) - (l : Int) := by rw [hrd]; unfold wrap64; omega
  have hcl := codesL_len lens
  have g1 : (i : Int) < (lens.length : Int) := by omega
  have g2 : (0 : Int) ≤ (i : Int) := by omega
  have g3 : (i : Int) < ((codesL lens).length : Int) := by omega
  rw [postroadref03_Symbol.l1, if_pos g1, if_pos g2, if_pos g3, if_pos g3, w1, w2]
  unfold begB
  generalize rd lens (i : Int) = x at hn hrd w2
  generalize rd (codesL lens) (i : Int) = y at hn
  by_cases hxl : x = (l : Int)
  · have hyw : ¬ y = w := fun e => hn ⟨hxl, e⟩
    have e1 : decide ((l : Int) < x) = false := decide_eq_false (by omega)
    rw [if_pos hxl, if_neg hyw, e1, Bool.false_and, Bool.or_false]
    cases b
    · rw [if_neg (by decide), if_neg (by omega)]
    · rw [if_pos rfl]
  · rw [if_neg hxl]
    cases b
    · rw [if_neg (by decide), Bool.false_or]
      by_cases hgt : x > (l : Int)
      · rw [if_pos hgt, if_pos (by omega), decide_eq_true (show (l : Int) < x from hgt), Bool.true_and]
      · rw [if_neg hgt, decide_eq_false (show ¬ (l : Int) < x by omega), Bool.false_and]
    · rw [if_pos rfl, Bool.true_or]
theorem sym_hit {lens : List Int} (hl : lens.length ≤ 288) (hr : ∀ x ∈ lens, 0 ≤ x ∧ x ≤ 15) (s : ByteArray) (a l j : Nat) (ha : a ≤ 100000000000000000) (h15 : l ≤ 15) (w : Int) (hj : j < lens.length) (h1 : rd lens (j : Int) = (l : Int)) (h2 : rd (codesL lens) (j : Int) = w)
    (hu : ∀ i : Nat, i < j → ¬ (rd lens (i : Int) = (l : Int) ∧ rd (codesL lens) (i : Int) = w)) : ∀ (e i : Nat) (b : Bool), i + e = j → ∃ k, postroadref03_Symbol.l1 k lens (codesL lens) s (a : Int) w (l : Int) b (i : Int) = some ((j : Int), ((a + l : Nat) : Int), 0) := by
  intro e
  induction e with
  | zero =>
    intro i b hi
    have hcl := codesL_len lens
    have w1 : wrap64 ((a : Int) + (l : Int)) = ((a + l : Nat) : Int) := by unfold wrap64; omega
    refine ⟨1, ?_⟩
    rw [show i = j by omega, postroadref03_Symbol.l1, if_pos (by omega), if_pos (by omega), if_pos h1, if_pos (by omega), if_pos h2, w1]
  | succ e ih =>
    intro i b hi
    obtain ⟨k, hk⟩ := ih (i + 1) (b || begB lens l w i) (by omega)
    exact ⟨k + 1, by rw [sym_step hl hr s a l i h15 w b k (by omega) (hu i (by omega)), hk]⟩
theorem sym_miss {lens : List Int} (hl : lens.length ≤ 288) (hr : ∀ x ∈ lens, 0 ≤ x ∧ x ≤ 15) (s : ByteArray) (a l : Nat) (h15 : l ≤ 15) (w : Int) (hu : ∀ i : Nat, i < lens.length → ¬ (rd lens (i : Int) = (l : Int) ∧ rd (codesL lens) (i : Int) = w)) (r : Int × Int × Int)
    (hn : (∃ i, Begins lens l w i) → ∃ k, postroadref03_Symbol.l0 k lens (codesL lens) s (a : Int) w ((l + 1 : Nat) : Int) = some r) (hz : ¬ (∃ i, Begins lens l w i) → r = (0, 0, 30)) :
    ∀ (e i : Nat) (b : Bool), i + e = lens.length → (b = true → ∃ i, Begins lens l w i) → (b = false → ∀ i' < i, ¬ Begins lens l w i') → ∃ k, postroadref03_Symbol.l1 k lens (codesL lens) s (a : Int) w (l : Int) b (i : Int) = some r := by
  intro e
  induction e with
  | zero =>
    intro i b hi h1 h2
    have w1 : wrap64 ((l : Int) + 1) = ((l + 1 : Nat) : Int) := by unfold wrap64; omega
    cases b with
    | true =>
      obtain ⟨k, hk⟩ := hn (h1 rfl)
      refine ⟨k + 1, ?_⟩
      rw [postroadref03_Symbol.l1, if_neg (by omega), if_pos rfl, w1, hk]
    | false =>
      refine ⟨1, ?_⟩
      rw [postroadref03_Symbol.l1, if_neg (by omega), if_neg (by decide), hz (fun ⟨j, hb⟩ => h2 rfl j (by have := hb.1; omega) hb)]
  | succ e ih =>
    intro i b hi h1 h2
    obtain ⟨k, hk⟩ := ih (i + 1) (b || begB lens l w i) (by omega) (fun h => by
      rcases Bool.or_eq_true_iff.1 h with h | h
      · exact h1 h
      · exact ⟨i, (begB_iff (by omega)).1 h⟩) (fun h i' hi' hb => by
      rw [Bool.or_eq_false_iff] at h
      by_cases hii : i' = i
      · subst hii
        rw [(begB_iff (by omega)).2 hb] at h
        cases h.2
      · exact h2 h.1 i' (by omega) hb)
    exact ⟨k + 1, by rw [sym_step hl hr s a l i h15 w b k (by omega) (hu i (by omega)), hk]⟩
/-- What the document tells of a symbol. -/
def symR (r : Int × Int × Nat) : Int × Int × Int := (r.1, if r.2.1 = 0 then (r.2.2 : Int) else 0, r.2.1)
theorem bitI_b (s : ByteArray) (a : Nat) : bitI s a = 0 ∨ bitI s a = 1 := by
  have := nb_lt (sbit s) a 1
  unfold bitI
  omega
theorem sym_out {lens : List Int} (ho : okL lens = true) (s : ByteArray) (hs : s.size ≤ 1000000000000000) (a : Nat) : ∀ (d m w : Nat), m + d = 15 → a + m ≤ 8 * s.size → eT (cF lens) m ≤ (w : Int) → w < 2 ^ m →
    ∃ k, postroadref03_Symbol.l0 k lens (codesL lens) s (a : Int) (w : Int) ((m + 1 : Nat) : Int) = some (symR (symS lens s d (m + 1) (w : Int) (a + m))) := by
  have o1 := (okL_open ho).1
  have o2 := (okL_open ho).2.1
  intro d
  induction d with
  | zero =>
    intro m w hl _ _ _
    refine ⟨1, ?_⟩
    rw [postroadref03_Symbol.l0, if_neg (by omega)]
    rfl
  | succ d ih =>
    intro m w hl ha he hw
    have h15 : m + 1 ≤ 15 := by omega
    have hp : 2 ^ m ≤ 2 ^ 14 := Nat.pow_le_pow_right (by decide) (by omega)
    have w1 : wrap64 (wrap64 ((a : Int) + ((m + 1 : Nat) : Int)) - 1) = ((a + m : Nat) : Int) := by
      rw [wrap64_id ((a : Int) + ((m + 1 : Nat) : Int)) (by omega) (by omega), wrap64_id _ (by omega) (by omega)]
      omega
    have W1 := Aside0.mk w1
    have HB := Aside0.mk (fun k hk => rbits_f s hs (a + m) ha 1 (by decide) (by decide) k hk)
    have i15 : ((m + 1 : Nat) : Int) ≤ 15 := by omega
    clear w1
    unfold symS
    rw [Nat.add_sub_cancel]
    by_cases hsh : 8 * s.size < a + m + 1
    · have hsi : 8 * (s.size : Int) - ((a + m : Nat) : Int) < 1 := by omega
      refine ⟨61, ?_⟩
      rw [postroadref03_Symbol.l0, if_pos i15, W1.out, HB.out 60 (Nat.le_refl _), if_pos hsi, if_pos hsh]
      simp only [Option.bind_some]
      rw [if_neg (by decide)]
      rfl
    · rw [if_neg hsh]
      have hsi : ¬ 8 * (s.size : Int) - ((a + m : Nat) : Int) < 1 := by omega
      have hbit := bitI_b s (a + m)
      have hbi : ((nb (sbit s) (a + m) (Int.toNat 1) : Nat) : Int) = bitI s (a + m) := rfl
      have W2 := Aside0.mk (show wrap64 (wrap64 (2 * (w : Int)) + bitI s (a + m)) = 2 * (w : Int) + bitI s (a + m) by
        rw [wrap64_id (2 * (w : Int)) (by omega) (by omega), wrap64_id _ (by omega) (by omega)])
      have hgo : ∀ r, (∃ k, postroadref03_Symbol.l1 k lens (codesL lens) s (a : Int) (2 * (w : Int) + bitI s (a + m)) ((m + 1 : Nat) : Int) false 0 = some r) → ∃ k, postroadref03_Symbol.l0 k lens (codesL lens) s (a : Int) (w : Int) ((m + 1 : Nat) : Int) = some r := fun r ⟨k, hk⟩ => by
        refine ⟨(60 + k) + 1, ?_⟩
        have hk2 := up (fun k => (postroadref03_Symbol.mono_l k).2 lens (codesL lens) s (a : Int) (2 * (w : Int) + bitI s (a + m)) ((m + 1 : Nat) : Int) false 0) hk 60
        rw [Nat.add_comm] at hk2
        rw [postroadref03_Symbol.l0, if_pos i15, W1.out, HB.out (60 + k) (Nat.le_add_right _ _), if_neg hsi, hbi]
        simp only [Option.bind_some, if_true, W2.out]
        exact hk2
      obtain ⟨w', hw'⟩ : ∃ w' : Nat, 2 * (w : Int) + bitI s (a + m) = w' := ⟨(2 * (w : Int) + bitI s (a + m)).toNat, by omega⟩
      rw [hw'] at hgo ⊢
      have hlt : w' < 2 ^ (m + 1) := by
        rw [Nat.pow_succ]
        omega
      have he2 : 2 * eT (cF lens) m ≤ (w' : Int) := by omega
      have hE : eT (cF lens) (m + 1) = 2 * eT (cF lens) m + cF lens (m + 1) := eT_succ _ _
      clear hbit hbi W2 HB W1 hsi
      by_cases hit : (w' : Int) < eT (cF lens) (m + 1)
      · rw [if_pos hit]
        obtain ⟨k, hk⟩ : ∃ k : Nat, (w' : Int) - 2 * eT (cF lens) m = k := ⟨((w' : Int) - 2 * eT (cF lens) m).toNat, by omega⟩
        obtain ⟨j, hj, hs1, hs2, hs3⟩ := sym_at (lens := lens) (m + 1) k (by omega) h15 (by omega)
        rw [Nat.add_sub_cancel] at hs1 hs3
        rw [hk, Int.toNat_natCast, hs1]
        obtain ⟨k0, hk0⟩ := sym_hit o1 o2 s a (m + 1) j (by omega) h15 (w' : Int) hj (by rw [rd_get lens j hj, hs2]) (by rw [codes_rd lens j hj, hs3]; omega) (fun i hi ⟨q1, q2⟩ => by
          have hil : i < lens.length := by omega
          rw [rd_get lens i hil] at q1
          rw [codes_rd lens i hil] at q2
          refine code_apart ho i j (m + 1) 0 hil hj (by omega) q1 (by omega) (by rw [hs2]) ?_
          obtain ⟨c, hc⟩ : ∃ c : Nat, codeAt lens j = c := ⟨w', by omega⟩
          rw [hc, show ((0 : Nat) : Int) = ((0 : Nat) : Int) from rfl, shr_i64 c 0 (by omega), Nat.pow_zero, Nat.div_one, q2]
          omega) j 0 false (by omega)
        exact hgo _ ⟨k0, hk0⟩
      · rw [if_neg hit]
        refine hgo _ ?_
        have hbi2 := begins_iff ho (m + 1) (by omega) w' (by omega)
        refine sym_miss o1 o2 s a (m + 1) h15 (w' : Int) (fun i hi ⟨q1, q2⟩ => ?_) _ (fun hB => ?_) (fun hB => ?_) lens.length 0 false (by omega) (fun h => by cases h) (fun _ i' h => absurd h (Nat.not_lt_zero _))
        · rw [rd_get lens i hi] at q1
          rw [codes_rd lens i hi] at q2
          obtain ⟨c1, c2, c3⟩ := code_fits ho i (m + 1) hi q1 (by omega)
          have : eT (cF lens) (m + 1) = nxt (fun k => cntL lens k) (m + 1) + cntL lens ((m + 1 : Nat) : Int) := if_neg (by omega)
          omega
        · have hB2 := hbi2.1 hB
          obtain ⟨k, hk⟩ := ih (m + 1) w' (by omega) (by omega) (by omega) hlt
          refine ⟨k, ?_⟩
          rw [if_pos hB2, hk]; rfl
        · rw [if_neg (fun h => hB (hbi2.2 h))]
          rfl
theorem refsym_ok {lens : List Int} (ho : okL lens = true) (s : ByteArray) (hs : s.size ≤ 1000000000000000) (a : Nat) (ha : a ≤ 8 * s.size) : ∃ k, postroadref03_Symbol.f k lens (codesL lens) s (a : Int) = some (symR (symF lens s a)) := by
  obtain ⟨k, hk⟩ := sym_out ho s hs a 15 0 0 rfl (by omega) (by simp [eT]) (by decide)
  exact ⟨k, hk⟩
end Go.Proofs.Ytmmoenleldcadaa.HP
namespace Go.Proofs.Ytmmoenleldcadaa.PC
open Go.RowKit Go.Proofs.Ytmmoenleldcadaa.Fn Go.Proofs.Ytmmoenleldcadaa.HF Go.Proofs.Ytmmoenleldcadaa.HP Go.Proofs.Ytmmoenleldcadaa.MB Go.Proofs.YtmmoenleldcadaaW.PrintWords Go.Proofs.YtmmoenleldcadaaW.PrintLast Go.Proofs.YtmmoenleldcadaaW.PrintMore
theorem at_ {α : Type} {f : Nat → Option α} (hm : ∀ k, LeO (f k) (f (k + 1))) {K k : Nat} {r : α} (h : f K = some r) (hk : K ≤ k) : f k = some r := by
  obtain ⟨d, rfl⟩ := Nat.exists_eq_add_of_le hk
  exact up hm h d
def outP (l : List Int) (L i : Nat) : List Int := (List.range l.length).map fun j => if 0 < l.getD j 0 ∧ (l.getD j 0 < (L : Int) ∨ (l.getD j 0 = (L : Int) ∧ j < i)) then codeAt l j else 0
theorem outP_len (l : List Int) (L i : Nat) : (outP l L i).length = l.length := by unfold outP; rw [List.length_map, List.length_range]
theorem getD_at (l : List Int) (j : Nat) (h : j < l.length) : l.getD j 0 = l[j] := by rw [List.getD_eq_getElem?_getD, List.getElem?_eq_getElem h]; rfl
theorem outP_next (l : List Int) (L : Nat) : outP l L l.length = outP l (L + 1) 0 := by
  unfold outP
  refine List.map_congr_left fun j hj => ?_
  have := List.mem_range.1 hj
  by_cases c : 0 < l.getD j 0 ∧ (l.getD j 0 < (L : Int) ∨ (l.getD j 0 = (L : Int) ∧ j < l.length))
  · rw [if_pos c, if_pos (by omega)]
  · rw [if_neg c, if_neg (by omega)]
theorem outP_set (l : List Int) (L i : Nat) (hi : i < l.length) (h0 : 0 < L) (hL : l[i] = (L : Int)) : (outP l L i).set i (codeAt l i) = outP l L (i + 1) := by
  refine List.ext_getElem (by rw [List.length_set, outP_len, outP_len]) fun j h1 h2 => ?_
  have hjl : j < l.length := by rw [outP_len] at h2; exact h2
  have g : ∀ (a b : Nat) (h : j < (outP l a b).length), (outP l a b)[j] = if 0 < l.getD j 0 ∧ (l.getD j 0 < (a : Int) ∨ (l.getD j 0 = (a : Int) ∧ j < b)) then codeAt l j else 0 := fun a b h => by
    simp only [outP, List.getElem_map, List.getElem_range]
  rw [List.getElem_set, g L (i + 1), g L i]
  by_cases e : i = j
  · subst e
    rw [if_pos rfl, getD_at l i hi, if_pos (by omega)]
  · rw [if_neg e]
    by_cases c : 0 < l.getD j 0 ∧ (l.getD j 0 < (L : Int) ∨ (l.getD j 0 = (L : Int) ∧ j < i))
    · rw [if_pos c, if_pos (by omega)]
    · rw [if_neg c, if_neg (by omega)]
theorem outP_same (l : List Int) (L i : Nat) (hi : i < l.length) (hL : l[i] ≠ (L : Int)) : outP l L i = outP l L (i + 1) := by
  unfold outP
  refine List.map_congr_left fun j hj => ?_
  have hjl := List.mem_range.1 hj
  by_cases e : i = j
  · subst e
    rw [getD_at l i hi]
    by_cases c : 0 < l[i] ∧ (l[i] < (L : Int) ∨ (l[i] = (L : Int) ∧ i < i))
    · rw [if_pos c, if_pos (by omega)]
    · rw [if_neg c, if_neg (by omega)]
  · by_cases c : 0 < l.getD j 0 ∧ (l.getD j 0 < (L : Int) ∨ (l.getD j 0 = (L : Int) ∧ j < i))
    · rw [if_pos c, if_pos (by omega)]
    · rw [if_neg c, if_neg (by omega)]
theorem outP_start (l : List Int) : outP l 1 0 = List.replicate l.length 0 := by
  unfold outP
  refine List.ext_getElem (by simp) fun j h1 h2 => ?_
  rw [List.getElem_map, List.getElem_range, List.getElem_replicate, if_neg (by omega)]
theorem outP_end (l : List Int) (h : ∀ x ∈ l, 0 ≤ x ∧ x ≤ 15) : outP l 16 0 = codesL l := by
  unfold outP codesL
  refine List.map_congr_left fun j hj => ?_
  have hjl := List.mem_range.1 hj
  have := h l[j] (List.getElem_mem _)
  rw [getD_at l j hjl]
  by_cases c : 0 < l[j]
  · rw [if_pos (by omega)]
  · rw [if_neg (by omega), codeAt_zero l j hjl (by omega)]
theorem refcodes_in (l : List Int) (ho : okL l = true) (L : Nat) (h0 : 1 ≤ L) (h15 : L ≤ 15)
    (hn : ∃ k, postroadref03_Codes.l0 k l (outP l (L + 1) 0) (nxt (fun k => cntL l k) L + cntL l (L : Int)) ((L + 1 : Nat) : Int) = some (codesL l, 0)) :
    ∀ (d i : Nat), i + d = l.length → ∃ k, postroadref03_Codes.l1 k l (outP l L i) (nxt (fun k => cntL l k) L + cntL (l.take i) (L : Int)) (L : Int) (i : Int) = some (codesL l, 0) := by
  obtain ⟨o1, o2, o3⟩ := okL_open ho
  have nb := nxt_bd (f := fun k => cntL l k) (fun k => ⟨(cntL_nn l k).1, by have := (cntL_nn l k).2; omega⟩) L
  have hp : (2 : Int) ^ L ≤ 32768 := by
    have := pow15 L h15
    have h2 : ((2 ^ L : Nat) : Int) ≤ 32768 := Int.ofNat_le.2 this
    rwa [Int.natCast_pow] at h2
  intro d
  induction d with
  | zero =>
    intro i hi
    obtain ⟨k, hk⟩ := hn
    refine ⟨k + 1, ?_⟩
    have w1 : wrap64 ((L : Int) + 1) = ((L + 1 : Nat) : Int) := by unfold wrap64; omega
    rw [postroadref03_Codes.l1, if_neg (by omega), w1, show i = l.length by omega, List.take_length, outP_next, hk]
  | succ d ih =>
    intro i hi
    have hil : i < l.length := by omega
    obtain ⟨k, hk⟩ := ih (i + 1) (by omega)
    refine ⟨k + 1, ?_⟩
    have w1 : wrap64 ((i : Int) + 1) = ((i + 1 : Nat) : Int) := by unfold wrap64; omega
    have cn := cntL_nn (l.take i) (L : Int)
    have cl : ((l.take i).length : Int) ≤ 288 := by rw [List.length_take]; omega
    rw [postroadref03_Codes.l1, if_pos (by omega), if_pos (by omega), rd_get l i hil, w1]
    by_cases e : l[i] = (L : Int)
    · have w2 : wrap64 (nxt (fun k => cntL l k) L + cntL (l.take i) (L : Int) + 1) = nxt (fun k => cntL l k) L + cntL (l.take (i + 1)) (L : Int) := by
        have := cnt_next l i hil
        rw [e] at this
        rw [this, wrap64_id _ (by omega) (by omega)]
        omega
      rw [if_pos e, if_pos (by rw [outP_len]; omega), Int.toNat_natCast, ← codeAt_eq l i L hil e (by omega), outP_set l L i hil (by omega) e, codeAt_eq l i L hil e (by omega), w2, hk]
    · have c2 : cntL (l.take (i + 1)) (L : Int) = cntL (l.take i) (L : Int) := by
        rw [List.take_succ_eq_append_getElem hil, cntL_snoc, if_neg e, Int.add_zero]
      rw [if_neg e, outP_same l L i hil e, ← c2, hk]
theorem refcodes_out (l : List Int) (ho : okL l = true) : ∀ (e L : Nat) (y : Int), L + e = 16 → 1 ≤ L → 2 * y = nxt (fun k => cntL l k) L → ∃ k, postroadref03_Codes.l0 k l (outP l L 0) y (L : Int) = some (codesL l, 0) := by
  obtain ⟨o1, o2, o3⟩ := okL_open ho
  intro e
  induction e with
  | zero =>
    intro L y hL h1 hy
    refine ⟨1, ?_⟩
    rw [postroadref03_Codes.l0, if_neg (by omega), show L = 16 by omega, outP_end l o2]
  | succ e ih =>
    intro L y hL h1 hy
    have nb := nxt_bd (f := fun k => cntL l k) (fun k => ⟨(cntL_nn l k).1, by have := (cntL_nn l k).2; omega⟩) L
    have hp : (2 : Int) ^ L ≤ 32768 := by
      have := pow15 L (by omega)
      have h2 : ((2 ^ L : Nat) : Int) ≤ 32768 := Int.ofNat_le.2 this
      rwa [Int.natCast_pow] at h2
    obtain ⟨k, hk⟩ := refcodes_in l ho L h1 (by omega) (ih (L + 1) (nxt (fun k => cntL l k) L + cntL l (L : Int)) (by omega) (by omega) (by
      show _ = if L = 0 then (0 : Int) else 2 * (nxt (fun k => cntL l k) L + cntL l (L : Int))
      rw [if_neg (by omega)])) l.length 0 (by omega)
    refine ⟨k + 1, ?_⟩
    have w2 : wrap64 (2 * y) = nxt (fun k => cntL l k) L := by rw [hy]; exact wrap64_id _ (by omega) (by omega)
    have hk2 : postroadref03_Codes.l1 k l (outP l L 0) (nxt (fun k => cntL l k) L + cntL (l.take 0) (L : Int)) (L : Int) 0 = _ := hk
    rw [List.take_zero, cntL_nil, Int.add_zero] at hk2
    rw [postroadref03_Codes.l0, if_pos (by omega), w2, hk2]
theorem refcodes_ok (l : List Int) : ∃ k, postroadref03_Codes.f k l = some (if okL l then codesL l else [], if okL l then 0 else 30) := by
  cases h : okL l with
  | false =>
    obtain ⟨k, hk⟩ := may_ok l
    refine ⟨k, ?_⟩
    unfold postroadref03_Codes.f
    rw [hk, h]
    rfl
  | true =>
    obtain ⟨o1, o2, o3⟩ := okL_open h
    obtain ⟨k0, hk0⟩ := refcodes_out l h 15 1 0 (by omega) (Nat.le_refl _) (by rfl)
    obtain ⟨k, hk1, hk2⟩ := both (fun k => postroadref03_May.mono l k) (fun k => (postroadref03_Codes.mono_l k).1 l (outP l 1 0) 0 ((1 : Nat) : Int)) (may_ok l) ⟨k0, hk0⟩
    refine ⟨k, ?_⟩
    unfold postroadref03_Codes.f
    rw [hk1, h]
    simp only [Option.bind_some, if_true]
    rw [if_pos (by omega), if_pos (by rw [Int.toNat_natCast]; omega), Int.toNat_natCast, ← outP_start]
    exact hk2
end Go.Proofs.Ytmmoenleldcadaa.PC
