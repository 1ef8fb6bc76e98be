/- Plain facts on bits of bytes: what a reader's and a writer's loops come to. -/
import Derived.Test.YtmmoenleldcadaaWMore
import Derived.Laws.BitsLemmas
namespace Go.Proofs.Ytmmoenleldcadaa.MB
open Go.RowKit Go.Proofs.YtmmoenleldcadaaW.PrintWords Go.Proofs.YtmmoenleldcadaaW.PrintMore

theorem wrap_u64 (n : Int) : IntKind.u64.wrap n = n % 18446744073709551616 := by simp [IntKind.wrap, IntKind.bits, IntKind.signed]
theorem wraps_u64 (n : Int) (h₀ : 0 ≤ n) (h₁ : n < 2 ^ 64) : IntKind.u64.wrap n = n := by rw [wrap_u64]; omega
theorem wraps_i64 (n : Int) (h₀ : 0 ≤ n) (h₁ : n < 2 ^ 63) : IntKind.i64.wrap n = n := by rw [IntKind.wrap_i64]; omega
theorem or_u64 (a b : Nat) (ha : a < 2 ^ 64) (hb : b < 2 ^ 64) : Go.bits .or .u64 (a : Int) (b : Int) = ((a ||| b : Nat) : Int) :=
  (bits_nat .u64 64 (by decide) wraps_u64 a b ha hb).2
theorem and_u64 (a b : Nat) (ha : a < 2 ^ 64) (hb : b < 2 ^ 64) : Go.bits .and .u64 (a : Int) (b : Int) = ((a &&& b : Nat) : Int) :=
  (bits_nat .u64 64 (by decide) wraps_u64 a b ha hb).1
theorem or_u8 (a b : Nat) (ha : a < 2 ^ 8) (hb : b < 2 ^ 8) : Go.bits .or .u8 (a : Int) (b : Int) = ((a ||| b : Nat) : Int) :=
  (bits_nat .u8 8 (by decide) wraps_u8 a b ha hb).2
theorem and_i64 (a b : Nat) (ha : a < 2 ^ 63) (hb : b < 2 ^ 63) : Go.bits .and .i64 (a : Int) (b : Int) = ((a &&& b : Nat) : Int) :=
  (bits_nat .i64 63 (by decide) wraps_i64 a b ha hb).1
theorem wrap64_id (n : Int) (h : -9223372036854775808 ≤ n) (h' : n ≤ 9223372036854775807) : wrap64 n = n := by unfold wrap64; omega
theorem cast_lt_two_pow {a n : Nat} (h : a < 2 ^ n) : (a : Int) < 2 ^ n := by exact_mod_cast h

/-- The bits of a function, as a number. -/
def nb (f : Nat → Bool) (a : Nat) : Nat → Nat
  | 0 => 0
  | n + 1 => nb f a n + (if f (a + n) then 2 ^ n else 0)

theorem nb_lt (f : Nat → Bool) (a : Nat) : ∀ n, nb f a n < 2 ^ n
  | 0 => by simp [nb]
  | n + 1 => by
    have h := nb_lt f a n
    have h2 : 2 ^ (n + 1) = 2 ^ n + 2 ^ n := by rw [Nat.pow_succ]; omega
    unfold nb
    split <;> omega

theorem testBit_nb (f : Nat → Bool) (a : Nat) : ∀ n i, (nb f a n).testBit i = (decide (i < n) && f (a + i))
  | 0, i => by simp [nb]
  | n + 1, i => by
    have h := nb_lt f a n
    have ih := testBit_nb f a n i
    unfold nb
    by_cases hf : f (a + n) = true
    · rw [if_pos hf, Nat.add_comm (nb f a n)]
      by_cases hi : i < n
      · rw [Nat.testBit_two_pow_add_gt hi, ih]; simp [hi, Nat.lt_succ_of_lt hi]
      · by_cases he : i = n
        · subst he; rw [Nat.testBit_two_pow_add_eq, Nat.testBit_lt_two_pow h]; simp [hf]
        · have h1 : ¬ i < n + 1 := by omega
          have h2 : 2 ^ (n + 1) ≤ 2 ^ i := Nat.pow_le_pow_right (by decide) (by omega)
          have h3 : 2 ^ (n + 1) = 2 ^ n + 2 ^ n := by rw [Nat.pow_succ]; omega
          rw [Nat.testBit_lt_two_pow (by omega)]; simp [h1]
    · rw [if_neg hf, Nat.add_zero, ih]
      by_cases hi : i < n
      · simp [hi, Nat.lt_succ_of_lt hi]
      · by_cases he : i = n
        · subst he; simp [hf]
        · have : ¬ i < n + 1 := by omega
          simp [hi, this]

theorem testBit_high {x n i : Nat} (h : x < 2 ^ n) (hi : n ≤ i) : x.testBit i = false :=
  Nat.testBit_lt_two_pow (Nat.lt_of_lt_of_le h (Nat.pow_le_pow_right (by decide) hi))

theorem nb_unique {f : Nat → Bool} {a n x : Nat} (hx : x < 2 ^ n) (h : ∀ i, i < n → x.testBit i = f (a + i)) : x = nb f a n := by
  refine Nat.eq_of_testBit_eq fun i => ?_
  rw [testBit_nb]
  by_cases hi : i < n
  · simp [hi, h i hi]
  · rw [testBit_high hx (by omega)]; simp [hi]

theorem nb_congr {f g : Nat → Bool} {a b n : Nat} (h : ∀ i, i < n → f (a + i) = g (b + i)) : nb f a n = nb g b n :=
  nb_unique (nb_lt _ _ _) fun i hi => by rw [testBit_nb]; simp [hi, h i hi]

/-- Bit i of bytes. -/
def sbit (s : ByteArray) (i : Nat) : Bool := (bt s ((i / 8 : Nat) : Int)).toNat.testBit (i % 8)
def lbit (l : List Int) (i : Nat) : Bool := (rd l ((i / 8 : Nat) : Int)).toNat.testBit (i % 8)

theorem bt_nat (s : ByteArray) (i : Int) : ∃ b : Nat, bt s i = (b : Int) ∧ b < 256 := by
  have h := bt_range s i
  exact ⟨(bt s i).toNat, by omega, by omega⟩

theorem tdiv_cast (a : Nat) : Int.tdiv (a : Int) 8 = ((a / 8 : Nat) : Int) := by
  rw [Int.tdiv_eq_ediv_of_nonneg (by omega)]; omega
theorem tmod_cast (a : Nat) : Int.tmod (a : Int) 8 = ((a % 8 : Nat) : Int) := by
  rw [Int.tmod_eq_emod_of_nonneg (by omega)]; omega

theorem shr_u8 (b r : Nat) (hr : r ≤ 8) : shr .u8 (b : Int) (r : Int) = ((b / 2 ^ r : Nat) : Int) := by
  unfold shr
  rw [show min ((r : Int)).toNat IntKind.u8.bits = r from by simp [IntKind.bits]; omega]
  simp
theorem shl_u64 (b r : Nat) (hr : r ≤ 64) (h : b * 2 ^ r < 2 ^ 64) : shl .u64 (b : Int) (r : Int) = ((b * 2 ^ r : Nat) : Int) := by
  unfold shl
  rw [show min ((r : Int)).toNat IntKind.u64.bits = r from by simp [IntKind.bits]; omega]
  have e : ((b : Int) * 2 ^ r) = ((b * 2 ^ r : Nat) : Int) := by simp
  rw [e]
  exact wraps_u64 _ (by omega) (cast_lt_two_pow h)
theorem mn_cast (a b : Nat) : mn (a : Int) (b : Int) = ((min a b : Nat) : Int) := by unfold mn; split <;> omega

/-- One step of reading: what the accumulator's bits are behind it. -/
theorem step_bits {f : Nat → Bool} {x b a got r st : Nat} (hx : x < 2 ^ got) (hbit : ∀ i, i < got → x.testBit i = f (a + i))
    (hb : ∀ j, j < st → b.testBit (r + j) = f (a + got + j)) : ∀ i, i < got + st → (x ||| (b / 2 ^ r * 2 ^ got)).testBit i = f (a + i) := by
  intro i hi
  rw [← Nat.shiftRight_eq_div_pow, ← Nat.shiftLeft_eq, Nat.testBit_or, Nat.testBit_shiftLeft, Nat.testBit_shiftRight]
  by_cases h : i < got
  · have : ¬ got ≤ i := by omega
    simp [this, hbit i h]
  · have h1 : got ≤ i := by omega
    rw [testBit_high hx h1]
    have := hb (i - got) (by omega)
    simp only [h1, decide_true, Bool.true_and, Bool.false_or]
    rw [this]
    congr 1
    omega
theorem div_pow_lt {b r : Nat} (hb : b < 2 ^ 8) (hr : r ≤ 8) : b / 2 ^ r < 2 ^ (8 - r) := by
  rw [Nat.div_lt_iff_lt_mul (Nat.two_pow_pos r), ← Nat.pow_add]
  rwa [show 8 - r + r = 8 from by omega]
theorem step_lt {x b got r : Nat} (hx : x < 2 ^ got) (hb : b < 2 ^ 8) (hr : r ≤ 8) : x ||| (b / 2 ^ r * 2 ^ got) < 2 ^ (got + (8 - r)) := by
  refine Nat.or_lt_two_pow (Nat.lt_of_lt_of_le hx (Nat.pow_le_pow_right (by decide) (by omega))) ?_
  have h := div_pow_lt hb hr
  have h2 := Nat.mul_lt_mul_of_pos_right h (Nat.two_pow_pos got)
  rwa [← Nat.pow_add, Nat.add_comm (8 - r)] at h2


/-! ### What a writer holds -/
def bitsOf (x n : Nat) : List Bool := (List.range n).map fun i => x.testBit i
theorem bitsOf_length (x n : Nat) : (bitsOf x n).length = n := by simp [bitsOf]
theorem getD_bitsOf (x n i : Nat) : (bitsOf x n).getD i false = (decide (i < n) && x.testBit i) := by
  by_cases h : i < n
  · simp [bitsOf, List.getD_eq_getElem?_getD, h]
  · simp [bitsOf, List.getD_eq_getElem?_getD, h]
theorem bitsOf_add (x j st : Nat) : bitsOf x (j + st) = bitsOf x j ++ bitsOf (x / 2 ^ j) st := by
  unfold bitsOf
  rw [List.range_add, List.map_append, List.map_map]
  congr 1
  refine List.map_congr_left fun i _ => ?_
  simp [← Nat.shiftRight_eq_div_pow, Nat.testBit_shiftRight]

structure Packs (bs : List Int) (l : List Bool) : Prop where
  len : bs.length = (l.length + 7) / 8
  rng : ∀ b ∈ bs, 0 ≤ b ∧ b < 256
  bit : ∀ i, lbit bs i = l.getD i false

theorem Packs.nil : Packs [] [] := ⟨rfl, (fun b h => nomatch h), (fun i => by simp [lbit, rd])⟩

theorem getD_append (l m : List Bool) (i : Nat) : (l ++ m).getD i false = if i < l.length then l.getD i false else m.getD (i - l.length) false := by
  simp only [List.getD_eq_getElem?_getD, List.getElem?_append]
  split <;> rfl
theorem getD_high {l : List Bool} {i : Nat} (h : l.length ≤ i) : l.getD i false = false := by
  simp [List.getD_eq_getElem?_getD, List.getElem?_eq_none h]

theorem rd_snoc0 (bs : List Int) (i : Int) : rd (bs ++ [0]) i = rd bs i := by
  unfold rd
  simp only [List.getD_eq_getElem?_getD, List.getElem?_append]
  split
  · rfl
  · rw [List.getElem?_eq_none (l := bs) (by omega)]
    by_cases h : i.toNat - bs.length = 0
    · rw [h]; rfl
    · rw [List.getElem?_eq_none (by simp; omega)]
theorem lbit_snoc0 (bs : List Int) (i : Nat) : lbit (bs ++ [0]) i = lbit bs i := by unfold lbit; rw [rd_snoc0]
theorem rd_high (bs : List Int) (q : Nat) (h : bs.length ≤ q) : rd bs (q : Int) = 0 := by
  simp [rd, List.getD_eq_getElem?_getD, List.getElem?_eq_none h]
theorem rd_set (bs : List Int) (q i : Nat) (x : Int) (hq : q < bs.length) : rd (bs.set q x) (i : Int) = if i = q then x else rd bs (i : Int) := by
  simp only [rd, List.getD_eq_getElem?_getD, Int.toNat_natCast, List.getElem?_set]
  by_cases h : q = i
  · subst h; simp [hq]
  · rw [if_neg h, if_neg (Ne.symm h)]
theorem rd_mem {bs : List Int} {P : Int → Prop} (h : ∀ b ∈ bs, P b) (h0 : P 0) (i : Int) : P (rd bs i) := by
  unfold rd
  rw [List.getD_eq_getElem?_getD]
  cases hb : bs[i.toNat]? with
  | none => exact h0
  | some b => exact h b (List.mem_of_getElem? hb)

/-- The bytes, and one more if the last one is full. -/
def room (bs : List Int) (n : Nat) : List Int := if n % 8 = 0 then bs ++ [0] else bs
theorem room_len {bs : List Int} {l : List Bool} (h : Packs bs l) : (room bs l.length).length = l.length / 8 + 1 := by
  have hl := h.len
  unfold room
  split
  · rw [List.length_append, List.length_singleton, hl]; omega
  · rw [hl]; omega
theorem room_bit {bs : List Int} {l : List Bool} (h : Packs bs l) (i : Nat) : lbit (room bs l.length) i = l.getD i false := by
  unfold room
  split
  · rw [lbit_snoc0]; exact h.bit i
  · exact h.bit i
theorem room_rng {bs : List Int} {l : List Bool} (h : Packs bs l) : ∀ b ∈ room bs l.length, 0 ≤ b ∧ b < 256 := by
  unfold room
  split
  · intro b hb
    rcases List.mem_append.1 hb with hb | hb
    · exact h.rng b hb
    · rw [List.mem_singleton.1 hb]; omega
  · exact h.rng

theorem packs_step {bs : List Int} {l : List Bool} (h : Packs bs l) (u st : Nat) (h0 : 0 < st) (hst : st ≤ 8 - l.length % 8) (hu : st = 8 - l.length % 8 ∨ u < 2 ^ st) :
    Packs ((room bs l.length).set (l.length / 8) (((rd (room bs l.length) ((l.length / 8 : Nat) : Int)).toNat ||| (u * 2 ^ (l.length % 8) % 256) : Nat) : Int)) (l ++ bitsOf u st) := by
  have hL := room_len h
  have hB := room_bit h
  have hR := room_rng h
  generalize room bs l.length = b' at hL hB hR
  have hold : ∃ o : Nat, rd b' ((l.length / 8 : Nat) : Int) = (o : Int) ∧ o < 2 ^ 8 := by
    have := rd_mem (P := fun b => 0 ≤ b ∧ b < 256) hR ⟨by omega, by omega⟩ ((l.length / 8 : Nat) : Int)
    exact ⟨(rd b' ((l.length / 8 : Nat) : Int)).toNat, by omega, by omega⟩
  obtain ⟨o, ho, ho8⟩ := hold
  have hnew : (o ||| u * 2 ^ (l.length % 8) % 256) < 2 ^ 8 := Nat.or_lt_two_pow ho8 (Nat.mod_lt _ (by decide))
  refine ⟨?_, ?_, fun i => ?_⟩
  · rw [List.length_set, hL, List.length_append, bitsOf_length]; omega
  · intro b hb
    rcases List.mem_or_eq_of_mem_set hb with hb | rfl
    · exact hR b hb
    · rw [ho]; simp only [Int.toNat_natCast]; omega
  · have hqlt : l.length / 8 < b'.length := by omega
    have hi8 := hB i
    unfold lbit at hi8 ⊢
    rw [rd_set _ _ _ _ hqlt, getD_append]
    by_cases hq : i / 8 = l.length / 8
    · rw [if_pos hq]
      rw [hq, ho] at hi8
      rw [ho]
      simp only [Int.toNat_natCast] at hi8 ⊢
      rw [Nat.testBit_or, hi8, show (256 : Nat) = 2 ^ 8 from rfl, Nat.testBit_mod_two_pow, ← Nat.shiftLeft_eq, Nat.testBit_shiftLeft]
      have hi : i % 8 < 8 := Nat.mod_lt _ (by decide)
      by_cases hlt : i < l.length
      · have : ¬ l.length % 8 ≤ i % 8 := by omega
        simp [hlt, this]
      · have h1 : l.length % 8 ≤ i % 8 := by omega
        have h2 : i - l.length = i % 8 - l.length % 8 := by omega
        rw [getD_high (by omega), if_neg hlt, getD_bitsOf, h2]
        simp only [hi, h1, decide_true, Bool.true_and, Bool.false_or]
        by_cases h3 : i % 8 - l.length % 8 < st
        · simp [h3]
        · rcases hu with hu | hu
          · omega
          · rw [testBit_high hu (by omega)]; simp
    · rw [if_neg hq, hi8]
      by_cases hlt : i < l.length
      · rw [if_pos hlt]
      · rw [if_neg hlt, getD_high (by omega), getD_bitsOf]
        have : ¬ i - l.length < st := by omega
        simp [this]

theorem packs_unique {bs bs' : List Int} {l : List Bool} (h : Packs bs l) (h' : Packs bs' l) : bs = bs' := by
  have hl : bs.length = bs'.length := by rw [h.len, h'.len]
  refine List.ext_getElem hl fun i hi hi' => ?_
  have r1 := h.rng _ (List.getElem_mem hi)
  have r2 := h'.rng _ (List.getElem_mem hi')
  have e1 : rd bs (i : Int) = bs[i] := by simp [rd, List.getD_eq_getElem?_getD, hi]
  have e2 : rd bs' (i : Int) = bs'[i] := by simp [rd, List.getD_eq_getElem?_getD, hi']
  have : (bs[i]).toNat = (bs'[i]).toNat := by
    refine Nat.eq_of_testBit_eq fun j => ?_
    by_cases hj : j < 8
    · have b1 := h.bit (8 * i + j)
      have b2 := h'.bit (8 * i + j)
      unfold lbit at b1 b2
      rw [show (8 * i + j) / 8 = i from by omega, show (8 * i + j) % 8 = j from by omega] at b1 b2
      rw [e1] at b1
      rw [e2] at b2
      rw [b1, b2]
    · rw [testBit_high (n := 8) (by omega) (by omega), testBit_high (n := 8) (by omega) (by omega)]
  omega

def pad (n : Nat) : Nat := (8 - n % 8) % 8
theorem packs_align {bs : List Int} {l : List Bool} (h : Packs bs l) : Packs bs (l ++ List.replicate (pad l.length) false) := by
  refine ⟨?_, h.rng, fun i => ?_⟩
  · rw [h.len, List.length_append, List.length_replicate]; unfold pad; omega
  · rw [h.bit i, getD_append]
    split
    · rfl
    · rw [getD_high (by omega)]
      simp only [List.getD_eq_getElem?_getD, List.getElem?_replicate]
      split <;> rfl
theorem pad_len (n : Nat) : n + pad n = 8 * ((n + 7) / 8) := by unfold pad; omega

def bitsS (s : ByteArray) : List Bool := (List.range (8 * s.size)).map fun i => sbit s i
theorem bitsS_length (s : ByteArray) : (bitsS s).length = 8 * s.size := by simp [bitsS]
theorem bt_high (s : ByteArray) (i : Nat) (h : s.size ≤ i) : bt s (i : Int) = 0 := by
  unfold bt
  rw [dif_neg (by simp; omega)]
theorem getD_bitsS (s : ByteArray) (i : Nat) : (bitsS s).getD i false = sbit s i := by
  by_cases h : i < 8 * s.size
  · simp [bitsS, List.getD_eq_getElem?_getD, h]
  · rw [getD_high (by rw [bitsS_length]; omega)]
    unfold sbit
    rw [bt_high s _ (by omega)]
    simp
theorem rd_append (bs ys : List Int) (i : Nat) : rd (bs ++ ys) (i : Int) = if i < bs.length then rd bs (i : Int) else rd ys ((i - bs.length : Nat) : Int) := by
  simp only [rd, List.getD_eq_getElem?_getD, Int.toNat_natCast, List.getElem?_append]
  split <;> rfl
theorem bytesOf_rng (s : ByteArray) : ∀ b ∈ bytesOf s, 0 ≤ b ∧ b < 256 := by
  intro b hb
  obtain ⟨c, _, rfl⟩ := List.mem_map.1 hb
  have := c.toNat_lt
  omega
theorem packs_bytes {bs : List Int} {l : List Bool} (h : Packs bs l) (hl : l.length % 8 = 0) (s : ByteArray) : Packs (bs ++ bytesOf s) (l ++ bitsS s) := by
  have hbl := h.len
  refine ⟨?_, ?_, fun i => ?_⟩
  · rw [List.length_append, bytesOf_length, List.length_append, bitsS_length, hbl]; omega
  · intro b hb
    rcases List.mem_append.1 hb with hb | hb
    · exact h.rng b hb
    · exact bytesOf_rng s b hb
  · rw [getD_append]
    unfold lbit
    rw [rd_append]
    have hi := h.bit i
    unfold lbit at hi
    by_cases hlt : i < l.length
    · rw [if_pos hlt, if_pos (by omega), hi]
    · rw [if_neg hlt, if_neg (by omega), getD_bitsS, rd_bytesOf]
      unfold sbit
      rw [show i / 8 - bs.length = (i - l.length) / 8 from by omega, show i % 8 = (i - l.length) % 8 from by omega]
/-- The string that a writer tells. -/
def STold (s : ByteArray) (l : List Bool) : Prop := s.size = (l.length + 7) / 8 ∧ ∀ i, sbit s i = l.getD i false
theorem told_of_packs {s : ByteArray} {l : List Bool} (h : Packs (bytesOf s) l) : STold s l :=
  ⟨by rw [← bytesOf_length]; exact h.len, fun i => by rw [← h.bit i]; unfold sbit lbit; rw [rd_bytesOf]⟩
theorem packs_of_told {s : ByteArray} {l : List Bool} (h : STold s l) : Packs (bytesOf s) l :=
  ⟨by rw [bytesOf_length]; exact h.1, bytesOf_rng s, fun i => by rw [← h.2 i]; unfold sbit lbit; rw [rd_bytesOf]⟩
theorem bytesOf_inj {s t : ByteArray} (h : bytesOf s = bytesOf t) : s = t := by
  have h1 : s.data.toList = t.data.toList := by
    unfold bytesOf at h
    refine List.map_inj_right (f := fun b : UInt8 => (b.toNat : Int)) (fun a b hab => ?_) |>.1 h
    have : a.toNat = b.toNat := by omega
    exact UInt8.toNat_inj.1 this
  exact ByteArray.ext (Array.toList_inj.1 h1)
theorem told_unique {s t : ByteArray} {l : List Bool} (h : STold s l) (h' : STold t l) : s = t :=
  bytesOf_inj (packs_unique (packs_of_told h) (packs_of_told h'))
theorem told_strOfNums {bs : List Int} {l : List Bool} (h : Packs bs l) : STold (strOfNums bs) l := by
  have hb : bytesOf (strOfNums bs) = bs := by
    unfold bytesOf strOfNums
    simp only [List.map_map]
    conv => rhs; rw [← List.map_id bs]
    refine List.map_congr_left fun b hb => ?_
    have := h.rng b hb
    simp only [Function.comp_apply, UInt8.toNat_ofNat', id_eq]
    omega
  exact told_of_packs (by rw [hb]; exact h)
end Go.Proofs.Ytmmoenleldcadaa.MB
