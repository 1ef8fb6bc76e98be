/- Plain facts on bits of bytes: what a reader's and a writer's loops come to. Codes by lengths, plain: how many words of each length, what is left, the first words, the words. Frames: what a call may have turned; a writer's block. A whole block is written, read. An array of sixteen numbers, as a block. A table's symbols by their words; what Symbol tells: plain. -/
import Derived.Test.YtmmoenleldcadaaWMore
import Derived.Laws.BitsLemmas
import Derived.Test.YtmmoenleldcadaaFnx0
import Derived.Lib.AppendStr
namespace Go.Proofs.Ytmmoenleldcadaa.MB
open Go.RowKit Go.Proofs.YtmmoenleldcadaaW.PrintWords Go.Proofs.YtmmoenleldcadaaW.PrintMore

theorem wrap_u64 (n : Int) : IntKind.u64.wrap n = n % 18446744073709551616 := by simp [IntKind.wrap, IntKind.bits, IntKind.signed]
theorem wraps_u64 (n : Int) (h₀ : 0 ≤ n) (h₁ : n < 2 ^ 64) : IntKind.u64.wrap n = n := by rw [wrap_u64]; omega
theorem wraps_i64 (n : Int) (h₀ : 0 ≤ n) (h₁ : n < 2 ^ 63) : IntKind.i64.wrap n = n := by rw [IntKind.wrap_i64]; omega
theorem or_u64 (a b : Nat) (ha : a < 2 ^ 64) (hb : b < 2 ^ 64) : Go.bits .or .u64 (a : Int) (b : Int) = ((a ||| b : Nat) : Int) :=
  (bits_nat .u64 64 (by decide) wraps_u64 a b ha hb).2
theorem and_u64 (a b : Nat) (ha : a < 2 ^ 64) (hb : b < 2 ^ 64) : Go.bits .and .u64 (a : Int) (b : Int) = ((a &&& b : Nat) : Int) :=
  (bits_nat .u64 64 (by decide) wraps_u64 a b ha hb).1
theorem or_u8 (a b : Nat) (ha : a < 2 ^ 8) (hb : b < 2 ^ 8) : Go.bits .or .u8 (a : Int) (b : Int) = ((a ||| b : Nat) : Int) :=
  (bits_nat .u8 8 (by decide) wraps_u8 a b ha hb).2
theorem and_i64 (a b : Nat) (ha : a < 2 ^ 63) (hb : b < 2 ^ 63) : Go.bits .and .i64 (a : Int) (b : Int) = ((a &&& b : Nat) : Int) :=
  (bits_nat .i64 63 (by decide) wraps_i64 a b ha hb).1
theorem wrap64_id (n : Int) (h : -9223372036854775808 ≤ n) (h' : n ≤ 9223372036854775807) : wrap64 n = n := by unfold wrap64; omega
theorem cast_lt_two_pow {a n : Nat} (h : a < 2 ^ n) : (a : Int) < 2 ^ n := by exact_mod_cast h

/-- The bits of a function, as a number. -/
def nb (f : Nat → Bool) (a : Nat) : Nat → Nat
  | 0 => 0
  | n + 1 => nb f a n + (if f (a + n) then 2 ^ n else 0)

theorem nb_lt (f : Nat → Bool) (a : Nat) : ∀ n, nb f a n < 2 ^ n
  | 0 => by simp [nb]
  | n + 1 => by
    have h := nb_lt f a n
    have h2 : 2 ^ (n + 1) = 2 ^ n + 2 ^ n := by rw [Nat.pow_succ]; omega
    unfold nb
    split <;> omega

theorem testBit_nb (f : Nat → Bool) (a : Nat) : ∀ n i, (nb f a n).testBit i = (decide (i < n) && f (a + i))
  | 0, i => by simp [nb]
  | n + 1, i => by
    have h := nb_lt f a n
    have ih := testBit_nb f a n i
    unfold nb
    by_cases hf : f (a + n) = true
    · rw [if_pos hf, Nat.add_comm (nb f a n)]
      by_cases hi : i < n
      · rw [Nat.testBit_two_pow_add_gt hi, ih]; simp [hi, Nat.lt_succ_of_lt hi]
      · by_cases he : i = n
        · subst he; rw [Nat.testBit_two_pow_add_eq, Nat.testBit_lt_two_pow h]; simp [hf]
        · have h1 : ¬ i < n + 1 := by omega
          have h2 : 2 ^ (n + 1) ≤ 2 ^ i := Nat.pow_le_pow_right (by decide) (by omega)
          have h3 : 2 ^ (n + 1) = 2 ^ n + 2 ^ n := by rw [Nat.pow_succ]; omega
          rw [Nat.testBit_lt_two_pow (by omega)]; simp [h1]
    · rw [if_neg hf, Nat.add_zero, ih]
      by_cases hi : i < n
      · simp [hi, Nat.lt_succ_of_lt hi]
      · by_cases he : i = n
        · subst he; simp [hf]
        · have : ¬ i < n + 1 := by omega
          simp [hi, this]

theorem testBit_high {x n i : Nat} (h : x < 2 ^ n) (hi : n ≤ i) : x.testBit i = false :=
  Nat.testBit_lt_two_pow (Nat.lt_of_lt_of_le h (Nat.pow_le_pow_right (by decide) hi))

theorem nb_unique {f : Nat → Bool} {a n x : Nat} (hx : x < 2 ^ n) (h : ∀ i, i < n → x.testBit i = f (a + i)) : x = nb f a n := by
  refine Nat.eq_of_testBit_eq fun i => ?_
  rw [testBit_nb]
  by_cases hi : i < n
  · simp [hi, h i hi]
  · rw [testBit_high hx (by omega)]; simp [hi]

theorem nb_congr {f g : Nat → Bool} {a b n : Nat} (h : ∀ i, i < n → f (a + i) = g (b + i)) : nb f a n = nb g b n :=
  nb_unique (nb_lt _ _ _) fun i hi => by rw [testBit_nb]; simp [hi, h i hi]

/-- Bit i of bytes. -/
def sbit (s : ByteArray) (i : Nat) : Bool := (bt s ((i / 8 : Nat) : Int)).toNat.testBit (i % 8)
def lbit (l : List Int) (i : Nat) : Bool := (rd l ((i / 8 : Nat) : Int)).toNat.testBit (i % 8)

theorem bt_nat (s : ByteArray) (i : Int) : ∃ b : Nat, bt s i = (b : Int) ∧ b < 256 := by
  have h := bt_range s i
  exact ⟨(bt s i).toNat, by omega, by omega⟩

theorem tdiv_cast (a : Nat) : Int.tdiv (a : Int) 8 = ((a / 8 : Nat) : Int) := by
  rw [Int.tdiv_eq_ediv_of_nonneg (by omega)]; omega
theorem tmod_cast (a : Nat) : Int.tmod (a : Int) 8 = ((a % 8 : Nat) : Int) := by
  rw [Int.tmod_eq_emod_of_nonneg (by omega)]; omega

theorem shr_u8 (b r : Nat) (hr : r ≤ 8) : shr .u8 (b : Int) (r : Int) = ((b / 2 ^ r : Nat) : Int) := by
  unfold shr
  rw [show min ((r : Int)).toNat IntKind.u8.bits = r from by simp [IntKind.bits]; omega]
  simp
theorem shl_u64 (b r : Nat) (hr : r ≤ 64) (h : b * 2 ^ r < 2 ^ 64) : shl .u64 (b : Int) (r : Int) = ((b * 2 ^ r : Nat) : Int) := by
  unfold shl
  rw [show min ((r : Int)).toNat IntKind.u64.bits = r from by simp [IntKind.bits]; omega]
  have e : ((b : Int) * 2 ^ r) = ((b * 2 ^ r : Nat) : Int) := by simp
  rw [e]
  exact wraps_u64 _ (by omega) (cast_lt_two_pow h)
theorem mn_cast (a b : Nat) : mn (a : Int) (b : Int) = ((min a b : Nat) : Int) := by unfold mn; split <;> omega

/-- One step of reading: what the accumulator's bits are behind it. -/
theorem step_bits {f : Nat → Bool} {x b a got r st : Nat} (hx : x < 2 ^ got) (hbit : ∀ i, i < got → x.testBit i = f (a + i))
    (hb : ∀ j, j < st → b.testBit (r + j) = f (a + got + j)) : ∀ i, i < got + st → (x ||| (b / 2 ^ r * 2 ^ got)).testBit i = f (a + i) := by
  intro i hi
  rw [← Nat.shiftRight_eq_div_pow, ← Nat.shiftLeft_eq, Nat.testBit_or, Nat.testBit_shiftLeft, Nat.testBit_shiftRight]
  by_cases h : i < got
  · have : ¬ got ≤ i := by omega
    simp [this, hbit i h]
  · have h1 : got ≤ i := by omega
    rw [testBit_high hx h1]
    have := hb (i - got) (by omega)
    simp only [h1, decide_true, Bool.true_and, Bool.false_or]
    rw [this]
    congr 1
    omega
theorem div_pow_lt {b r : Nat} (hb : b < 2 ^ 8) (hr : r ≤ 8) : b / 2 ^ r < 2 ^ (8 - r) := by
  rw [Nat.div_lt_iff_lt_mul (Nat.two_pow_pos r), ← Nat.pow_add]
  rwa [show 8 - r + r = 8 from by omega]
theorem step_lt {x b got r : Nat} (hx : x < 2 ^ got) (hb : b < 2 ^ 8) (hr : r ≤ 8) : x ||| (b / 2 ^ r * 2 ^ got) < 2 ^ (got + (8 - r)) := by
  refine Nat.or_lt_two_pow (Nat.lt_of_lt_of_le hx (Nat.pow_le_pow_right (by decide) (by omega))) ?_
  have h := div_pow_lt hb hr
  have h2 := Nat.mul_lt_mul_of_pos_right h (Nat.two_pow_pos got)
  rwa [← Nat.pow_add, Nat.add_comm (8 - r)] at h2


/-! ### What a writer holds -/
def bitsOf (x n : Nat) : List Bool := (List.range n).map fun i => x.testBit i
theorem bitsOf_length (x n : Nat) : (bitsOf x n).length = n := by simp [bitsOf]
theorem getD_bitsOf (x n i : Nat) : (bitsOf x n).getD i false = (decide (i < n) && x.testBit i) := by
  by_cases h : i < n
  · simp [bitsOf, List.getD_eq_getElem?_getD, h]
  · simp [bitsOf, List.getD_eq_getElem?_getD, h]
theorem bitsOf_add (x j st : Nat) : bitsOf x (j + st) = bitsOf x j ++ bitsOf (x / 2 ^ j) st := by
  unfold bitsOf
  rw [List.range_add, List.map_append, List.map_map]
  congr 1
  refine List.map_congr_left fun i _ => ?_
  simp [← Nat.shiftRight_eq_div_pow, Nat.testBit_shiftRight]

structure Packs (bs : List Int) (l : List Bool) : Prop where
  len : bs.length = (l.length + 7) / 8
  rng : ∀ b ∈ bs, 0 ≤ b ∧ b < 256
  bit : ∀ i, lbit bs i = l.getD i false

theorem Packs.nil : Packs [] [] := ⟨rfl, (fun b h => nomatch h), (fun i => by simp [lbit, rd])⟩

theorem getD_append (l m : List Bool) (i : Nat) : (l ++ m).getD i false = if i < l.length then l.getD i false else m.getD (i - l.length) false := by
  simp only [List.getD_eq_getElem?_getD, List.getElem?_append]
  split <;> rfl
theorem getD_high {l : List Bool} {i : Nat} (h : l.length ≤ i) : l.getD i false = false := by
  simp [List.getD_eq_getElem?_getD, List.getElem?_eq_none h]

theorem rd_snoc0 (bs : List Int) (i : Int) : rd (bs ++ [0]) i = rd bs i := by
  unfold rd
  simp only [List.getD_eq_getElem?_getD, List.getElem?_append]
  split
  · rfl
  · rw [List.getElem?_eq_none (l := bs) (by omega)]
    by_cases h : i.toNat - bs.length = 0
    · rw [h]; rfl
    · rw [List.getElem?_eq_none (by simp; omega)]
theorem lbit_snoc0 (bs : List Int) (i : Nat) : lbit (bs ++ [0]) i = lbit bs i := by unfold lbit; rw [rd_snoc0]
theorem rd_high (bs : List Int) (q : Nat) (h : bs.length ≤ q) : rd bs (q : Int) = 0 := by
  simp [rd, List.getD_eq_getElem?_getD, List.getElem?_eq_none h]
theorem rd_set (bs : List Int) (q i : Nat) (x : Int) (hq : q < bs.length) : rd (bs.set q x) (i : Int) = if i = q then x else rd bs (i : Int) := by
  simp only [rd, List.getD_eq_getElem?_getD, Int.toNat_natCast, List.getElem?_set]
  by_cases h : q = i
  · subst h; simp [hq]
  · rw [if_neg h, if_neg (Ne.symm h)]
theorem rd_mem {bs : List Int} {P : Int → Prop} (h : ∀ b ∈ bs, P b) (h0 : P 0) (i : Int) : P (rd bs i) := by
  unfold rd
  rw [List.getD_eq_getElem?_getD]
  cases hb : bs[i.toNat]? with
  | none => exact h0
  | some b => exact h b (List.mem_of_getElem? hb)

/-- The bytes, and one more if the last one is full. -/
def room (bs : List Int) (n : Nat) : List Int := if n % 8 = 0 then bs ++ [0] else bs
theorem room_len {bs : List Int} {l : List Bool} (h : Packs bs l) : (room bs l.length).length = l.length / 8 + 1 := by
  have hl := h.len
  unfold room
  split
  · rw [List.length_append, List.length_singleton, hl]; omega
  · rw [hl]; omega
theorem room_bit {bs : List Int} {l : List Bool} (h : Packs bs l) (i : Nat) : lbit (room bs l.length) i = l.getD i false := by
  unfold room
  split
  · rw [lbit_snoc0]; exact h.bit i
  · exact h.bit i
theorem room_rng {bs : List Int} {l : List Bool} (h : Packs bs l) : ∀ b ∈ room bs l.length, 0 ≤ b ∧ b < 256 := by
  unfold room
  split
  · intro b hb
    rcases List.mem_append.1 hb with hb | hb
    · exact h.rng b hb
    · rw [List.mem_singleton.1 hb]; omega
  · exact h.rng

theorem packs_step {bs : List Int} {l : List Bool} (h : Packs bs l) (u st : Nat) (h0 : 0 < st) (hst : st ≤ 8 - l.length % 8) (hu : st = 8 - l.length % 8 ∨ u < 2 ^ st) :
    Packs ((room bs l.length).set (l.length / 8) (((rd (room bs l.length) ((l.length / 8 : Nat) : Int)).toNat ||| (u * 2 ^ (l.length % 8) % 256) : Nat) : Int)) (l ++ bitsOf u st) := by
  have hL := room_len h
  have hB := room_bit h
  have hR := room_rng h
  generalize room bs l.length = b' at hL hB hR
  have hold : ∃ o : Nat, rd b' ((l.length / 8 : Nat) : Int) = (o : Int) ∧ o < 2 ^ 8 := by
    have := rd_mem (P := fun b => 0 ≤ b ∧ b < 256) hR ⟨by omega, by omega⟩ ((l.length / 8 : Nat) : Int)
    exact ⟨(rd b' ((l.length / 8 : Nat) : Int)).toNat, by omega, by omega⟩
  obtain ⟨o, ho, ho8⟩ := hold
  have hnew : (o ||| u * 2 ^ (l.length % 8) % 256) < 2 ^ 8 := Nat.or_lt_two_pow ho8 (Nat.mod_lt _ (by decide))
  refine ⟨?_, ?_, fun i => ?_⟩
  · rw [List.length_set, hL, List.length_append, bitsOf_length]; omega
  · intro b hb
    rcases List.mem_or_eq_of_mem_set hb with hb | rfl
    · exact hR b hb
    · rw [ho]; simp only [Int.toNat_natCast]; omega
  · have hqlt : l.length / 8 < b'.length := by omega
    have hi8 := hB i
    unfold lbit at hi8 ⊢
    rw [rd_set _ _ _ _ hqlt, getD_append]
    by_cases hq : i / 8 = l.length / 8
    · rw [if_pos hq]
      rw [hq, ho] at hi8
      rw [ho]
      simp only [Int.toNat_natCast] at hi8 ⊢
      rw [Nat.testBit_or, hi8, show (256 : Nat) = 2 ^ 8 from rfl, Nat.testBit_mod_two_pow, ← Nat.shiftLeft_eq, Nat.testBit_shiftLeft]
      have hi : i % 8 < 8 := Nat.mod_lt _ (by decide)
      by_cases hlt : i < l.length
      · have : ¬ l.length % 8 ≤ i % 8 := by omega
        simp [hlt, this]
      · have h1 : l.length % 8 ≤ i % 8 := by omega
        have h2 : i - l.length = i % 8 - l.length % 8 := by omega
        rw [getD_high (by omega), if_neg hlt, getD_bitsOf, h2]
        simp only [hi, h1, decide_true, Bool.true_and, Bool.false_or]
        by_cases h3 : i % 8 - l.length % 8 < st
        · simp [h3]
        · rcases hu with hu | hu
          · omega
          · rw [testBit_high hu (by omega)]; simp
    · rw [if_neg hq, hi8]
      by_cases hlt : i < l.length
      · rw [if_pos hlt]
      · rw [if_neg hlt, getD_high (by omega), getD_bitsOf]
        have : ¬ i - l.length < st := by omega
        simp [this]

theorem packs_unique {bs bs' : List Int} {l : List Bool} (h : Packs bs l) (h' : Packs bs' l) : bs = bs' := by
  have hl : bs.length = bs'.length := by rw [h.len, h'.len]
  refine List.ext_getElem hl fun i hi hi' => ?_
  have r1 := h.rng _ (List.getElem_mem hi)
  have r2 := h'.rng _ (List.getElem_mem hi')
  have e1 : rd bs (i : Int) = bs[i] := by simp [rd, List.getD_eq_getElem?_getD, hi]
  have e2 : rd bs' (i : Int) = bs'[i] := by simp [rd, List.getD_eq_getElem?_getD, hi']
  have : (bs[i]).toNat = (bs'[i]).toNat := by
    refine Nat.eq_of_testBit_eq fun j => ?_
    by_cases hj : j < 8
    · have b1 := h.bit (8 * i + j)
      have b2 := h'.bit (8 * i + j)
      unfold lbit at b1 b2
      rw [show (8 * i + j) / 8 = i from by omega, show (8 * i + j) % 8 = j from by omega] at b1 b2
      rw [e1] at b1
      rw [e2] at b2
      rw [b1, b2]
    · rw [testBit_high (n := 8) (by omega) (by omega), testBit_high (n := 8) (by omega) (by omega)]
  omega

def pad (n : Nat) : Nat := (8 - n % 8) % 8
theorem packs_align {bs : List Int} {l : List Bool} (h : Packs bs l) : Packs bs (l ++ List.replicate (pad l.length) false) := by
  refine ⟨?_, h.rng, fun i => ?_⟩
  · rw [h.len, List.length_append, List.length_replicate]; unfold pad; omega
  · rw [h.bit i, getD_append]
    split
    · rfl
    · rw [getD_high (by omega)]
      simp only [List.getD_eq_getElem?_getD, List.getElem?_replicate]
      split <;> rfl
theorem pad_len (n : Nat) : n + pad n = 8 * ((n + 7) / 8) := by unfold pad; omega

def bitsS (s : ByteArray) : List Bool := (List.range (8 * s.size)).map fun i => sbit s i
theorem bitsS_length (s : ByteArray) : (bitsS s).length = 8 * s.size := by simp [bitsS]
theorem bt_high (s : ByteArray) (i : Nat) (h : s.size ≤ i) : bt s (i : Int) = 0 := by
  unfold bt
  rw [dif_neg (by simp; omega)]
theorem getD_bitsS (s : ByteArray) (i : Nat) : (bitsS s).getD i false = sbit s i := by
  by_cases h : i < 8 * s.size
  · simp [bitsS, List.getD_eq_getElem?_getD, h]
  · rw [getD_high (by rw [bitsS_length]; omega)]
    unfold sbit
    rw [bt_high s _ (by omega)]
    simp
theorem rd_append (bs ys : List Int) (i : Nat) : rd (bs ++ ys) (i : Int) = if i < bs.length then rd bs (i : Int) else rd ys ((i - bs.length : Nat) : Int) := by
  simp only [rd, List.getD_eq_getElem?_getD, Int.toNat_natCast, List.getElem?_append]
  split <;> rfl
theorem bytesOf_rng (s : ByteArray) : ∀ b ∈ bytesOf s, 0 ≤ b ∧ b < 256 := by
  intro b hb
  obtain ⟨c, _, rfl⟩ := List.mem_map.1 hb
  have := c.toNat_lt
  omega
theorem packs_bytes {bs : List Int} {l : List Bool} (h : Packs bs l) (hl : l.length % 8 = 0) (s : ByteArray) : Packs (bs ++ bytesOf s) (l ++ bitsS s) := by
  have hbl := h.len
  refine ⟨?_, ?_, fun i => ?_⟩
  · rw [List.length_append, bytesOf_length, List.length_append, bitsS_length, hbl]; omega
  · intro b hb
    rcases List.mem_append.1 hb with hb | hb
    · exact h.rng b hb
    · exact bytesOf_rng s b hb
  · rw [getD_append]
    unfold lbit
    rw [rd_append]
    have hi := h.bit i
    unfold lbit at hi
    by_cases hlt : i < l.length
    · rw [if_pos hlt, if_pos (by omega), hi]
    · rw [if_neg hlt, if_neg (by omega), getD_bitsS, rd_bytesOf]
      unfold sbit
      rw [show i / 8 - bs.length = (i - l.length) / 8 from by omega, show i % 8 = (i - l.length) % 8 from by omega]
/-- The string that a writer tells. -/
def STold (s : ByteArray) (l : List Bool) : Prop := s.size = (l.length + 7) / 8 ∧ ∀ i, sbit s i = l.getD i false
theorem told_of_packs {s : ByteArray} {l : List Bool} (h : Packs (bytesOf s) l) : STold s l :=
  ⟨by rw [← bytesOf_length]; exact h.len, fun i => by rw [← h.bit i]; unfold sbit lbit; rw [rd_bytesOf]⟩
theorem packs_of_told {s : ByteArray} {l : List Bool} (h : STold s l) : Packs (bytesOf s) l :=
  ⟨by rw [bytesOf_length]; exact h.1, bytesOf_rng s, fun i => by rw [← h.2 i]; unfold sbit lbit; rw [rd_bytesOf]⟩
theorem bytesOf_inj {s t : ByteArray} (h : bytesOf s = bytesOf t) : s = t := by
  have h1 : s.data.toList = t.data.toList := by
    unfold bytesOf at h
    refine List.map_inj_right (f := fun b : UInt8 => (b.toNat : Int)) (fun a b hab => ?_) |>.1 h
    have : a.toNat = b.toNat := by omega
    exact UInt8.toNat_inj.1 this
  exact ByteArray.ext (Array.toList_inj.1 h1)
theorem told_unique {s t : ByteArray} {l : List Bool} (h : STold s l) (h' : STold t l) : s = t :=
  bytesOf_inj (packs_unique (packs_of_told h) (packs_of_told h'))
theorem told_strOfNums {bs : List Int} {l : List Bool} (h : Packs bs l) : STold (strOfNums bs) l := by
  have hb : bytesOf (strOfNums bs) = bs := by
    unfold bytesOf strOfNums
    simp only [List.map_map]
    conv => rhs; rw [← List.map_id bs]
    refine List.map_congr_left fun b hb => ?_
    have := h.rng b hb
    simp only [Function.comp_apply, UInt8.toNat_ofNat', id_eq]
    omega
  exact told_of_packs (by rw [hb]; exact h)
end Go.Proofs.Ytmmoenleldcadaa.MB
namespace Go.Proofs.Ytmmoenleldcadaa.HF
/-- How many are l. -/
def cntL (lens : List Int) (l : Int) : Int := ((lens.filter (fun x => decide (x = l))).length : Int)
theorem cntL_nil (l : Int) : cntL [] l = 0 := rfl
theorem cntL_app (a b : List Int) (l : Int) : cntL (a ++ b) l = cntL a l + cntL b l := by unfold cntL; rw [List.filter_append, List.length_append]; omega
theorem cntL_snoc (a : List Int) (x l : Int) : cntL (a ++ [x]) l = cntL a l + (if x = l then 1 else 0) := by
  rw [cntL_app]
  congr 1
  unfold cntL
  by_cases h : x = l
  · simp [h]
  · simp [h]
theorem cntL_cons (x : Int) (a : List Int) (l : Int) : cntL (x :: a) l = (if x = l then 1 else 0) + cntL a l := by
  rw [← List.singleton_append, cntL_app]
  congr 1
  unfold cntL
  by_cases h : x = l
  · simp [h]
  · simp [h]
theorem cntL_nn (a : List Int) (l : Int) : 0 ≤ cntL a l ∧ cntL a l ≤ a.length := by
  unfold cntL
  have := List.length_filter_le (fun x => decide (x = l)) a
  omega
/-- What is left behind the words of the lengths up to l. -/
def rooms (f : Nat → Int) : Nat → Int
  | 0 => 1
  | l + 1 => 2 * rooms f l - f (l + 1)
theorem rooms_neg {f : Nat → Int} (hf : ∀ l, 0 ≤ f l) {i : Nat} (h : rooms f i < 0) : ∀ j, i ≤ j → rooms f j < 0
  | 0, hj => by rw [show 0 = i by omega]; exact h
  | j + 1, hj => by
    by_cases he : i = j + 1
    · rw [← he]; exact h
    · have := rooms_neg hf h j (by omega)
      have h2 := hf (j + 1)
      show 2 * rooms f j - f (j + 1) < 0
      omega
theorem rooms_le {f : Nat → Int} (hf : ∀ l, 0 ≤ f l) : ∀ j, rooms f j ≤ 2 ^ j
  | 0 => by simp [rooms]
  | j + 1 => by
    have := rooms_le hf j
    have h2 := hf (j + 1)
    show 2 * rooms f j - f (j + 1) ≤ 2 ^ (j + 1)
    rw [Int.pow_succ]
    omega
def lenOk (x : Int) : Bool := decide (0 ≤ x ∧ x ≤ 15)
/-- Lengths may be, and are those of a code. -/
def okL (lens : List Int) : Bool := decide (lens.length ≤ 288) && (lens.all lenOk && decide (0 ≤ rooms (fun l => cntL lens l) 15))
/-- The first word of a length. -/
def nxt (f : Nat → Int) : Nat → Int
  | 0 => 0
  | l + 1 => if l = 0 then 0 else 2 * (nxt f l + f l)
/-- The word of symbol i. -/
def codeAt (lens : List Int) (i : Nat) : Int := if 0 < lens.getD i 0 then nxt (fun l => cntL lens l) (lens.getD i 0).toNat + cntL (lens.take i) (lens.getD i 0) else 0
def codesL (lens : List Int) : List Int := (List.range lens.length).map (codeAt lens)
def wholeL (lens : List Int) : Bool := decide (rooms (fun l => cntL lens l) 15 = 0)
theorem nxt_bd {f : Nat → Int} (hf : ∀ l, 0 ≤ f l ∧ f l ≤ 288) : ∀ l, 0 ≤ nxt f l ∧ nxt f l ≤ 576 * (2 ^ l - 1)
  | 0 => by simp [nxt]
  | l + 1 => by
    have h1 := nxt_bd hf l
    have h2 := hf l
    have hp : (0 : Int) < 2 ^ l := Int.pow_pos (by decide)
    unfold nxt
    rw [Int.pow_succ]
    split <;> omega
theorem codesL_len (lens : List Int) : (codesL lens).length = lens.length := by unfold codesL; rw [List.length_map, List.length_range]
end Go.Proofs.Ytmmoenleldcadaa.HF
namespace Go.Proofs.Ytmmoenleldcadaa.HW
open Go.RowKit Go.Proofs.YtmmoenleldcadaaW.PrintWords Go.Proofs.YtmmoenleldcadaaW.PrintLast Go.Proofs.YtmmoenleldcadaaW.PrintMore Go.Proofs.Ytmmoenleldcadaa.MB

/-- From w to w' only blocks of S were written; more may have been made. -/
structure Fr (S : Nat → Prop) (w w' : World) : Prop where
  os : w'.os = w.os
  tape : w'.tape = w.tape
  output : w'.output = w.output
  size : w.heap.size ≤ w'.heap.size
  block : ∀ k, k < w.heap.size → ¬ S k → w'.heap[k]? = w.heap[k]?
section
variable {S S' : Nat → Prop} {w w1 w2 : World}
theorem Fr.refl (S : Nat → Prop) (w : World) : Fr S w w := ⟨rfl, rfl, rfl, Nat.le_refl _, fun _ _ _ => rfl⟩
theorem Fr.mono (h : Fr S w w1) (hs : ∀ k, k < w.heap.size → S k → S' k) : Fr S' w w1 := ⟨h.os, h.tape, h.output, h.size, fun k hk hn => h.block k hk (fun hk' => hn (hs k hk hk'))⟩
theorem Fr.then_ (h : Fr S w w1) (k : Fr S' w1 w2) (hs : ∀ k, S' k → S k ∨ w.heap.size ≤ k) : Fr S w w2 :=
  ⟨k.os.trans h.os, k.tape.trans h.tape, k.output.trans h.output, Nat.le_trans h.size k.size, fun i hi hn =>
    (k.block i (Nat.lt_of_lt_of_le hi h.size) (fun h2 => (hs i h2).elim hn (fun h3 => by omega))).trans (h.block i hi hn)⟩
theorem Fr.of_below {B : Nat} (h : Below B w w1) : Fr (fun k => B ≤ k) w w1 := ⟨h.os, h.tape, h.output, h.size, fun k hk hn => h.block k (by omega)⟩
theorem Fr.of_below_all (h : Below w.heap.size w w1) (S : Nat → Prop) : Fr S w w1 := ⟨h.os, h.tape, h.output, h.size, fun k hk _ => h.block k hk⟩
theorem Fr.below {B : Nat} (h : Fr S w w1) (hB : B ≤ w.heap.size) (hs : ∀ k, S k → B ≤ k) : Below B w w1 := ⟨h.os, h.tape, h.output, h.size, fun k hk => h.block k (by omega) (fun h2 => by have := hs k h2; omega)⟩
theorem Fr.grown {row : Option Nat} (hg : w1.grownBy w2 row) (h : Fr S w w1) (hr : ∀ k, row = some k → S k ∨ w.heap.size ≤ k) : Fr S w w2 :=
  h.then_ (S' := fun k => row = some k) ⟨hg.os, hg.tape, hg.output, hg.size, fun i hi hn => hg.block i hi (fun he => hn he.symm)⟩ hr
theorem Fr.add (h : Fr S w w1) (k : Below w1.heap.size w1 w2) : Fr S w w2 := h.then_ (Fr.of_below_all k (fun _ => False)) (fun _ hk => hk.elim)
theorem Fr.alloc (h : Fr S w w1) (o : Obj) : Fr S w (w1.alloc o) := h.add (below_alloc (Below.refl _ _) o)
theorem Fr.drew (h : Fr S w w1) : Fr S w w1.drew := ⟨h.os, h.tape, h.output, h.size, h.block⟩
theorem Fr.drewN (h : Fr S w w1) (m : Nat) : Fr S w (w1.drewN m) := ⟨h.os, h.tape, h.output, h.size, h.block⟩
theorem Fr.setCell (h : Fr S w w1) {p : Addr} (hp : S p.block ∨ w.heap.size ≤ p.block) (u : Value) : Fr S w (w1.setCell p u) :=
  h.then_ (S' := fun k => k = p.block) ⟨rfl, rfl, rfl, by simp [World.setCell], fun i _ hn => Below.heap_setCell w1 p u i hn⟩ (fun k hk => by rw [hk]; exact hp)
theorem Fr.blk {g : Nat} {o : Obj} (h : Fr S w w1) (hb : w.heap[g]? = some o) (hn : ¬ S g) : w1.heap[g]? = some o := (h.block g (blk_lt hb) hn).trans hb
theorem Fr.own {base : Nat} {e : TypeId} {size n : Nat} {v : Value} {xs : List Value} (h : Fr S w w1) (ho : w.ownsRow base e size v n xs) (hn : ∀ k, v.ownBlock = some k → ¬ S k) : w1.ownsRow base e size v n xs :=
  own_move ho (fun k hk => h.block k (own_lt ho k hk) (hn k hk))
end

/-- The value's row is the old one's, or a new one. -/
def AtB (w : World) (v v' : Value) : Prop := v'.ownBlock = v.ownBlock ∨ ∃ b, v'.ownBlock = some b ∧ w.heap.size ≤ b
theorem AtB.refl (w : World) (v : Value) : AtB w v v := .inl rfl
theorem AtB.trans {w w1 : World} {v v1 v2 : Value} (h : AtB w v v1) (h2 : AtB w1 v1 v2) (hs : w.heap.size ≤ w1.heap.size) : AtB w v v2 := by
  rcases h2 with e | ⟨b, e, hb⟩
  · rcases h with e' | ⟨b, e', hb⟩
    · exact .inl (e.trans e')
    · exact .inr ⟨b, e.trans e', hb⟩
  · exact .inr ⟨b, e, by omega⟩

/-- Block g: a writer, its row's value, how many bits. -/
def WBlk (W : World) (g : Nat) (is : Bool) (v : Value) (n : Int) : Prop := W.heap[g]? = some (.cells #[.bool is, v, .int .i64 n] 81 (0, 0))
theorem WBlk.c0 {W : World} {g : Nat} {is : Bool} {v : Value} {n : Int} (h : WBlk W g is v n) : W.cell? ⟨g, 0, none⟩ = some (.bool is) := (blk_cell h 0).trans rfl
theorem WBlk.c1 {W : World} {g : Nat} {is : Bool} {v : Value} {n : Int} (h : WBlk W g is v n) : W.cell? ⟨g, 1, none⟩ = some v := (blk_cell h 1).trans rfl
theorem WBlk.c2 {W : World} {g : Nat} {is : Bool} {v : Value} {n : Int} (h : WBlk W g is v n) : W.cell? ⟨g, 2, none⟩ = some (.int .i64 n) := (blk_cell h 2).trans rfl
theorem WBlk.fz {W : World} {g : Nat} {is : Bool} {v : Value} {n : Int} (h : WBlk W g is v n) (i : Nat) : W.frozen? ⟨g, i, none⟩ = false := blk_frozen h i
theorem WBlk.set1 {W : World} {g : Nat} {is : Bool} {v : Value} {n : Int} (h : WBlk W g is v n) (u : Value) : WBlk (W.setCell ⟨g, 1, none⟩ u) g is u n := by
  unfold WBlk at h ⊢
  simpa using blk_set h 1 u
theorem WBlk.set2 {W : World} {g : Nat} {is : Bool} {v : Value} {n : Int} (h : WBlk W g is v n) (m : Int) : WBlk (W.setCell ⟨g, 2, none⟩ (.int .i64 m)) g is v m := by
  unfold WBlk at h ⊢
  simpa using blk_set h 2 (.int .i64 m)
theorem WBlk.far {W : World} {g : Nat} {is : Bool} {v : Value} {n : Int} (h : WBlk W g is v n) {p : Addr} (hp : g ≠ p.block) (u : Value) : WBlk (W.setCell p u) g is v n := blk_far h hp u
/-- A writer that holds the bits l. -/
def IsW (W : World) (B g : Nat) (v : Value) (l : List Bool) : Prop :=
  WBlk W g true v l.length ∧ B ≤ g ∧ ∃ bs : List Int, W.ownsRow B 5 1 v bs.length (nums .u8 bs) ∧ Packs bs l
theorem IsW.lt {W : World} {B g : Nat} {v : Value} {l : List Bool} (h : IsW W B g v l) : g < W.heap.size := blk_lt h.1
theorem IsW.row_lt {W : World} {B g : Nat} {v : Value} {l : List Bool} (h : IsW W B g v l) (k : Nat) (hk : v.ownBlock = some k) : B ≤ k ∧ k < W.heap.size := by
  obtain ⟨_, _, bs, ho, _⟩ := h
  exact ⟨own_base ho k hk, own_lt ho k hk⟩
theorem IsW.row_ne {W : World} {B g : Nat} {v : Value} {l : List Bool} (h : IsW W B g v l) : v.ownBlock ≠ some g := by
  obtain ⟨hb, _, bs, ho, _⟩ := h
  exact fun he => own_ne ho hb (by decide) he.symm
theorem IsW.keep {W W1 : World} {S : Nat → Prop} {B g : Nat} {v : Value} {l : List Bool} (h : IsW W B g v l) (hf : Fr S W W1) (hg : ¬ S g) (hr : ∀ k, v.ownBlock = some k → ¬ S k) : IsW W1 B g v l := by
  obtain ⟨hb, h1, bs, ho, hp⟩ := h
  exact ⟨hf.blk hb hg, h1, bs, hf.own ho hr, hp⟩
theorem IsW.below {W W1 : World} {B g : Nat} {v : Value} {l : List Bool} (h : IsW W B g v l) (hf : Below W.heap.size W W1) : IsW W1 B g v l :=
  h.keep (Fr.of_below_all hf (fun _ => False)) (fun h => h) (fun _ _ h => h)
/-- What a writer's call may write. -/
def WS (g : Nat) (v : Value) (k : Nat) : Prop := k = g ∨ v.ownBlock = some k

section
variable {P : Program} {w : World}
/-- append(v, s...), s a string: and where the row lies then. -/
theorem run_append_string_at (base : Nat) (t u ty e : TypeId) (i : TypeInfo) (ht : P.underlying t = some (.slice e)) (hu : P.underlying u = some .string) (hi : P.info? e = some i) (hz : i.zero = some (.int .u8 0))
    (hsize : i.size = 1) (hby : i.bytes = 1) (v : Value) (n : Nat) (xs : List Value) (hown : w.ownsRow base e 1 v n xs) (s : ByteArray)
    (h63 : n + s.size ≤ maxLen) (hbytes : n + s.size ≤ 140737488355328) (hbase : base ≤ w.heap.size) :
    ∃ v' w', (Builtin.append_ #[t, u] ty #[v, .string s]).run P w = .ok v' w' ∧ w'.ownsRow base e 1 v' (n + s.size) (xs ++ Lib.strCells s) ∧ w.grownBy w' v.ownBlock ∧ AtB w v v' := by
  rcases hown.2 with ⟨rfl, rfl⟩ | ⟨g, cap, cur, rfl, hbg, hg, hnc, hcm, hcs, htake⟩
  · have hx : xs = [] := List.eq_nil_of_length_eq_zero (by simpa using hown.1)
    subst hx
    obtain ⟨v', w', hr, h2, h3, _⟩ := Lib.run_append_own_string (P := P) w w.heap.size t u ty e i ht hu hi hz hsize hby (.slice none 0 0) 0 [] (own_nil _ _ _ _) s h63 hbytes (Nat.le_refl _)
    refine ⟨v', w', hr, ?_, h3, ?_⟩
    · obtain ⟨a1, a2⟩ := h2
      refine ⟨a1, ?_⟩
      rcases a2 with a2 | ⟨g, cap, cur, e1, e2, r⟩
      · exact .inl a2
      · exact .inr ⟨g, cap, cur, e1, by omega, r⟩
    · cases hb : v'.ownBlock with
      | none => exact .inl (by rw [hb]; rfl)
      | some b => exact .inr ⟨b, hb, own_base h2 b hb⟩
  · obtain ⟨v', w', hr, h2, h3, _⟩ := Lib.run_append_own_string (P := P) w base t u ty e i ht hu hi hz hsize hby _ n xs hown s h63 hbytes hbase
    refine ⟨v', w', hr, h2, h3, ?_⟩
    have hxl : xs.length = n := by simpa using hown.1
    by_cases hroom : n + s.size ≤ cap
    · have hcs' : cur.size = cap := by simpa using hcs
      have hr2 := Lib.run_append_room_string (P := P) w t u ty e i ht hu hi hsize g n cap cur hg s hroom (by omega)
      rw [hr2] at hr
      injection hr with hv _
      exact .inl (by rw [← hv]; rfl)
    · have holds : ∀ j u, xs[j]? = some u → w.cell? ((⟨g, 0, none⟩ : Addr).add j) = some u := hown.cells (g := g) rfl
      have h63' : n + s.size ≤ 9223372036854775807 := h63
      have hr2 := Lib.run_append_grow_string (P := P) w t u ty e i (.int .u8 0) ht hu hi hz ⟨g, 0, none⟩ n cap xs (by rw [hsize]; simpa using hxl) holds s (by omega) (by omega) (by rw [hby]; exact growslice_fits (by omega) (by omega))
      rw [hr2] at hr
      injection hr with hv _
      exact .inr ⟨w.heap.size, by rw [← hv]; rfl, Nat.le_refl _⟩
theorem app_str {ops : Array Oper} {rest : List Oper} {o : Oper} {a : Act} {Q : Exit → Act → World → Prop} (base : Nat) (hgd : o.guard = none) (sl x : Operand) (t u e : TypeId)
    (ho : o.op = .call { callee := .builtin .append, args := #[sl, x], argTypes := #[t, u] })
    (ht : P.underlying t = some (.slice e)) (hu : P.underlying u = some .string) (hinfo : (P.info? e).map (fun i => (i.zero, i.size, i.bytes)) = some (some (.int .u8 0), 1, 1))
    (v : Value) (xs : List Int) (s : ByteArray) (hs : a.eval sl = v) (hx : a.eval x = .string s) (hown : w.ownsRow base e 1 v xs.length (nums .u8 xs)) (hbase : base ≤ w.heap.size) (hl : xs.length + s.size ≤ 140737488355328)
    (h : ∀ v1 w1, w1.ownsRow base e 1 v1 (xs ++ bytesOf s).length (nums .u8 (xs ++ bytesOf s)) → w.grownBy w1 v.ownBlock → AtB w v v1 → wpList P ops Q rest (a.put o.dst v1) w1) : wpList P ops Q (o :: rest) a w := by
  obtain ⟨i0, hi, hzz⟩ := Option.map_eq_some_iff.1 hinfo
  simp only [Prod.mk.injEq] at hzz
  obtain ⟨hz0, hz1, hz2⟩ := hzz
  refine wpList_plain hgd fun K hK => ?_
  obtain ⟨v', w', hr, h2, h3, h4⟩ := run_append_string_at (P := P) base t u o.type e i0 ht hu hi hz0 hz1 hz2 v xs.length (nums .u8 xs) hown s (by simp only [maxLen]; omega) hl hbase
  unfold Oper.wp execOp
  simp only [ho, resolve, invoke, builtin, Sem.run_bind, Sem.run_pure, Result.andThen_ok, List.map_toArray, List.map_cons, List.map_nil, hs, hx, hr]
  have hl2 : (xs ++ bytesOf s).length = xs.length + s.size := by rw [List.length_append, bytesOf_length]
  have hc : nums .u8 (xs ++ bytesOf s) = nums .u8 xs ++ Lib.strCells s := by
    rw [nums_append]
    congr 1
    simp [nums, bytesOf, Lib.strCells]
  exact hK _ _ (h v' w' (by rw [hl2, hc]; exact h2) h3 h4)
end
end Go.Proofs.Ytmmoenleldcadaa.HW
namespace Go.Proofs.Ytmmoenleldcadaa.HW
open Go.RowKit Go.Proofs.YtmmoenleldcadaaW.PrintWords Go.Proofs.YtmmoenleldcadaaW.PrintLast Go.Proofs.YtmmoenleldcadaaW.PrintMore Go.Proofs.Ytmmoenleldcadaa.MB
theorem setCells_blk {e g : Nat} : ∀ (seg : List Value) (o : Nat) (w : World) (cur : Array Value), w.heap[g]? = some (.cells cur e (0, 0)) → ∃ cur' : Array Value, (w.setCells g o seg).heap[g]? = some (.cells cur' e (0, 0)) ∧ cur'.size = cur.size ∧ ∀ i, cur'[i]? = if o ≤ i ∧ i < o + seg.length ∧ i < cur.size then seg[i - o]? else cur[i]?
  | [], o, w, cur, h => ⟨cur, h, rfl, fun i => by rw [if_neg (by simp; omega)]⟩
  | v :: r, o, w, cur, h => by
    obtain ⟨c', h1, h2, h3⟩ := setCells_blk r (o + 1) (w.setCell ⟨g, o, none⟩ v) (cur.setIfInBounds o v) (blk_set h o v)
    refine ⟨c', h1, by rw [h2]; simp, fun i => ?_⟩
    rw [h3 i, Array.getElem?_setIfInBounds]
    have e0 : (cur.setIfInBounds o v).size = cur.size := by simp
    rw [e0]
    simp only [List.length_cons]
    by_cases h5 : o = i
    · subst h5
      rw [if_neg (by omega), if_pos rfl]
      by_cases h6 : o < cur.size
      · rw [if_pos h6, if_pos ⟨Nat.le_refl _, by omega, h6⟩]; simp
      · rw [if_neg h6, if_neg (by omega), Array.getElem?_eq_none (by omega)]
    · rw [if_neg h5]
      by_cases h4 : o + 1 ≤ i ∧ i < o + 1 + r.length ∧ i < cur.size
      · rw [if_pos h4, if_pos (by omega), show i - o = (i - (o + 1)) + 1 from by omega, List.getElem?_cons_succ]
      · rw [if_neg h4, if_neg (by omega)]
theorem setCells_all {e g : Nat} {w : World} {cur cs : Array Value} (h : w.heap[g]? = some (.cells cur e (0, 0))) (hs : cur.size = cs.size) : (w.setCells g 0 cs.toList).heap[g]? = some (.cells cs e (0, 0)) := by
  obtain ⟨c', h1, h2, h3⟩ := setCells_blk cs.toList 0 w cur h
  rw [h1]
  congr 2
  refine Array.ext_getElem? fun i => ?_
  rw [h3 i]
  by_cases hi : i < cur.size
  · rw [if_pos ⟨Nat.zero_le _, by simp; omega, hi⟩]; simp
  · rw [if_neg (by omega), Array.getElem?_eq_none (by omega), Array.getElem?_eq_none (by omega)]
theorem setCells_fr {g : Nat} (seg : List Value) (o : Nat) (w : World) : Fr (fun k => k = g) w (w.setCells g o seg) := by
  induction seg generalizing o w with
  | nil => exact Fr.refl _ _
  | cons v r ih => exact (((Fr.refl (fun k => k = g) w).setCell (p := ⟨g, o, none⟩) (Or.inl rfl) v).then_ (ih (o + 1) _) (fun k hk => Or.inl hk))
section
variable {P : Program} {ops : Array Oper} {rest : List Oper} {o : Oper} {a : Act} {Q : Exit → Act → World → Prop}
theorem store_all {W : World} (hgd : o.guard = none) {t : TypeId} {p : Tmp} {v : Operand} (ho : o.op = .store t (.tmp p) v) (hN : o.dst = none) (g : Nat) (cs cs' : Array Value) (ty : TypeId)
    (hx : a.eval (.tmp p) = .pointer (some ⟨g, 0, none⟩)) (hv : a.eval v = .agg cs') (hg : W.heap[g]? = some (.cells cs ty (0, 0))) (hs : cs.size = cs'.size) (hi : (P.info? t).map (·.size) = some cs'.size) (h1 : ∀ q ∈ cs'.toList, q.oneCell' = true)
    (h : ∀ w1, w1.heap[g]? = some (.cells cs' ty (0, 0)) → Fr (fun k => k = g) W w1 → wpList P ops Q rest a w1) : wpList P ops Q (o :: rest) a W := by
  refine store_event hgd ho hN (w1 := W.setCells g 0 cs'.toList) ?_ (fun w' hw' => by subst hw'; exact h _ (setCells_all hg hs) (setCells_fr _ _ _))
  have hr := run_store_run (P := P) (w := W) t (.agg cs') cs'.toList hg (o := 0) (by rfl) (by rw [hi]; simp) (by simp; omega) h1
  simp only [execOp, ho, hx, hv, Sem.run_bind, hr, Result.andThen_ok, Sem.run_pure]
theorem load_all {W : World} (hgd : o.guard = none) {t : TypeId} {x : Operand} (ho : o.op = .load t x) (g : Nat) (hx : a.eval x = .pointer (some ⟨g, 0, none⟩)) (ty : TypeId) (cs : Array Value) (d : TypeDesc) (hg : W.heap[g]? = some (.cells cs ty (0, 0)))
    (hu : P.underlying t = some d) (hd : (match d with | .struct _ | .array _ _ => true | _ => false) = true) (hi : (P.info? t).map (·.size) = some cs.size) (h : wpList P ops Q rest (a.put o.dst (.agg cs)) W) : wpList P ops Q (o :: rest) a W :=
  wpList_load_row hgd t x ho g hx ty cs (0, 0) d hg hu hd hi h
theorem gate_load {W : World} {t : TypeId} {x : Operand} (_ho : o.op = .load t x) (h : wpList P ops Q (o :: rest) a W) : wpList P ops Q (o :: rest) a W := h
end
end Go.Proofs.Ytmmoenleldcadaa.HW
namespace Go.Proofs.Ytmmoenleldcadaa.HF
open Go.RowKit Go.Proofs.YtmmoenleldcadaaW.PrintWords Go.Proofs.YtmmoenleldcadaaW.PrintLast Go.Proofs.YtmmoenleldcadaaW.PrintMore Go.Proofs.Ytmmoenleldcadaa.HW Go.Proofs.Ytmmoenleldcadaa.MB
def arrV (f : Nat → Int) : Array Value := ((List.range 16).map (fun i => Value.int .i64 (f i))).toArray
theorem arrV_size (f : Nat → Int) : (arrV f).size = 16 := by unfold arrV; simp
theorem arrV_get (f : Nat → Int) (k : Nat) (h : k < 16) : (arrV f)[k]? = some (.int .i64 (f k)) := by
  unfold arrV
  rw [List.getElem?_toArray, List.getElem?_map, List.getElem?_range h]
  rfl
theorem arrV_one (f : Nat → Int) : ∀ q ∈ (arrV f).toList, q.oneCell' = true := by
  intro q hq
  unfold arrV at hq
  rw [List.toList_toArray] at hq
  obtain ⟨i, _, rfl⟩ := List.mem_map.1 hq
  rfl
theorem arrV_congr {f f' : Nat → Int} (h : ∀ k, k < 16 → f k = f' k) : arrV f = arrV f' := by
  unfold arrV
  congr 1
  refine List.map_congr_left (fun i hi => ?_)
  rw [h i (List.mem_range.1 hi)]
theorem arrV_zero : arrV (fun _ => 0) = #[.int .i64 0, .int .i64 0, .int .i64 0, .int .i64 0, .int .i64 0, .int .i64 0, .int .i64 0, .int .i64 0, .int .i64 0, .int .i64 0, .int .i64 0, .int .i64 0, .int .i64 0, .int .i64 0, .int .i64 0, .int .i64 0] := rfl
def upd (f : Nat → Int) (k : Nat) (v : Int) : Nat → Int := fun i => if i = k then v else f i
theorem arrV_set (f : Nat → Int) (k : Nat) (v : Int) : (arrV f).setIfInBounds k (.int .i64 v) = arrV (upd f k v) := by
  refine Array.ext_getElem? fun i => ?_
  rw [Array.getElem?_setIfInBounds, arrV_size]
  by_cases hi : i < 16
  · rw [arrV_get f i hi, arrV_get (upd f k v) i hi]
    by_cases hk : k = i
    · subst hk; rw [if_pos rfl, if_pos hi]; unfold upd; rw [if_pos rfl]
    · rw [if_neg hk]; unfold upd; rw [if_neg (fun e => hk e.symm)]
  · rw [Array.getElem?_eq_none (by rw [arrV_size]; omega), Array.getElem?_eq_none (by rw [arrV_size]; omega)]
    split
    · split
      · omega
      · rfl
    · rfl
/-- Block g is an array. -/
def IsArr (W : World) (g : Nat) (f : Nat → Int) : Prop := W.heap[g]? = some (.cells (arrV f) 50 (0, 0))
theorem IsArr.cell {W : World} {g : Nat} {f : Nat → Int} (h : IsArr W g f) (k : Nat) (hk : k < 16) : W.cell? ⟨g, k, none⟩ = some (.int .i64 (f k)) := (blk_cell h k).trans (arrV_get f k hk)
theorem IsArr.frozen {W : World} {g : Nat} {f : Nat → Int} (h : IsArr W g f) (k : Nat) : W.frozen? ⟨g, k, none⟩ = false := blk_frozen h k
theorem IsArr.set {W : World} {g : Nat} {f : Nat → Int} (h : IsArr W g f) (k : Nat) (v : Int) : IsArr (W.setCell ⟨g, k, none⟩ (.int .i64 v)) g (upd f k v) := by
  unfold IsArr
  rw [blk_set h k, arrV_set]
theorem IsArr.below {W W' : World} {g : Nat} {f : Nat → Int} (h : IsArr W g f) (hb : Below W.heap.size W W') : IsArr W' g f := (hb.block _ (blk_lt h)).trans h
theorem IsArr.keep {S : Nat → Prop} {W W' : World} {g : Nat} {f : Nat → Int} (h : IsArr W g f) (hf : Fr S W W') (hn : ¬ S g) : IsArr W' g f := hf.blk h hn
theorem IsArr.congr {W : World} {g : Nat} {f f' : Nat → Int} (h : IsArr W g f) (e : ∀ k, k < 16 → f k = f' k) : IsArr W g f' := by unfold IsArr at h ⊢; rw [← arrV_congr e]; exact h
theorem IsArr.new (w : World) : IsArr (w.alloc (.cells #[.int .i64 0, .int .i64 0, .int .i64 0, .int .i64 0, .int .i64 0, .int .i64 0, .int .i64 0, .int .i64 0, .int .i64 0, .int .i64 0, .int .i64 0, .int .i64 0, .int .i64 0, .int .i64 0, .int .i64 0, .int .i64 0] 50)) w.heap.size (fun _ => 0) := by
  unfold IsArr
  rw [arrV_zero]
  exact heap_alloc_new w _
end Go.Proofs.Ytmmoenleldcadaa.HF
namespace Go.Proofs.Ytmmoenleldcadaa.HF
open Go.Proofs.Ytmmoenleldcadaa.MB
/-- The places of a length among the first i. -/
def idxL (lens : List Int) (l i : Nat) : List Int := ((List.range i).filter (fun j : Nat => decide (lens.getD j 0 = (l : Int)))).map (fun j : Nat => (j : Int))
theorem idxL_succ (lens : List Int) (l i : Nat) : idxL lens l (i + 1) = idxL lens l i ++ (if lens.getD i 0 = (l : Int) then [(i : Int)] else []) := by
  unfold idxL
  rw [List.range_succ, List.filter_append, List.map_append]
  congr 1
  rw [List.filter_cons]
  by_cases h : lens.getD i 0 = (l : Int)
  · rw [decide_eq_true h, if_pos rfl, if_pos h]; rfl
  · rw [decide_eq_false h, if_neg h]; rfl
theorem idxL_len (lens : List Int) (l i : Nat) : (idxL lens l i).length ≤ i := by
  unfold idxL
  rw [List.length_map]
  have := List.length_filter_le (fun j : Nat => decide (lens.getD j 0 = (l : Int))) (List.range i)
  rw [List.length_range] at this
  exact this
/-- The symbols by their words, up to a length. -/
def symsT (lens : List Int) : Nat → List Int
  | 0 => []
  | l + 1 => symsT lens l ++ idxL lens (l + 1) lens.length
theorem symsT_len (lens : List Int) : ∀ l, (symsT lens l).length ≤ l * lens.length
  | 0 => Nat.zero_le _
  | l + 1 => by
    have h1 := symsT_len lens l
    have h2 := idxL_len lens (l + 1) lens.length
    unfold symsT
    rw [List.length_append, Nat.succ_mul]
    omega
/-- The longest length up to l. -/
def lngI (lens : List Int) (l i g : Nat) : Nat := if (idxL lens l i).length = 0 then g else l
def lngT (lens : List Int) : Nat → Nat
  | 0 => 0
  | l + 1 => lngI lens (l + 1) lens.length (lngT lens l)
theorem lngI_zero (lens : List Int) (l g : Nat) : lngI lens l 0 g = g := rfl
theorem lngI_hit (lens : List Int) (l i g : Nat) (h : lens.getD i 0 = (l : Int)) : lngI lens l (i + 1) g = l := by
  unfold lngI
  rw [idxL_succ, if_pos h, List.length_append]
  exact if_neg (by simp)
theorem lngI_miss (lens : List Int) (l i g : Nat) (h : ¬ lens.getD i 0 = (l : Int)) : lngI lens l (i + 1) g = lngI lens l i g := by
  unfold lngI
  rw [idxL_succ, if_neg h, List.append_nil]
/-- The first word behind those of the lengths up to l. -/
def eT (f : Nat → Int) (l : Nat) : Int := if l = 0 then 0 else nxt f l + f l
theorem eT_next (f : Nat → Int) (l : Nat) : nxt f (l + 1) = 2 * eT f l := by
  unfold eT
  show (if l = 0 then 0 else 2 * (nxt f l + f l)) = _
  split <;> omega
theorem eT_succ (f : Nat → Int) (l : Nat) : eT f (l + 1) = 2 * eT f l + f (l + 1) := by
  rw [← eT_next]
  exact if_neg (by omega)
/-- How many words of each length. -/
def cF (lens : List Int) (k : Nat) : Int := cntL lens k
def bitI (s : ByteArray) (a : Nat) : Int := ((nb (sbit s) a 1 : Nat) : Int)
/-- What Symbol tells: the symbol, the error, the place behind it. -/
def symS (lens : List Int) (s : ByteArray) : Nat → Nat → Int → Nat → Int × Int × Nat
  | 0, _, _, a => (0, 30, a)
  | d + 1, l, word, a =>
    if 8 * s.size < a + 1 then (0, 5, a) else
    if 2 * word + bitI s a < eT (cF lens) l then ((symsT lens 15).getD ((symsT lens (l - 1)).length + (2 * word + bitI s a - 2 * eT (cF lens) (l - 1)).toNat) 0, 0, a + 1) else
    if l < lngT lens 15 ∧ (2 * word + bitI s a) * 2 ^ (lngT lens 15 - l) < eT (cF lens) (lngT lens 15) then symS lens s d (l + 1) (2 * word + bitI s a) (a + 1) else (0, 30, a + 1)
/-- What Symbol tells from a place on. -/
def symF (lens : List Int) (s : ByteArray) (a : Nat) : Int × Int × Nat := symS lens s 15 1 0 a
end Go.Proofs.Ytmmoenleldcadaa.HF
