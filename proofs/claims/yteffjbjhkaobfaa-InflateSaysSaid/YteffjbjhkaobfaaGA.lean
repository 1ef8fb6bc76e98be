/- Plain facts on bits of bytes: what a reader's and a writer's loops come to. Codes by lengths, plain: how many words of each length, what is left, the first words, the words. Frames: what a call may have turned; a writer's block. A whole block is written, read. An array of sixteen numbers, as a block. huff.counts: walked. More rounds tell the same: plain. Lengths that may be, by shares and by what is left; no word begins another: plain. The document's Codes: plain. A table's symbols by their words; what Symbol tells: plain. Symbols by the words' places are the document's: plain. What a reader's methods come to, and the document's bits. The document's bits: plain. The document's Symbol is what a table's Symbol tells: plain. -/
import Derived.Test.YteffjbjhkaobfaaWMore
import Derived.Laws.BitsLemmas
import Derived.Test.YteffjbjhkaobfaaFnx0
import Derived.Lib.AppendStr
import Derived.Deep.DeepMust
import Derived.Deep.RegionWith
import Derived.Test.YteffjbjhkaobfaaFMay
import Derived.Test.YteffjbjhkaobfaaFRd
import Derived.Test.YteffjbjhkaobfaaFSym
namespace Go.Proofs.Yteffjbjhkaobfaa.MB
open Go.RowKit Go.Proofs.YteffjbjhkaobfaaW.PrintWords Go.Proofs.YteffjbjhkaobfaaW.PrintMore

theorem wrap_u64 (n : Int) : IntKind.u64.wrap n = n % 18446744073709551616 := by simp [IntKind.wrap, IntKind.bits, IntKind.signed]
theorem wraps_u64 (n : Int) (h₀ : 0 ≤ n) (h₁ : n < 2 ^ 64) : IntKind.u64.wrap n = n := by rw [wrap_u64]; omega
theorem wraps_i64 (n : Int) (h₀ : 0 ≤ n) (h₁ : n < 2 ^ 63) : IntKind.i64.wrap n = n := by rw [IntKind.wrap_i64]; omega
theorem or_u64 (a b : Nat) (ha : a < 2 ^ 64) (hb : b < 2 ^ 64) : Go.bits .or .u64 (a : Int) (b : Int) = ((a ||| b : Nat) : Int) :=
  (bits_nat .u64 64 (by decide) wraps_u64 a b ha hb).2
theorem and_u64 (a b : Nat) (ha : a < 2 ^ 64) (hb : b < 2 ^ 64) : Go.bits .and .u64 (a : Int) (b : Int) = ((a &&& b : Nat) : Int) :=
  (bits_nat .u64 64 (by decide) wraps_u64 a b ha hb).1
theorem or_u8 (a b : Nat) (ha : a < 2 ^ 8) (hb : b < 2 ^ 8) : Go.bits .or .u8 (a : Int) (b : Int) = ((a ||| b : Nat) : Int) :=
  (bits_nat .u8 8 (by decide) wraps_u8 a b ha hb).2
theorem and_i64 (a b : Nat) (ha : a < 2 ^ 63) (hb : b < 2 ^ 63) : Go.bits .and .i64 (a : Int) (b : Int) = ((a &&& b : Nat) : Int) :=
  (bits_nat .i64 63 (by decide) wraps_i64 a b ha hb).1
theorem wrap64_id (n : Int) (h : -9223372036854775808 ≤ n) (h' : n ≤ 9223372036854775807) : wrap64 n = n := by unfold wrap64; omega
theorem cast_lt_two_pow {a n : Nat} (h : a < 2 ^ n) : (a : Int) < 2 ^ n := by exact_mod_cast h

/-- The bits of a function, as a number. -/
def nb (f : Nat → Bool) (a : Nat) : Nat → Nat
  | 0 => 0
  | n + 1 => nb f a n + (if f (a + n) then 2 ^ n else 0)

theorem nb_lt (f : Nat → Bool) (a : Nat) : ∀ n, nb f a n < 2 ^ n
  | 0 => by simp [nb]
  | n + 1 => by
    have h := nb_lt f a n
    have h2 : 2 ^ (n + 1) = 2 ^ n + 2 ^ n := by rw [Nat.pow_succ]; omega
    unfold nb
    split <;> omega

theorem testBit_nb (f : Nat → Bool) (a : Nat) : ∀ n i, (nb f a n).testBit i = (decide (i < n) && f (a + i))
  | 0, i => by simp [nb]
  | n + 1, i => by
    have h := nb_lt f a n
    have ih := testBit_nb f a n i
    unfold nb
    by_cases hf : f (a + n) = true
    · rw [if_pos hf, Nat.add_comm (nb f a n)]
      by_cases hi : i < n
      · rw [Nat.testBit_two_pow_add_gt hi, ih]; simp [hi, Nat.lt_succ_of_lt hi]
      · by_cases he : i = n
        · subst he; rw [Nat.testBit_two_pow_add_eq, Nat.testBit_lt_two_pow h]; simp [hf]
        · have h1 : ¬ i < n + 1 := by omega
          have h2 : 2 ^ (n + 1) ≤ 2 ^ i := Nat.pow_le_pow_right (by decide) (by omega)
          have h3 : 2 ^ (n + 1) = 2 ^ n + 2 ^ n := by rw [Nat.pow_succ]; omega
          rw [Nat.testBit_lt_two_pow (by omega)]; simp [h1]
    · rw [if_neg hf, Nat.add_zero, ih]
      by_cases hi : i < n
      · simp [hi, Nat.lt_succ_of_lt hi]
      · by_cases he : i = n
        · subst he; simp [hf]
        · have : ¬ i < n + 1 := by omega
          simp [hi, this]

theorem testBit_high {x n i : Nat} (h : x < 2 ^ n) (hi : n ≤ i) : x.testBit i = false :=
  Nat.testBit_lt_two_pow (Nat.lt_of_lt_of_le h (Nat.pow_le_pow_right (by decide) hi))

theorem nb_unique {f : Nat → Bool} {a n x : Nat} (hx : x < 2 ^ n) (h : ∀ i, i < n → x.testBit i = f (a + i)) : x = nb f a n := by
  refine Nat.eq_of_testBit_eq fun i => ?_
  rw [testBit_nb]
  by_cases hi : i < n
  · simp [hi, h i hi]
  · rw [testBit_high hx (by omega)]; simp [hi]

theorem nb_congr {f g : Nat → Bool} {a b n : Nat} (h : ∀ i, i < n → f (a + i) = g (b + i)) : nb f a n = nb g b n :=
  nb_unique (nb_lt _ _ _) fun i hi => by rw [testBit_nb]; simp [hi, h i hi]

/-- Bit i of bytes. -/
def sbit (s : ByteArray) (i : Nat) : Bool := (bt s ((i / 8 : Nat) : Int)).toNat.testBit (i % 8)
def lbit (l : List Int) (i : Nat) : Bool := (rd l ((i / 8 : Nat) : Int)).toNat.testBit (i % 8)

theorem bt_nat (s : ByteArray) (i : Int) : ∃ b : Nat, bt s i = (b : Int) ∧ b < 256 := by
  have h := bt_range s i
  exact ⟨(bt s i).toNat, by omega, by omega⟩

theorem tdiv_cast (a : Nat) : Int.tdiv (a : Int) 8 = ((a / 8 : Nat) : Int) := by
  rw [Int.tdiv_eq_ediv_of_nonneg (by omega)]; omega
theorem tmod_cast (a : Nat) : Int.tmod (a : Int) 8 = ((a % 8 : Nat) : Int) := by
  rw [Int.tmod_eq_emod_of_nonneg (by omega)]; omega

theorem shr_u8 (b r : Nat) (hr : r ≤ 8) : shr .u8 (b : Int) (r : Int) = ((b / 2 ^ r : Nat) : Int) := by
  unfold shr
  rw [show min ((r : Int)).toNat IntKind.u8.bits = r from by simp [IntKind.bits]; omega]
  simp
theorem shl_u64 (b r : Nat) (hr : r ≤ 64) (h : b * 2 ^ r < 2 ^ 64) : shl .u64 (b : Int) (r : Int) = ((b * 2 ^ r : Nat) : Int) := by
  unfold shl
  rw [show min ((r : Int)).toNat IntKind.u64.bits = r from by simp [IntKind.bits]; omega]
  have e : ((b : Int) * 2 ^ r) = ((b * 2 ^ r : Nat) : Int) := by simp
  rw [e]
  exact wraps_u64 _ (by omega) (cast_lt_two_pow h)
theorem mn_cast (a b : Nat) : mn (a : Int) (b : Int) = ((min a b : Nat) : Int) := by unfold mn; split <;> omega

/-- One step of reading: what the accumulator's bits are behind it. -/
theorem step_bits {f : Nat → Bool} {x b a got r st : Nat} (hx : x < 2 ^ got) (hbit : ∀ i, i < got → x.testBit i = f (a + i))
    (hb : ∀ j, j < st → b.testBit (r + j) = f (a + got + j)) : ∀ i, i < got + st → (x ||| (b / 2 ^ r * 2 ^ got)).testBit i = f (a + i) := by
  intro i hi
  rw [← Nat.shiftRight_eq_div_pow, ← Nat.shiftLeft_eq, Nat.testBit_or, Nat.testBit_shiftLeft, Nat.testBit_shiftRight]
  by_cases h : i < got
  · have : ¬ got ≤ i := by omega
    simp [this, hbit i h]
  · have h1 : got ≤ i := by omega
    rw [testBit_high hx h1]
    have := hb (i - got) (by omega)
    simp only [h1, decide_true, Bool.true_and, Bool.false_or]
    rw [this]
    congr 1
    omega
theorem div_pow_lt {b r : Nat} (hb : b < 2 ^ 8) (hr : r ≤ 8) : b / 2 ^ r < 2 ^ (8 - r) := by
  rw [Nat.div_lt_iff_lt_mul (Nat.two_pow_pos r), ← Nat.pow_add]
  rwa [show 8 - r + r = 8 from by omega]
theorem step_lt {x b got r : Nat} (hx : x < 2 ^ got) (hb : b < 2 ^ 8) (hr : r ≤ 8) : x ||| (b / 2 ^ r * 2 ^ got) < 2 ^ (got + (8 - r)) := by
  refine Nat.or_lt_two_pow (Nat.lt_of_lt_of_le hx (Nat.pow_le_pow_right (by decide) (by omega))) ?_
  have h := div_pow_lt hb hr
  have h2 := Nat.mul_lt_mul_of_pos_right h (Nat.two_pow_pos got)
  rwa [← Nat.pow_add, Nat.add_comm (8 - r)] at h2


/-! ### What a writer holds -/
def bitsOf (x n : Nat) : List Bool := (List.range n).map fun i => x.testBit i
theorem bitsOf_length (x n : Nat) : (bitsOf x n).length = n := by simp [bitsOf]
theorem getD_bitsOf (x n i : Nat) : (bitsOf x n).getD i false = (decide (i < n) && x.testBit i) := by
  by_cases h : i < n
  · simp [bitsOf, List.getD_eq_getElem?_getD, h]
  · simp [bitsOf, List.getD_eq_getElem?_getD, h]
theorem bitsOf_add (x j st : Nat) : bitsOf x (j + st) = bitsOf x j ++ bitsOf (x / 2 ^ j) st := by
  unfold bitsOf
  rw [List.range_add, List.map_append, List.map_map]
  congr 1
  refine List.map_congr_left fun i _ => ?_
  simp [← Nat.shiftRight_eq_div_pow, Nat.testBit_shiftRight]

structure Packs (bs : List Int) (l : List Bool) : Prop where
  len : bs.length = (l.length + 7) / 8
  rng : ∀ b ∈ bs, 0 ≤ b ∧ b < 256
  bit : ∀ i, lbit bs i = l.getD i false

theorem Packs.nil : Packs [] [] := ⟨rfl, (fun b h => nomatch h), (fun i => by simp [lbit, rd])⟩

theorem getD_append (l m : List Bool) (i : Nat) : (l ++ m).getD i false = if i < l.length then l.getD i false else m.getD (i - l.length) false := by
  simp only [List.getD_eq_getElem?_getD, List.getElem?_append]
  split <;> rfl
theorem getD_high {l : List Bool} {i : Nat} (h : l.length ≤ i) : l.getD i false = false := by
  simp [List.getD_eq_getElem?_getD, List.getElem?_eq_none h]

theorem rd_snoc0 (bs : List Int) (i : Int) : rd (bs ++ [0]) i = rd bs i := by
  unfold rd
  simp only [List.getD_eq_getElem?_getD, List.getElem?_append]
  split
  · rfl
  · rw [List.getElem?_eq_none (l := bs) (by omega)]
    by_cases h : i.toNat - bs.length = 0
    · rw [h]; rfl
    · rw [List.getElem?_eq_none (by simp; omega)]
theorem lbit_snoc0 (bs : List Int) (i : Nat) : lbit (bs ++ [0]) i = lbit bs i := by unfold lbit; rw [rd_snoc0]
theorem rd_high (bs : List Int) (q : Nat) (h : bs.length ≤ q) : rd bs (q : Int) = 0 := by
  simp [rd, List.getD_eq_getElem?_getD, List.getElem?_eq_none h]
theorem rd_set (bs : List Int) (q i : Nat) (x : Int) (hq : q < bs.length) : rd (bs.set q x) (i : Int) = if i = q then x else rd bs (i : Int) := by
  simp only [rd, List.getD_eq_getElem?_getD, Int.toNat_natCast, List.getElem?_set]
  by_cases h : q = i
  · subst h; simp [hq]
  · rw [if_neg h, if_neg (Ne.symm h)]
theorem rd_mem {bs : List Int} {P : Int → Prop} (h : ∀ b ∈ bs, P b) (h0 : P 0) (i : Int) : P (rd bs i) := by
  unfold rd
  rw [List.getD_eq_getElem?_getD]
  cases hb : bs[i.toNat]? with
  | none => exact h0
  | some b => exact h b (List.mem_of_getElem? hb)

/-- The bytes, and one more if the last one is full. -/
def room (bs : List Int) (n : Nat) : List Int := if n % 8 = 0 then bs ++ [0] else bs
theorem room_len {bs : List Int} {l : List Bool} (h : Packs bs l) : (room bs l.length).length = l.length / 8 + 1 := by
  have hl := h.len
  unfold room
  split
  · rw [List.length_append, List.length_singleton, hl]; omega
  · rw [hl]; omega
theorem room_bit {bs : List Int} {l : List Bool} (h : Packs bs l) (i : Nat) : lbit (room bs l.length) i = l.getD i false := by
  unfold room
  split
  · rw [lbit_snoc0]; exact h.bit i
  · exact h.bit i
theorem room_rng {bs : List Int} {l : List Bool} (h : Packs bs l) : ∀ b ∈ room bs l.length, 0 ≤ b ∧ b < 256 := by
  unfold room
  split
  · intro b hb
    rcases List.mem_append.1 hb with hb | hb
    · exact h.rng b hb
    · rw [List.mem_singleton.1 hb]; omega
  · exact h.rng

theorem packs_step {bs : List Int} {l : List Bool} (h : Packs bs l) (u st : Nat) (h0 : 0 < st) (hst : st ≤ 8 - l.length % 8) (hu : st = 8 - l.length % 8 ∨ u < 2 ^ st) :
    Packs ((room bs l.length).set (l.length / 8) (((rd (room bs l.length) ((l.length / 8 : Nat) : Int)).toNat ||| (u * 2 ^ (l.length % 8) % 256) : Nat) : Int)) (l ++ bitsOf u st) := by
  have hL := room_len h
  have hB := room_bit h
  have hR := room_rng h
  generalize room bs l.length = b' at hL hB hR
  have hold : ∃ o : Nat, rd b' ((l.length / 8 : Nat) : Int) = (o : Int) ∧ o < 2 ^ 8 := by
    have := rd_mem (P := fun b => 0 ≤ b ∧ b < 256) hR ⟨by omega, by omega⟩ ((l.length / 8 : Nat) : Int)
    exact ⟨(rd b' ((l.length / 8 : Nat) : Int)).toNat, by omega, by omega⟩
  obtain ⟨o, ho, ho8⟩ := hold
  have hnew : (o ||| u * 2 ^ (l.length % 8) % 256) < 2 ^ 8 := Nat.or_lt_two_pow ho8 (Nat.mod_lt _ (by decide))
  refine ⟨?_, ?_, fun i => ?_⟩
  · rw [List.length_set, hL, List.length_append, bitsOf_length]; omega
  · intro b hb
    rcases List.mem_or_eq_of_mem_set hb with hb | rfl
    · exact hR b hb
    · rw [ho]; simp only [Int.toNat_natCast]; omega
  · have hqlt : l.length / 8 < b'.length := by omega
    have hi8 := hB i
    unfold lbit at hi8 ⊢
    rw [rd_set _ _ _ _ hqlt, getD_append]
    by_cases hq : i / 8 = l.length / 8
    · rw [if_pos hq]
      rw [hq, ho] at hi8
      rw [ho]
      simp only [Int.toNat_natCast] at hi8 ⊢
      rw [Nat.testBit_or, hi8, show (256 : Nat) = 2 ^ 8 from rfl, Nat.testBit_mod_two_pow, ← Nat.shiftLeft_eq, Nat.testBit_shiftLeft]
      have hi : i % 8 < 8 := Nat.mod_lt _ (by decide)
      by_cases hlt : i < l.length
      · have : ¬ l.length % 8 ≤ i % 8 := by omega
        simp [hlt, this]
      · have h1 : l.length % 8 ≤ i % 8 := by omega
        have h2 : i - l.length = i % 8 - l.length % 8 := by omega
        rw [getD_high (by omega), if_neg hlt, getD_bitsOf, h2]
        simp only [hi, h1, decide_true, Bool.true_and, Bool.false_or]
        by_cases h3 : i % 8 - l.length % 8 < st
        · simp [h3]
        · rcases hu with hu | hu
          · omega
          · rw [testBit_high hu (by omega)]; simp
    · rw [if_neg hq, hi8]
      by_cases hlt : i < l.length
      · rw [if_pos hlt]
      · rw [if_neg hlt, getD_high (by omega), getD_bitsOf]
        have : ¬ i - l.length < st := by omega
        simp [this]

theorem packs_unique {bs bs' : List Int} {l : List Bool} (h : Packs bs l) (h' : Packs bs' l) : bs = bs' := by
  have hl : bs.length = bs'.length := by rw [h.len, h'.len]
  refine List.ext_getElem hl fun i hi hi' => ?_
  have r1 := h.rng _ (List.getElem_mem hi)
  have r2 := h'.rng _ (List.getElem_mem hi')
  have e1 : rd bs (i : Int) = bs[i] := by simp [rd, List.getD_eq_getElem?_getD, hi]
  have e2 : rd bs' (i : Int) = bs'[i] := by simp [rd, List.getD_eq_getElem?_getD, hi']
  have : (bs[i]).toNat = (bs'[i]).toNat := by
    refine Nat.eq_of_testBit_eq fun j => ?_
    by_cases hj : j < 8
    · have b1 := h.bit (8 * i + j)
      have b2 := h'.bit (8 * i + j)
      unfold lbit at b1 b2
      rw [show (8 * i + j) / 8 = i from by omega, show (8 * i + j) % 8 = j from by omega] at b1 b2
      rw [e1] at b1
      rw [e2] at b2
      rw [b1, b2]
    · rw [testBit_high (n := 8) (by omega) (by omega), testBit_high (n := 8) (by omega) (by omega)]
  omega

def pad (n : Nat) : Nat := (8 - n % 8) % 8
theorem packs_align {bs : List Int} {l : List Bool} (h : Packs bs l) : Packs bs (l ++ List.replicate (pad l.length) false) := by
  refine ⟨?_, h.rng, fun i => ?_⟩
  · rw [h.len, List.length_append, List.length_replicate]; unfold pad; omega
  · rw [h.bit i, getD_append]
    split
    · rfl
    · rw [getD_high (by omega)]
      simp only [List.getD_eq_getElem?_getD, List.getElem?_replicate]
      split <;> rfl
theorem pad_len (n : Nat) : n + pad n = 8 * ((n + 7) / 8) := by unfold pad; omega

def bitsS (s : ByteArray) : List Bool := (List.range (8 * s.size)).map fun i => sbit s i
theorem bitsS_length (s : ByteArray) : (bitsS s).length = 8 * s.size := by simp [bitsS]
theorem bt_high (s : ByteArray) (i : Nat) (h : s.size ≤ i) : bt s (i : Int) = 0 := by
  unfold bt
  rw [dif_neg (by simp; omega)]
theorem getD_bitsS (s : ByteArray) (i : Nat) : (bitsS s).getD i false = sbit s i := by
  by_cases h : i < 8 * s.size
  · simp [bitsS, List.getD_eq_getElem?_getD, h]
  · rw [getD_high (by rw [bitsS_length]; omega)]
    unfold sbit
    rw [bt_high s _ (by omega)]
    simp
theorem rd_append (bs ys : List Int) (i : Nat) : rd (bs ++ ys) (i : Int) = if i < bs.length then rd bs (i : Int) else rd ys ((i - bs.length : Nat) : Int) := by
  simp only [rd, List.getD_eq_getElem?_getD, Int.toNat_natCast, List.getElem?_append]
  split <;> rfl
theorem bytesOf_rng (s : ByteArray) : ∀ b ∈ bytesOf s, 0 ≤ b ∧ b < 256 := by
  intro b hb
  obtain ⟨c, _, rfl⟩ := List.mem_map.1 hb
  have := c.toNat_lt
  omega
theorem packs_bytes {bs : List Int} {l : List Bool} (h : Packs bs l) (hl : l.length % 8 = 0) (s : ByteArray) : Packs (bs ++ bytesOf s) (l ++ bitsS s) := by
  have hbl := h.len
  refine ⟨?_, ?_, fun i => ?_⟩
  · rw [List.length_append, bytesOf_length, List.length_append, bitsS_length, hbl]; omega
  · intro b hb
    rcases List.mem_append.1 hb with hb | hb
    · exact h.rng b hb
    · exact bytesOf_rng s b hb
  · rw [getD_append]
    unfold lbit
    rw [rd_append]
    have hi := h.bit i
    unfold lbit at hi
    by_cases hlt : i < l.length
    · rw [if_pos hlt, if_pos (by omega), hi]
    · rw [if_neg hlt, if_neg (by omega), getD_bitsS, rd_bytesOf]
      unfold sbit
      rw [show i / 8 - bs.length = (i - l.length) / 8 from by omega, show i % 8 = (i - l.length) % 8 from by omega]
/-- The string that a writer tells. -/
def STold (s : ByteArray) (l : List Bool) : Prop := s.size = (l.length + 7) / 8 ∧ ∀ i, sbit s i = l.getD i false
theorem told_of_packs {s : ByteArray} {l : List Bool} (h : Packs (bytesOf s) l) : STold s l :=
  ⟨by rw [← bytesOf_length]; exact h.len, fun i => by rw [← h.bit i]; unfold sbit lbit; rw [rd_bytesOf]⟩
theorem packs_of_told {s : ByteArray} {l : List Bool} (h : STold s l) : Packs (bytesOf s) l :=
  ⟨by rw [bytesOf_length]; exact h.1, bytesOf_rng s, fun i => by rw [← h.2 i]; unfold sbit lbit; rw [rd_bytesOf]⟩
theorem bytesOf_inj {s t : ByteArray} (h : bytesOf s = bytesOf t) : s = t := by
  have h1 : s.data.toList = t.data.toList := by
    unfold bytesOf at h
    refine List.map_inj_right (f := fun b : UInt8 => (b.toNat : Int)) (fun a b hab => ?_) |>.1 h
    have : a.toNat = b.toNat := by omega
    exact UInt8.toNat_inj.1 this
  exact ByteArray.ext (Array.toList_inj.1 h1)
theorem told_unique {s t : ByteArray} {l : List Bool} (h : STold s l) (h' : STold t l) : s = t :=
  bytesOf_inj (packs_unique (packs_of_told h) (packs_of_told h'))
theorem told_strOfNums {bs : List Int} {l : List Bool} (h : Packs bs l) : STold (strOfNums bs) l := by
  have hb : bytesOf (strOfNums bs) = bs := by
    unfold bytesOf strOfNums
    simp only [List.map_map]
    conv => rhs; rw [← List.map_id bs]
    refine List.map_congr_left fun b hb => ?_
    have := h.rng b hb
    simp only [Function.comp_apply, UInt8.toNat_ofNat', id_eq]
    omega
  exact told_of_packs (by rw [hb]; exact h)
end Go.Proofs.Yteffjbjhkaobfaa.MB
namespace Go.Proofs.Yteffjbjhkaobfaa.HF
/-- How many are l. -/
def cntL (lens : List Int) (l : Int) : Int := ((lens.filter (fun x => decide (x = l))).length : Int)
theorem cntL_nil (l : Int) : cntL [] l = 0 := rfl
theorem cntL_app (a b : List Int) (l : Int) : cntL (a ++ b) l = cntL a l + cntL b l := by unfold cntL; rw [List.filter_append, List.length_append]; omega
theorem cntL_snoc (a : List Int) (x l : Int) : cntL (a ++ [x]) l = cntL a l + (if x = l then 1 else 0) := by
  rw [cntL_app]
  congr 1
  unfold cntL
  by_cases h : x = l
  · simp [h]
  · simp [h]
theorem cntL_cons (x : Int) (a : List Int) (l : Int) : cntL (x :: a) l = (if x = l then 1 else 0) + cntL a l := by
  rw [← List.singleton_append, cntL_app]
  congr 1
  unfold cntL
  by_cases h : x = l
  · simp [h]
  · simp [h]
theorem cntL_nn (a : List Int) (l : Int) : 0 ≤ cntL a l ∧ cntL a l ≤ a.length := by
  unfold cntL
  have := List.length_filter_le (fun x => decide (x = l)) a
  omega
/-- What is left behind the words of the lengths up to l. -/
def rooms (f : Nat → Int) : Nat → Int
  | 0 => 1
  | l + 1 => 2 * rooms f l - f (l + 1)
theorem rooms_neg {f : Nat → Int} (hf : ∀ l, 0 ≤ f l) {i : Nat} (h : rooms f i < 0) : ∀ j, i ≤ j → rooms f j < 0
  | 0, hj => by rw [show 0 = i by omega]; exact h
  | j + 1, hj => by
    by_cases he : i = j + 1
    · rw [← he]; exact h
    · have := rooms_neg hf h j (by omega)
      have h2 := hf (j + 1)
      show 2 * rooms f j - f (j + 1) < 0
      omega
theorem rooms_le {f : Nat → Int} (hf : ∀ l, 0 ≤ f l) : ∀ j, rooms f j ≤ 2 ^ j
  | 0 => by simp [rooms]
  | j + 1 => by
    have := rooms_le hf j
    have h2 := hf (j + 1)
    show 2 * rooms f j - f (j + 1) ≤ 2 ^ (j + 1)
    rw [Int.pow_succ]
    omega
def lenOk (x : Int) : Bool := decide (0 ≤ x ∧ x ≤ 15)
/-- Lengths may be, and are those of a code. -/
def okL (lens : List Int) : Bool := decide (lens.length ≤ 288) && (lens.all lenOk && decide (0 ≤ rooms (fun l => cntL lens l) 15))
/-- The first word of a length. -/
def nxt (f : Nat → Int) : Nat → Int
  | 0 => 0
  | l + 1 => if l = 0 then 0 else 2 * (nxt f l + f l)
/-- The word of symbol i. -/
def codeAt (lens : List Int) (i : Nat) : Int := if 0 < lens.getD i 0 then nxt (fun l => cntL lens l) (lens.getD i 0).toNat + cntL (lens.take i) (lens.getD i 0) else 0
def codesL (lens : List Int) : List Int := (List.range lens.length).map (codeAt lens)
def wholeL (lens : List Int) : Bool := decide (rooms (fun l => cntL lens l) 15 = 0)
theorem nxt_bd {f : Nat → Int} (hf : ∀ l, 0 ≤ f l ∧ f l ≤ 288) : ∀ l, 0 ≤ nxt f l ∧ nxt f l ≤ 576 * (2 ^ l - 1)
  | 0 => by simp [nxt]
  | l + 1 => by
    have h1 := nxt_bd hf l
    have h2 := hf l
    have hp : (0 : Int) < 2 ^ l := Int.pow_pos (by decide)
    unfold nxt
    rw [Int.pow_succ]
    split <;> omega
theorem codesL_len (lens : List Int) : (codesL lens).length = lens.length := by unfold codesL; rw [List.length_map, List.length_range]
end Go.Proofs.Yteffjbjhkaobfaa.HF
namespace Go.Proofs.Yteffjbjhkaobfaa.HW
open Go.RowKit Go.Proofs.YteffjbjhkaobfaaW.PrintWords Go.Proofs.YteffjbjhkaobfaaW.PrintLast Go.Proofs.YteffjbjhkaobfaaW.PrintMore Go.Proofs.Yteffjbjhkaobfaa.MB

/-- From w to w' only blocks of S were written; more may have been made. -/
structure Fr (S : Nat → Prop) (w w' : World) : Prop where
  os : w'.os = w.os
  tape : w'.tape = w.tape
  output : w'.output = w.output
  size : w.heap.size ≤ w'.heap.size
  block : ∀ k, k < w.heap.size → ¬ S k → w'.heap[k]? = w.heap[k]?
section
variable {S S' : Nat → Prop} {w w1 w2 : World}
theorem Fr.refl (S : Nat → Prop) (w : World) : Fr S w w := ⟨rfl, rfl, rfl, Nat.le_refl _, fun _ _ _ => rfl⟩
theorem Fr.mono (h : Fr S w w1) (hs : ∀ k, k < w.heap.size → S k → S' k) : Fr S' w w1 := ⟨h.os, h.tape, h.output, h.size, fun k hk hn => h.block k hk (fun hk' => hn (hs k hk hk'))⟩
theorem Fr.then_ (h : Fr S w w1) (k : Fr S' w1 w2) (hs : ∀ k, S' k → S k ∨ w.heap.size ≤ k) : Fr S w w2 :=
  ⟨k.os.trans h.os, k.tape.trans h.tape, k.output.trans h.output, Nat.le_trans h.size k.size, fun i hi hn =>
    (k.block i (Nat.lt_of_lt_of_le hi h.size) (fun h2 => (hs i h2).elim hn (fun h3 => by omega))).trans (h.block i hi hn)⟩
theorem Fr.of_below {B : Nat} (h : Below B w w1) : Fr (fun k => B ≤ k) w w1 := ⟨h.os, h.tape, h.output, h.size, fun k hk hn => h.block k (by omega)⟩
theorem Fr.of_below_all (h : Below w.heap.size w w1) (S : Nat → Prop) : Fr S w w1 := ⟨h.os, h.tape, h.output, h.size, fun k hk _ => h.block k hk⟩
theorem Fr.below {B : Nat} (h : Fr S w w1) (hB : B ≤ w.heap.size) (hs : ∀ k, S k → B ≤ k) : Below B w w1 := ⟨h.os, h.tape, h.output, h.size, fun k hk => h.block k (by omega) (fun h2 => by have := hs k h2; omega)⟩
theorem Fr.grown {row : Option Nat} (hg : w1.grownBy w2 row) (h : Fr S w w1) (hr : ∀ k, row = some k → S k ∨ w.heap.size ≤ k) : Fr S w w2 :=
  h.then_ (S' := fun k => row = some k) ⟨hg.os, hg.tape, hg.output, hg.size, fun i hi hn => hg.block i hi (fun he => hn he.symm)⟩ hr
theorem Fr.add (h : Fr S w w1) (k : Below w1.heap.size w1 w2) : Fr S w w2 := h.then_ (Fr.of_below_all k (fun _ => False)) (fun _ hk => hk.elim)
theorem Fr.alloc (h : Fr S w w1) (o : Obj) : Fr S w (w1.alloc o) := h.add (below_alloc (Below.refl _ _) o)
theorem Fr.drew (h : Fr S w w1) : Fr S w w1.drew := ⟨h.os, h.tape, h.output, h.size, h.block⟩
theorem Fr.drewN (h : Fr S w w1) (m : Nat) : Fr S w (w1.drewN m) := ⟨h.os, h.tape, h.output, h.size, h.block⟩
theorem Fr.setCell (h : Fr S w w1) {p : Addr} (hp : S p.block ∨ w.heap.size ≤ p.block) (u : Value) : Fr S w (w1.setCell p u) :=
  h.then_ (S' := fun k => k = p.block) ⟨rfl, rfl, rfl, by simp [World.setCell], fun i _ hn => Below.heap_setCell w1 p u i hn⟩ (fun k hk => by rw [hk]; exact hp)
theorem Fr.blk {g : Nat} {o : Obj} (h : Fr S w w1) (hb : w.heap[g]? = some o) (hn : ¬ S g) : w1.heap[g]? = some o := (h.block g (blk_lt hb) hn).trans hb
theorem Fr.own {base : Nat} {e : TypeId} {size n : Nat} {v : Value} {xs : List Value} (h : Fr S w w1) (ho : w.ownsRow base e size v n xs) (hn : ∀ k, v.ownBlock = some k → ¬ S k) : w1.ownsRow base e size v n xs :=
  own_move ho (fun k hk => h.block k (own_lt ho k hk) (hn k hk))
end

/-- The value's row is the old one's, or a new one. -/
def AtB (w : World) (v v' : Value) : Prop := v'.ownBlock = v.ownBlock ∨ ∃ b, v'.ownBlock = some b ∧ w.heap.size ≤ b
theorem AtB.refl (w : World) (v : Value) : AtB w v v := .inl rfl
theorem AtB.trans {w w1 : World} {v v1 v2 : Value} (h : AtB w v v1) (h2 : AtB w1 v1 v2) (hs : w.heap.size ≤ w1.heap.size) : AtB w v v2 := by
  rcases h2 with e | ⟨b, e, hb⟩
  · rcases h with e' | ⟨b, e', hb⟩
    · exact .inl (e.trans e')
    · exact .inr ⟨b, e.trans e', hb⟩
  · exact .inr ⟨b, e, by omega⟩

/-- Block g: a writer, its row's value, how many bits. -/
def WBlk (W : World) (g : Nat) (is : Bool) (v : Value) (n : Int) : Prop := W.heap[g]? = some (.cells #[.bool is, v, .int .i64 n] 9999 (0, 0))
theorem WBlk.c0 {W : World} {g : Nat} {is : Bool} {v : Value} {n : Int} (h : WBlk W g is v n) : W.cell? ⟨g, 0, none⟩ = some (.bool is) := (blk_cell h 0).trans rfl
theorem WBlk.c1 {W : World} {g : Nat} {is : Bool} {v : Value} {n : Int} (h : WBlk W g is v n) : W.cell? ⟨g, 1, none⟩ = some v := (blk_cell h 1).trans rfl
theorem WBlk.c2 {W : World} {g : Nat} {is : Bool} {v : Value} {n : Int} (h : WBlk W g is v n) : W.cell? ⟨g, 2, none⟩ = some (.int .i64 n) := (blk_cell h 2).trans rfl
theorem WBlk.fz {W : World} {g : Nat} {is : Bool} {v : Value} {n : Int} (h : WBlk W g is v n) (i : Nat) : W.frozen? ⟨g, i, none⟩ = false := blk_frozen h i
theorem WBlk.set1 {W : World} {g : Nat} {is : Bool} {v : Value} {n : Int} (h : WBlk W g is v n) (u : Value) : WBlk (W.setCell ⟨g, 1, none⟩ u) g is u n := by
  unfold WBlk at h ⊢
  simpa using blk_set h 1 u
theorem WBlk.set2 {W : World} {g : Nat} {is : Bool} {v : Value} {n : Int} (h : WBlk W g is v n) (m : Int) : WBlk (W.setCell ⟨g, 2, none⟩ (.int .i64 m)) g is v m := by
  unfold WBlk at h ⊢
  simpa using blk_set h 2 (.int .i64 m)
theorem WBlk.far {W : World} {g : Nat} {is : Bool} {v : Value} {n : Int} (h : WBlk W g is v n) {p : Addr} (hp : g ≠ p.block) (u : Value) : WBlk (W.setCell p u) g is v n := blk_far h hp u
/-- A writer that holds the bits l. -/
def IsW (W : World) (B g : Nat) (v : Value) (l : List Bool) : Prop :=
  WBlk W g true v l.length ∧ B ≤ g ∧ ∃ bs : List Int, W.ownsRow B 5 1 v bs.length (nums .u8 bs) ∧ Packs bs l
theorem IsW.lt {W : World} {B g : Nat} {v : Value} {l : List Bool} (h : IsW W B g v l) : g < W.heap.size := blk_lt h.1
theorem IsW.row_lt {W : World} {B g : Nat} {v : Value} {l : List Bool} (h : IsW W B g v l) (k : Nat) (hk : v.ownBlock = some k) : B ≤ k ∧ k < W.heap.size := by
  obtain ⟨_, _, bs, ho, _⟩ := h
  exact ⟨own_base ho k hk, own_lt ho k hk⟩
theorem IsW.row_ne {W : World} {B g : Nat} {v : Value} {l : List Bool} (h : IsW W B g v l) : v.ownBlock ≠ some g := by
  obtain ⟨hb, _, bs, ho, _⟩ := h
  exact fun he => own_ne ho hb (by decide) he.symm
theorem IsW.keep {W W1 : World} {S : Nat → Prop} {B g : Nat} {v : Value} {l : List Bool} (h : IsW W B g v l) (hf : Fr S W W1) (hg : ¬ S g) (hr : ∀ k, v.ownBlock = some k → ¬ S k) : IsW W1 B g v l := by
  obtain ⟨hb, h1, bs, ho, hp⟩ := h
  exact ⟨hf.blk hb hg, h1, bs, hf.own ho hr, hp⟩
theorem IsW.below {W W1 : World} {B g : Nat} {v : Value} {l : List Bool} (h : IsW W B g v l) (hf : Below W.heap.size W W1) : IsW W1 B g v l :=
  h.keep (Fr.of_below_all hf (fun _ => False)) (fun h => h) (fun _ _ h => h)
/-- What a writer's call may write. -/
def WS (g : Nat) (v : Value) (k : Nat) : Prop := k = g ∨ v.ownBlock = some k

section
variable {P : Program} {w : World}
/-- append(v, s...), s a string: and where the row lies then. -/
theorem run_append_string_at (base : Nat) (t u ty e : TypeId) (i : TypeInfo) (ht : P.underlying t = some (.slice e)) (hu : P.underlying u = some .string) (hi : P.info? e = some i) (hz : i.zero = some (.int .u8 0))
    (hsize : i.size = 1) (hby : i.bytes = 1) (v : Value) (n : Nat) (xs : List Value) (hown : w.ownsRow base e 1 v n xs) (s : ByteArray)
    (h63 : n + s.size ≤ maxLen) (hbytes : n + s.size ≤ 140737488355328) (hbase : base ≤ w.heap.size) :
    ∃ v' w', (Builtin.append_ #[t, u] ty #[v, .string s]).run P w = .ok v' w' ∧ w'.ownsRow base e 1 v' (n + s.size) (xs ++ Lib.strCells s) ∧ w.grownBy w' v.ownBlock ∧ AtB w v v' := by
  rcases hown.2 with ⟨rfl, rfl⟩ | ⟨g, cap, cur, rfl, hbg, hg, hnc, hcm, hcs, htake⟩
  · have hx : xs = [] := List.eq_nil_of_length_eq_zero (by simpa using hown.1)
    subst hx
    obtain ⟨v', w', hr, h2, h3, _⟩ := Lib.run_append_own_string (P := P) w w.heap.size t u ty e i ht hu hi hz hsize hby (.slice none 0 0) 0 [] (own_nil _ _ _ _) s h63 hbytes (Nat.le_refl _)
    refine ⟨v', w', hr, ?_, h3, ?_⟩
    · obtain ⟨a1, a2⟩ := h2
      refine ⟨a1, ?_⟩
      rcases a2 with a2 | ⟨g, cap, cur, e1, e2, r⟩
      · exact .inl a2
      · exact .inr ⟨g, cap, cur, e1, by omega, r⟩
    · cases hb : v'.ownBlock with
      | none => exact .inl (by rw [hb]; rfl)
      | some b => exact .inr ⟨b, hb, own_base h2 b hb⟩
  · obtain ⟨v', w', hr, h2, h3, _⟩ := Lib.run_append_own_string (P := P) w base t u ty e i ht hu hi hz hsize hby _ n xs hown s h63 hbytes hbase
    refine ⟨v', w', hr, h2, h3, ?_⟩
    have hxl : xs.length = n := by simpa using hown.1
    by_cases hroom : n + s.size ≤ cap
    · have hcs' : cur.size = cap := by simpa using hcs
      have hr2 := Lib.run_append_room_string (P := P) w t u ty e i ht hu hi hsize g n cap cur hg s hroom (by omega)
      rw [hr2] at hr
      injection hr with hv _
      exact .inl (by rw [← hv]; rfl)
    · have holds : ∀ j u, xs[j]? = some u → w.cell? ((⟨g, 0, none⟩ : Addr).add j) = some u := hown.cells (g := g) rfl
      have h63' : n + s.size ≤ 9223372036854775807 := h63
      have hr2 := Lib.run_append_grow_string (P := P) w t u ty e i (.int .u8 0) ht hu hi hz ⟨g, 0, none⟩ n cap xs (by rw [hsize]; simpa using hxl) holds s (by omega) (by omega) (by rw [hby]; exact growslice_fits (by omega) (by omega))
      rw [hr2] at hr
      injection hr with hv _
      exact .inr ⟨w.heap.size, by rw [← hv]; rfl, Nat.le_refl _⟩
theorem app_str {ops : Array Oper} {rest : List Oper} {o : Oper} {a : Act} {Q : Exit → Act → World → Prop} (base : Nat) (hgd : o.guard = none) (sl x : Operand) (t u e : TypeId)
    (ho : o.op = .call { callee := .builtin .append, args := #[sl, x], argTypes := #[t, u] })
    (ht : P.underlying t = some (.slice e)) (hu : P.underlying u = some .string) (hinfo : (P.info? e).map (fun i => (i.zero, i.size, i.bytes)) = some (some (.int .u8 0), 1, 1))
    (v : Value) (xs : List Int) (s : ByteArray) (hs : a.eval sl = v) (hx : a.eval x = .string s) (hown : w.ownsRow base e 1 v xs.length (nums .u8 xs)) (hbase : base ≤ w.heap.size) (hl : xs.length + s.size ≤ 140737488355328)
    (h : ∀ v1 w1, w1.ownsRow base e 1 v1 (xs ++ bytesOf s).length (nums .u8 (xs ++ bytesOf s)) → w.grownBy w1 v.ownBlock → AtB w v v1 → wpList P ops Q rest (a.put o.dst v1) w1) : wpList P ops Q (o :: rest) a w := by
  obtain ⟨i0, hi, hzz⟩ := Option.map_eq_some_iff.1 hinfo
  simp only [Prod.mk.injEq] at hzz
  obtain ⟨hz0, hz1, hz2⟩ := hzz
  refine wpList_plain hgd fun K hK => ?_
  obtain ⟨v', w', hr, h2, h3, h4⟩ := run_append_string_at (P := P) base t u o.type e i0 ht hu hi hz0 hz1 hz2 v xs.length (nums .u8 xs) hown s (by simp only [maxLen]; omega) hl hbase
  unfold Oper.wp execOp
  simp only [ho, resolve, invoke, builtin, Sem.run_bind, Sem.run_pure, Result.andThen_ok, List.map_toArray, List.map_cons, List.map_nil, hs, hx, hr]
  have hl2 : (xs ++ bytesOf s).length = xs.length + s.size := by rw [List.length_append, bytesOf_length]
  have hc : nums .u8 (xs ++ bytesOf s) = nums .u8 xs ++ Lib.strCells s := by
    rw [nums_append]
    congr 1
    simp [nums, bytesOf, Lib.strCells]
  exact hK _ _ (h v' w' (by rw [hl2, hc]; exact h2) h3 h4)
end
end Go.Proofs.Yteffjbjhkaobfaa.HW
namespace Go.Proofs.Yteffjbjhkaobfaa.HW
open Go.RowKit Go.Proofs.YteffjbjhkaobfaaW.PrintWords Go.Proofs.YteffjbjhkaobfaaW.PrintLast Go.Proofs.YteffjbjhkaobfaaW.PrintMore Go.Proofs.Yteffjbjhkaobfaa.MB
theorem setCells_blk {e g : Nat} : ∀ (seg : List Value) (o : Nat) (w : World) (cur : Array Value), w.heap[g]? = some (.cells cur e (0, 0)) → ∃ cur' : Array Value, (w.setCells g o seg).heap[g]? = some (.cells cur' e (0, 0)) ∧ cur'.size = cur.size ∧ ∀ i, cur'[i]? = if o ≤ i ∧ i < o + seg.length ∧ i < cur.size then seg[i - o]? else cur[i]?
  | [], o, w, cur, h => ⟨cur, h, rfl, fun i => by rw [if_neg (by simp; omega)]⟩
  | v :: r, o, w, cur, h => by
    obtain ⟨c', h1, h2, h3⟩ := setCells_blk r (o + 1) (w.setCell ⟨g, o, none⟩ v) (cur.setIfInBounds o v) (blk_set h o v)
    refine ⟨c', h1, by rw [h2]; simp, fun i => ?_⟩
    rw [h3 i, Array.getElem?_setIfInBounds]
    have e0 : (cur.setIfInBounds o v).size = cur.size := by simp
    rw [e0]
    simp only [List.length_cons]
    by_cases h5 : o = i
    · subst h5
      rw [if_neg (by omega), if_pos rfl]
      by_cases h6 : o < cur.size
      · rw [if_pos h6, if_pos ⟨Nat.le_refl _, by omega, h6⟩]; simp
      · rw [if_neg h6, if_neg (by omega), Array.getElem?_eq_none (by omega)]
    · rw [if_neg h5]
      by_cases h4 : o + 1 ≤ i ∧ i < o + 1 + r.length ∧ i < cur.size
      · rw [if_pos h4, if_pos (by omega), show i - o = (i - (o + 1)) + 1 from by omega, List.getElem?_cons_succ]
      · rw [if_neg h4, if_neg (by omega)]
theorem setCells_all {e g : Nat} {w : World} {cur cs : Array Value} (h : w.heap[g]? = some (.cells cur e (0, 0))) (hs : cur.size = cs.size) : (w.setCells g 0 cs.toList).heap[g]? = some (.cells cs e (0, 0)) := by
  obtain ⟨c', h1, h2, h3⟩ := setCells_blk cs.toList 0 w cur h
  rw [h1]
  congr 2
  refine Array.ext_getElem? fun i => ?_
  rw [h3 i]
  by_cases hi : i < cur.size
  · rw [if_pos ⟨Nat.zero_le _, by simp; omega, hi⟩]; simp
  · rw [if_neg (by omega), Array.getElem?_eq_none (by omega), Array.getElem?_eq_none (by omega)]
theorem setCells_fr {g : Nat} (seg : List Value) (o : Nat) (w : World) : Fr (fun k => k = g) w (w.setCells g o seg) := by
  induction seg generalizing o w with
  | nil => exact Fr.refl _ _
  | cons v r ih => exact (((Fr.refl (fun k => k = g) w).setCell (p := ⟨g, o, none⟩) (Or.inl rfl) v).then_ (ih (o + 1) _) (fun k hk => Or.inl hk))
section
variable {P : Program} {ops : Array Oper} {rest : List Oper} {o : Oper} {a : Act} {Q : Exit → Act → World → Prop}
theorem store_all {W : World} (hgd : o.guard = none) {t : TypeId} {p : Tmp} {v : Operand} (ho : o.op = .store t (.tmp p) v) (hN : o.dst = none) (g : Nat) (cs cs' : Array Value) (ty : TypeId)
    (hx : a.eval (.tmp p) = .pointer (some ⟨g, 0, none⟩)) (hv : a.eval v = .agg cs') (hg : W.heap[g]? = some (.cells cs ty (0, 0))) (hs : cs.size = cs'.size) (hi : (P.info? t).map (·.size) = some cs'.size) (h1 : ∀ q ∈ cs'.toList, q.oneCell' = true)
    (h : ∀ w1, w1.heap[g]? = some (.cells cs' ty (0, 0)) → Fr (fun k => k = g) W w1 → wpList P ops Q rest a w1) : wpList P ops Q (o :: rest) a W := by
  refine store_event hgd ho hN (w1 := W.setCells g 0 cs'.toList) ?_ (fun w' hw' => by subst hw'; exact h _ (setCells_all hg hs) (setCells_fr _ _ _))
  have hr := run_store_run (P := P) (w := W) t (.agg cs') cs'.toList hg (o := 0) (by rfl) (by rw [hi]; simp) (by simp; omega) h1
  simp only [execOp, ho, hx, hv, Sem.run_bind, hr, Result.andThen_ok, Sem.run_pure]
theorem load_all {W : World} (hgd : o.guard = none) {t : TypeId} {x : Operand} (ho : o.op = .load t x) (g : Nat) (hx : a.eval x = .pointer (some ⟨g, 0, none⟩)) (ty : TypeId) (cs : Array Value) (d : TypeDesc) (hg : W.heap[g]? = some (.cells cs ty (0, 0)))
    (hu : P.underlying t = some d) (hd : (match d with | .struct _ | .array _ _ => true | _ => false) = true) (hi : (P.info? t).map (·.size) = some cs.size) (h : wpList P ops Q rest (a.put o.dst (.agg cs)) W) : wpList P ops Q (o :: rest) a W :=
  wpList_load_row hgd t x ho g hx ty cs (0, 0) d hg hu hd hi h
theorem gate_load {W : World} {t : TypeId} {x : Operand} (_ho : o.op = .load t x) (h : wpList P ops Q (o :: rest) a W) : wpList P ops Q (o :: rest) a W := h
end
end Go.Proofs.Yteffjbjhkaobfaa.HW
namespace Go.Proofs.Yteffjbjhkaobfaa.HF
open Go.RowKit Go.Proofs.YteffjbjhkaobfaaW.PrintWords Go.Proofs.YteffjbjhkaobfaaW.PrintLast Go.Proofs.YteffjbjhkaobfaaW.PrintMore Go.Proofs.Yteffjbjhkaobfaa.HW Go.Proofs.Yteffjbjhkaobfaa.MB
def arrV (f : Nat → Int) : Array Value := ((List.range 16).map (fun i => Value.int .i64 (f i))).toArray
theorem arrV_size (f : Nat → Int) : (arrV f).size = 16 := by unfold arrV; simp
theorem arrV_get (f : Nat → Int) (k : Nat) (h : k < 16) : (arrV f)[k]? = some (.int .i64 (f k)) := by
  unfold arrV
  rw [List.getElem?_toArray, List.getElem?_map, List.getElem?_range h]
  rfl
theorem arrV_one (f : Nat → Int) : ∀ q ∈ (arrV f).toList, q.oneCell' = true := by
  intro q hq
  unfold arrV at hq
  rw [List.toList_toArray] at hq
  obtain ⟨i, _, rfl⟩ := List.mem_map.1 hq
  rfl
theorem arrV_congr {f f' : Nat → Int} (h : ∀ k, k < 16 → f k = f' k) : arrV f = arrV f' := by
  unfold arrV
  congr 1
  refine List.map_congr_left (fun i hi => ?_)
  rw [h i (List.mem_range.1 hi)]
theorem arrV_zero : arrV (fun _ => 0) = #[.int .i64 0, .int .i64 0, .int .i64 0, .int .i64 0, .int .i64 0, .int .i64 0, .int .i64 0, .int .i64 0, .int .i64 0, .int .i64 0, .int .i64 0, .int .i64 0, .int .i64 0, .int .i64 0, .int .i64 0, .int .i64 0] := rfl
def upd (f : Nat → Int) (k : Nat) (v : Int) : Nat → Int := fun i => if i = k then v else f i
theorem arrV_set (f : Nat → Int) (k : Nat) (v : Int) : (arrV f).setIfInBounds k (.int .i64 v) = arrV (upd f k v) := by
  refine Array.ext_getElem? fun i => ?_
  rw [Array.getElem?_setIfInBounds, arrV_size]
  by_cases hi : i < 16
  · rw [arrV_get f i hi, arrV_get (upd f k v) i hi]
    by_cases hk : k = i
    · subst hk; rw [if_pos rfl, if_pos hi]; unfold upd; rw [if_pos rfl]
    · rw [if_neg hk]; unfold upd; rw [if_neg (fun e => hk e.symm)]
  · rw [Array.getElem?_eq_none (by rw [arrV_size]; omega), Array.getElem?_eq_none (by rw [arrV_size]; omega)]
    split
    · split
      · omega
      · rfl
    · rfl
/-- Block g is an array. -/
def IsArr (W : World) (g : Nat) (f : Nat → Int) : Prop := W.heap[g]? = some (.cells (arrV f) 98 (0, 0))
theorem IsArr.cell {W : World} {g : Nat} {f : Nat → Int} (h : IsArr W g f) (k : Nat) (hk : k < 16) : W.cell? ⟨g, k, none⟩ = some (.int .i64 (f k)) := (blk_cell h k).trans (arrV_get f k hk)
theorem IsArr.frozen {W : World} {g : Nat} {f : Nat → Int} (h : IsArr W g f) (k : Nat) : W.frozen? ⟨g, k, none⟩ = false := blk_frozen h k
theorem IsArr.set {W : World} {g : Nat} {f : Nat → Int} (h : IsArr W g f) (k : Nat) (v : Int) : IsArr (W.setCell ⟨g, k, none⟩ (.int .i64 v)) g (upd f k v) := by
  unfold IsArr
  rw [blk_set h k, arrV_set]
theorem IsArr.below {W W' : World} {g : Nat} {f : Nat → Int} (h : IsArr W g f) (hb : Below W.heap.size W W') : IsArr W' g f := (hb.block _ (blk_lt h)).trans h
theorem IsArr.keep {S : Nat → Prop} {W W' : World} {g : Nat} {f : Nat → Int} (h : IsArr W g f) (hf : Fr S W W') (hn : ¬ S g) : IsArr W' g f := hf.blk h hn
theorem IsArr.congr {W : World} {g : Nat} {f f' : Nat → Int} (h : IsArr W g f) (e : ∀ k, k < 16 → f k = f' k) : IsArr W g f' := by unfold IsArr at h ⊢; rw [← arrV_congr e]; exact h
theorem IsArr.new (w : World) : IsArr (w.alloc (.cells #[.int .i64 0, .int .i64 0, .int .i64 0, .int .i64 0, .int .i64 0, .int .i64 0, .int .i64 0, .int .i64 0, .int .i64 0, .int .i64 0, .int .i64 0, .int .i64 0, .int .i64 0, .int .i64 0, .int .i64 0, .int .i64 0] 98)) w.heap.size (fun _ => 0) := by
  unfold IsArr
  rw [arrV_zero]
  exact heap_alloc_new w _
end Go.Proofs.Yteffjbjhkaobfaa.HF
namespace Go.Proofs.Yteffjbjhkaobfaa.HF
open Go.RowKit Go.Proofs.YteffjbjhkaobfaaW.PrintWords Go.Proofs.YteffjbjhkaobfaaW.PrintLast Go.Proofs.YteffjbjhkaobfaaW.PrintMore Go.Proofs.Yteffjbjhkaobfaa.HW Go.Proofs.Yteffjbjhkaobfaa.MB
attribute [local go_sem] max2_int min2_int max_two min_two max_three min_three max_four min_four   -- for this text's walks alone
def cA (lens : List Int) (k : Nat) : Int := if k = 0 then rooms (fun l => cntL lens l) 15 else cntL lens k
/-- What counts tells. -/
def CQ (lens : List Int) (W : World) (e : Ending) (w' : World) : Prop := ∃ f, e = .returned (.tuple #[.agg (arrV f), .bool (okL lens)]) ∧ (okL lens = true → ∀ k, k < 16 → f k = cA lens k) ∧ Below W.heap.size W w'
theorem okL_long {lens : List Int} (h : 288 < lens.length) : okL lens = false := by unfold okL; simp; omega
theorem okL_bad {lens : List Int} (i : Nat) (hi : i < lens.length) (h : lenOk lens[i] = false) : okL lens = false := by
  unfold okL
  have h1 : lens.all lenOk = false := List.all_eq_false.2 ⟨lens[i], List.getElem_mem hi, by rw [h]; decide⟩
  rw [h1]
  simp
theorem okL_room {lens : List Int} (j : Nat) (hj : j ≤ 15) (h : rooms (fun l => cntL lens l) j < 0) : okL lens = false := by
  unfold okL
  have := rooms_neg (fun l => (cntL_nn lens l).1) h 15 hj
  rw [decide_eq_false (p := 0 ≤ rooms _ 15) (by omega)]
  simp
theorem okL_all {lens : List Int} (h1 : lens.length ≤ 288) (h2 : ∀ x ∈ lens, lenOk x = true) (h3 : 0 ≤ rooms (fun l => cntL lens l) 15) : okL lens = true := by
  unfold okL
  rw [decide_eq_true h1, decide_eq_true h3, List.all_eq_true.2 h2]
  rfl
theorem take_rd (xs : List Int) (i : Nat) (h : i < xs.length) : xs.take (i + 1) = xs.take i ++ [rd xs (i : Int)] := by
  rw [List.take_add_one, List.getElem?_eq_getElem h]
  have : rd xs (i : Int) = xs[i] := by unfold rd; rw [Int.toNat_natCast, List.getD_eq_getElem?_getD, List.getElem?_eq_getElem h]; rfl
  rw [this]; rfl
theorem rd_get (xs : List Int) (i : Nat) (h : i < xs.length) : rd xs (i : Int) = xs[i] := by unfold rd; rw [Int.toNat_natCast, List.getD_eq_getElem?_getD, List.getElem?_eq_getElem h]; rfl
theorem cA_last (lens : List Int) (r : Int) (h : rooms (fun l => cntL lens l) 15 = r) (k : Nat) : upd (upd (fun l => cntL lens l) 0 0) 0 r k = cA lens k := by
  unfold upd cA
  by_cases h0 : k = 0
  · rw [if_pos h0, if_pos h0, h]
  · rw [if_neg h0, if_neg h0, if_neg h0]
def zA : Array Value := #[.int .i64 0, .int .i64 0, .int .i64 0, .int .i64 0, .int .i64 0, .int .i64 0, .int .i64 0, .int .i64 0, .int .i64 0, .int .i64 0, .int .i64 0, .int .i64 0, .int .i64 0, .int .i64 0, .int .i64 0, .int .i64 0]
/-- The state of counts. -/
structure CS (W w : World) (g : Nat) (f : Nat → Int) : Prop where
  be : Below W.heap.size W w
  gg : W.heap.size = g
  re : IsArr w g (fun _ => 0)
  ar : IsArr w (g + 1) f
theorem CS.set {W w : World} {g : Nat} {f : Nat → Int} (h : CS W w g f) (k : Nat) (v : Int) : CS W (w.setCell ⟨g + 1, k, none⟩ (.int .i64 v)) g (upd f k v) :=
  ⟨h.be.setCell (by show W.heap.size ≤ g + 1; rw [h.gg]; omega) _, h.gg, (Below.heap_setCell _ _ _ _ (by show g ≠ g + 1; omega)).trans h.re, h.ar.set k v⟩
theorem CS.congr {W w : World} {g : Nat} {f f' : Nat → Int} (h : CS W w g f) (e : ∀ k, k < 16 → f k = f' k) : CS W w g f' := ⟨h.be, h.gg, h.re, h.ar.congr e⟩
set_option maxRecDepth 100000 in
set_option maxHeartbeats 8000000 in
theorem counts_any (A : Option Addr) (c : Nat) (lens : List Int) (W : World) (hr : Kd.C (Kd.int .i64) W A lens.length lens) (_hc : lens.length ≤ c) : Calls Try.prog 64 #[.slice A lens.length c] W (CQ lens W) := by
  have hu := Try.underlying98
  have HR := Aside0.mk hr
  clear hr _hc
  go_enter Try.func64, Try.ntmps64
  go_upto_region 2 with (fail)
  have e1 : (W.alloc (.cells #[.int .i64 0, .int .i64 0, .int .i64 0, .int .i64 0, .int .i64 0, .int .i64 0, .int .i64 0, .int .i64 0, .int .i64 0, .int .i64 0, .int .i64 0, .int .i64 0, .int .i64 0, .int .i64 0, .int .i64 0, .int .i64 0] 98)).heap.size = W.heap.size + 1 := Array.size_push _
  have k0 := IsArr.new W
  have hb := below_alloc (Below.refl (W.alloc (.cells #[.int .i64 0, .int .i64 0, .int .i64 0, .int .i64 0, .int .i64 0, .int .i64 0, .int .i64 0, .int .i64 0, .int .i64 0, .int .i64 0, .int .i64 0, .int .i64 0, .int .i64 0, .int .i64 0, .int .i64 0, .int .i64 0] 98)).heap.size (W.alloc (.cells #[.int .i64 0, .int .i64 0, .int .i64 0, .int .i64 0, .int .i64 0, .int .i64 0, .int .i64 0, .int .i64 0, .int .i64 0, .int .i64 0, .int .i64 0, .int .i64 0, .int .i64 0, .int .i64 0, .int .i64 0, .int .i64 0] 98))) (.cells #[.int .i64 0, .int .i64 0, .int .i64 0, .int .i64 0, .int .i64 0, .int .i64 0, .int .i64 0, .int .i64 0, .int .i64 0, .int .i64 0, .int .i64 0, .int .i64 0, .int .i64 0, .int .i64 0, .int .i64 0, .int .i64 0] 98)
  have k1 := IsArr.new (W.alloc (.cells #[.int .i64 0, .int .i64 0, .int .i64 0, .int .i64 0, .int .i64 0, .int .i64 0, .int .i64 0, .int .i64 0, .int .i64 0, .int .i64 0, .int .i64 0, .int .i64 0, .int .i64 0, .int .i64 0, .int .i64 0, .int .i64 0] 98))
  rw [e1] at k1
  have k0' := k0.below hb
  have hB := (below_alloc (Below.refl W.heap.size W) (.cells #[.int .i64 0, .int .i64 0, .int .i64 0, .int .i64 0, .int .i64 0, .int .i64 0, .int .i64 0, .int .i64 0, .int .i64 0, .int .i64 0, .int .i64 0, .int .i64 0, .int .i64 0, .int .i64 0, .int .i64 0, .int .i64 0] 98)).trans (hb.mono (by rw [e1]; omega))
  obtain ⟨g, hg⟩ : ∃ g, W.heap.size = g := ⟨_, rfl⟩
  rw [hg] at k0' k1 hB
  have HS := Aside0.mk (CS.mk (f := fun _ => 0) (by rw [hg]; exact hB) hg k0' k1)
  rw [hg]
  clear e1 k0 hb k1 k0' hB hg
  generalize (W.alloc (.cells #[.int .i64 0, .int .i64 0, .int .i64 0, .int .i64 0, .int .i64 0, .int .i64 0, .int .i64 0, .int .i64 0, .int .i64 0, .int .i64 0, .int .i64 0, .int .i64 0, .int .i64 0, .int .i64 0, .int .i64 0, .int .i64 0] 98)).alloc (.cells #[.int .i64 0, .int .i64 0, .int .i64 0, .int .i64 0, .int .i64 0, .int .i64 0, .int .i64 0, .int .i64 0, .int .i64 0, .int .i64 0, .int .i64 0, .int .i64 0, .int .i64 0, .int .i64 0, .int .i64 0, .int .i64 0] 98) = w1 at HS ⊢
  by_cases hlen : 288 < lens.length
  · have hb0 : decide (288 < (lens.length : Int)) = true := by simp; omega
    have HO := Aside0.mk (okL_long hlen)
    clear hlen
    go_wp2_with (first | (refine load_all rfl rfl (g + 1) rfl 98 (arrV (fun _ => 0)) _ HS.out.ar Try.underlying98 rfl (by rw [arrV_size]; kernel_rfl) ?_) | ((with_reducible refine gate_store (t := 98) (p := 2) (v := .tmp 13) rfl ?_); go_must (refine store_all rfl rfl rfl g (arrV (fun _ => 0)) (arrV (fun _ => 0)) 98 (by rfl) (by rfl) HS.out.re ((arrV_size _).trans (arrV_size _).symm) (by rw [arrV_size]; kernel_rfl) (arrV_one _) ?_); intro w9 hr1 hf6; have HR1 := Aside0.mk hr1; have HF6 := Aside0.mk hf6; clear hr1 hf6))
    refine bodyPost_ret (results_ct rfl _ _ g 98 (arrV (fun _ => 0)) (0, 0) _ rfl HR1.out Try.underlying98 rfl (by rw [arrV_size]; kernel_rfl)) rfl ?_
    exact ⟨_, (by rw [HO.out]; rfl), (fun h => absurd ((HO.out).symm.trans h) (by decide)), HS.out.be.trans (HF6.out.below HS.out.be.size (fun k hk => by rw [hk, HS.out.gg]; exact Nat.le_refl _))⟩
  · have hb0 : decide (288 < (lens.length : Int)) = false := by simp; omega
    have hl288 : lens.length ≤ 288 := by omega
    clear hlen
    go_wp2_with fail
    go_loopw [16] (fun v16 wr => ∃ k : Nat, v16 = .int .i64 k ∧ k ≤ lens.length ∧ Aside0 (CS W wr g (fun l => cntL (lens.take k) l)) ∧ Aside0 (∀ x ∈ lens.take k, lenOk x = true)) (fun v16 _ => lens.length - (intOf v16).toNat)
    case atStart => exact ⟨0, rfl, Nat.zero_le _, HS, ⟨by simp⟩⟩
    case round =>
      clear HS
      obtain ⟨k, rfl, hk, HS, HK⟩ := hrel
      by_cases hlt : k < lens.length
      · have hb1 : decide ((k : Int) < (lens.length : Int)) = true := by simp; omega
        obtain ⟨ad1, hA1, x0⟩ := Kd.at_int (Kd.C_below HR.out HS.out.be) (k : Int) (by omega) (by omega)
        subst hA1
        simp only [Int.toNat_natCast] at x0
        have htk := take_rd lens k hlt
        have hgt := rd_get lens k hlt
        obtain ⟨x, hx⟩ : ∃ x, rd lens (k : Int) = x := ⟨_, rfl⟩
        rw [hx] at x0 htk hgt
        have HTK := Aside0.mk htk
        have q1 : (0 : Int) ≤ (k : Int) := by omega
        have q2 : (k : Int) < (lens.length : Int) := by omega
        have HI := Aside0.mk hlt
        by_cases hx0 : 0 ≤ x ∧ x ≤ 15
        · obtain ⟨m, rfl⟩ : ∃ m : Nat, x = m := ⟨x.toNat, by omega⟩
          have hm : m < 16 := by omega
          have c0 := HS.out.ar.cell m hm
          have f0 := HS.out.ar.frozen m
          have r1 : (0 : Int) ≤ (m : Int) := by omega
          have r2 : (m : Int) < 16 := by omega
          have r3 : decide ((m : Int) < 0) = false := by simp
          have r4 : decide (15 < (m : Int)) = false := by simp; omega
          obtain ⟨cn, hcn⟩ : ∃ z, cntL (lens.take k) (m : Int) = z := ⟨_, rfl⟩
          have hcb := cntL_nn (lens.take k) (m : Int)
          rw [hcn] at hcb
          have hcb2 : cn ≤ 288 := by have : (lens.take k).length ≤ k := List.length_take_le _ _; omega
          have hcb1 := hcb.1
          have HCN := Aside0.mk hcn
          have HKN := Aside0.mk (show ∀ x ∈ lens.take (k + 1), lenOk x = true from fun x hx => by
            rw [HTK.out] at hx
            rcases List.mem_append.1 hx with h | h
            · exact HK.out x h
            · rw [List.mem_singleton.1 h]; unfold lenOk; simp; omega)
          rw [hcn] at c0
          clear hx hgt htk hlt hx0 hcn hcb
          have c1 : wr.cell? ⟨g + 1, m, none⟩ = some (.int .i64 cn) := c0
          clear c0
          go_wp2_with fail
          have HS2 := Aside0.mk ((HS.out.set m (cn + 1)).congr (f' := fun l => cntL (lens.take (k + 1)) l) (fun j hj => by
            rw [HTK.out, cntL_snoc]
            unfold upd
            by_cases hjm : j = m
            · subst hjm; rw [if_pos rfl, if_pos rfl, HCN.out]
            · rw [if_neg hjm, if_neg (show ¬ (m : Int) = (j : Int) by omega)]; exact (Int.add_zero _).symm))
          go_roundw
          case rel => exact ⟨k + 1, by simp, HI.out, HS2, HKN⟩
          case measure => simp [intOf]; have := HI.out; omega
        · have HO := Aside0.mk (okL_bad k hlt (by rw [← hgt]; unfold lenOk; exact decide_eq_false hx0))
          clear hgt htk hlt hx
          by_cases hn : x < 0
          · have r3 : decide (x < 0) = true := by simpa using hn
            clear hx0 hn
            go_wp2_with (first | (refine load_all rfl rfl (g + 1) rfl 98 (arrV (fun l => cntL (lens.take k) l)) _ HS.out.ar Try.underlying98 rfl (by rw [arrV_size]; kernel_rfl) ?_) | ((with_reducible refine gate_store (t := 98) (p := 2) (v := .tmp 26) rfl ?_); go_must (refine store_all rfl rfl rfl g (arrV (fun _ => 0)) (arrV (fun l => cntL (lens.take k) l)) 98 (by rfl) (by rfl) HS.out.re ((arrV_size _).trans (arrV_size _).symm) (by rw [arrV_size]; kernel_rfl) (arrV_one _) ?_); intro w9 hr1 hf6; have HR1 := Aside0.mk hr1; have HF6 := Aside0.mk hf6; clear hr1 hf6))
            refine bodyPost_ret (results_ct rfl _ _ g 98 (arrV (fun l => cntL (lens.take k) l)) (0, 0) _ rfl HR1.out Try.underlying98 rfl (by rw [arrV_size]; kernel_rfl)) rfl ?_
            exact ⟨_, (by rw [HO.out]; rfl), (fun h => absurd ((HO.out).symm.trans h) (by decide)), HS.out.be.trans (HF6.out.below HS.out.be.size (fun k hk => by rw [hk, HS.out.gg]; exact Nat.le_refl _))⟩
          · have r3 : decide (x < 0) = false := by simp; omega
            have r4 : decide (15 < x) = true := by simp; omega
            clear hx0 hn
            go_wp2_with (first | (refine load_all rfl rfl (g + 1) rfl 98 (arrV (fun l => cntL (lens.take k) l)) _ HS.out.ar Try.underlying98 rfl (by rw [arrV_size]; kernel_rfl) ?_) | ((with_reducible refine gate_store (t := 98) (p := 2) (v := .tmp 26) rfl ?_); go_must (refine store_all rfl rfl rfl g (arrV (fun _ => 0)) (arrV (fun l => cntL (lens.take k) l)) 98 (by rfl) (by rfl) HS.out.re ((arrV_size _).trans (arrV_size _).symm) (by rw [arrV_size]; kernel_rfl) (arrV_one _) ?_); intro w9 hr1 hf6; have HR1 := Aside0.mk hr1; have HF6 := Aside0.mk hf6; clear hr1 hf6))
            refine bodyPost_ret (results_ct rfl _ _ g 98 (arrV (fun l => cntL (lens.take k) l)) (0, 0) _ rfl HR1.out Try.underlying98 rfl (by rw [arrV_size]; kernel_rfl)) rfl ?_
            exact ⟨_, (by rw [HO.out]; rfl), (fun h => absurd ((HO.out).symm.trans h) (by decide)), HS.out.be.trans (HF6.out.below HS.out.be.size (fun k hk => by rw [hk, HS.out.gg]; exact Nat.le_refl _))⟩
      · have hke : k = lens.length := by omega
        subst hke
        have hb1 : decide ((lens.length : Int) < (lens.length : Int)) = false := by simp
        have HALL := Aside0.mk (show ∀ x ∈ lens, lenOk x = true from fun x hx => HK.out x (by rw [List.take_length]; exact hx))
        have hS0 := HS.out
        rw [List.take_length] at hS0
        have f0 := hS0.ar.frozen 0
        have c0 := hS0.ar.cell 0 (by decide)
        have HS1 := Aside0.mk (hS0.set 0 0)
        clear hlt hS0 HS HK
        go_upto_region 13 with (fail)
        generalize wr.setCell ⟨g + 1, 0, none⟩ (.int .i64 0) = w2 at HS1 ⊢
        clear f0 c0
        go_wp2_with fail
        go_loopw [7, 36] (fun v7 v36 wr => ∃ j : Nat, v36 = .int .i64 j ∧ j ≤ 15 ∧ v7 = .int .i64 (rooms (fun l => cntL lens l) j) ∧ 0 ≤ rooms (fun l => cntL lens l) j ∧ Aside0 (wr = w2)) (fun v7 v36 _ => 15 - (intOf v36).toNat)
        case atStart => exact ⟨0, rfl, by omega, rfl, by show (0 : Int) ≤ 1; decide, ⟨rfl⟩⟩
        case round =>
          obtain ⟨j, rfl, hj, rfl, hr0, HWE⟩ := hrel
          have hwe := HWE.out
          subst hwe
          clear HWE
          have hrl := rooms_le (f := fun l => cntL lens l) (fun l => (cntL_nn lens l).1) j
          have hrp : (2 : Int) ^ j ≤ 32768 := by
            have := Nat.pow_le_pow_right (n := 2) (by decide) hj
            have h2 : ((2 ^ j : Nat) : Int) ≤ 32768 := by exact_mod_cast this
            simpa using h2
          have hrs : rooms (fun l => cntL lens l) (j + 1) = 2 * rooms (fun l => cntL lens l) j - cntL lens ((j + 1 : Nat) : Int) := rfl
          obtain ⟨r, hr⟩ : ∃ r, rooms (fun l => cntL lens l) j = r := ⟨_, rfl⟩
          rw [hr] at hr0 hrl hrs ⊢
          have hr1 : r ≤ 32768 := by omega
          have HRR := Aside0.mk hr
          clear hr hrl hrp
          by_cases hlt : j < 15
          · have hb4 : decide ((j : Int) < 15) = true := by simp; omega
            have cj := HS1.out.ar.cell (j + 1) (by omega)
            have hu0 : upd (fun l => cntL lens l) 0 0 (j + 1) = cntL lens ((j + 1 : Nat) : Int) := by unfold upd; rw [if_neg (by omega)]
            rw [hu0] at cj
            have hcb := cntL_nn lens ((j + 1 : Nat) : Int)
            obtain ⟨cn, hcn⟩ : ∃ z, cntL lens ((j + 1 : Nat) : Int) = z := ⟨_, rfl⟩
            rw [hcn] at cj hcb hrs
            have hc1 := hcb.1
            have hc2 : cn ≤ 288 := by omega
            have q1 : (0 : Int) ≤ (j : Int) := by omega
            have q2 : (j : Int) < 15 := by omega
            have HRS := Aside0.mk hrs
            have HI := Aside0.mk hlt
            have cj' : wr.cell? ⟨g + 1, 1 + j, none⟩ = some (.int .i64 cn) := by rw [Nat.add_comm 1 j]; exact cj
            clear hcn hcb hrs hlt hu0
            by_cases hneg : 2 * r - cn < 0
            · have r5 : decide (2 * r - cn < 0) = true := by simpa using hneg
              have HO := Aside0.mk (okL_room (lens := lens) (j + 1) (by omega) (by rw [HRS.out]; exact hneg))
              clear hneg
              go_wp2_with (first | (refine load_all rfl rfl (g + 1) rfl 98 (arrV (upd (fun l => cntL lens l) 0 0)) _ HS1.out.ar Try.underlying98 rfl (by rw [arrV_size]; kernel_rfl) ?_) | ((with_reducible refine gate_store (t := 98) (p := 2) (v := .tmp 46) rfl ?_); go_must (refine store_all rfl rfl rfl g (arrV (fun _ => 0)) (arrV (upd (fun l => cntL lens l) 0 0)) 98 (by rfl) (by rfl) HS1.out.re ((arrV_size _).trans (arrV_size _).symm) (by rw [arrV_size]; kernel_rfl) (arrV_one _) ?_); intro w9 hr1 hf6; have HR1 := Aside0.mk hr1; have HF6 := Aside0.mk hf6; clear hr1 hf6))
              refine bodyPost_ret (results_ct rfl _ _ g 98 (arrV (upd (fun l => cntL lens l) 0 0)) (0, 0) _ rfl HR1.out Try.underlying98 rfl (by rw [arrV_size]; kernel_rfl)) rfl ?_
              exact ⟨_, (by rw [HO.out]; rfl), (fun h => absurd ((HO.out).symm.trans h) (by decide)), HS1.out.be.trans (HF6.out.below HS1.out.be.size (fun k hk => by rw [hk, HS1.out.gg]; exact Nat.le_refl _))⟩
            · have r5 : decide (2 * r - cn < 0) = false := by simpa using hneg
              have HN := Aside0.mk (show 0 ≤ 2 * r - cn by omega)
              clear hneg
              go_wp2_with fail
              go_roundw
              case rel => exact ⟨j + 1, by simp, HI.out, by rw [HRS.out], by rw [HRS.out]; exact HN.out, ⟨by first | rfl | trivial⟩⟩
              case measure => simp [intOf]; omega
          · have hje : j = 15 := by omega
            subst hje
            have hb4 : decide ((15 : Int) < 15) = false := by decide
            have HO := Aside0.mk (okL_all hl288 HALL.out (by rw [HRR.out]; exact hr0))
            have f0 := HS1.out.ar.frozen 0
            have c0 := HS1.out.ar.cell 0 (by decide)
            have HS2 := Aside0.mk (HS1.out.set 0 r)
            clear hlt hrs
            go_upto_region 21 with (fail)
            generalize wr.setCell ⟨g + 1, 0, none⟩ (.int .i64 r) = w3 at HS2 ⊢
            clear f0 c0
            go_wp2_with (first | (refine load_all rfl rfl (g + 1) rfl 98 (arrV (upd (upd (fun l => cntL lens l) 0 0) 0 r)) _ HS2.out.ar Try.underlying98 rfl (by rw [arrV_size]; kernel_rfl) ?_) | ((with_reducible refine gate_store (t := 98) (p := 2) (v := .tmp 50) rfl ?_); go_must (refine store_all rfl rfl rfl g (arrV (fun _ => 0)) (arrV (upd (upd (fun l => cntL lens l) 0 0) 0 r)) 98 (by rfl) (by rfl) HS2.out.re ((arrV_size _).trans (arrV_size _).symm) (by rw [arrV_size]; kernel_rfl) (arrV_one _) ?_); intro w9 hr1 hf6; have HR1 := Aside0.mk hr1; have HF6 := Aside0.mk hf6; clear hr1 hf6))
            refine bodyPost_ret (results_ct rfl _ _ g 98 (arrV (upd (upd (fun l => cntL lens l) 0 0) 0 r)) (0, 0) _ rfl HR1.out Try.underlying98 rfl (by rw [arrV_size]; kernel_rfl)) rfl ?_
            exact ⟨_, (by rw [HO.out]; rfl), (fun _ k hk => cA_last lens r HRR.out k), HS2.out.be.trans (HF6.out.below HS2.out.be.size (fun k hk => by rw [hk, HS2.out.gg]; exact Nat.le_refl _))⟩
end Go.Proofs.Yteffjbjhkaobfaa.HF
namespace Go.Proofs.Yteffjbjhkaobfaa.HP
open Go.RowKit Go.Proofs.YteffjbjhkaobfaaW.PrintWords Go.Proofs.YteffjbjhkaobfaaW.PrintLast Go.Proofs.YteffjbjhkaobfaaW.PrintMore
theorem up {α : Type} {f : Nat → Option α} (hm : ∀ k, LeO (f k) (f (k + 1))) {K : Nat} {r : α} (h : f K = some r) : ∀ d, f (K + d) = some r
  | 0 => h
  | d + 1 => hm _ _ (up hm h d)
theorem both {α β : Type} {f : Nat → Option α} {g : Nat → Option β} (hm : ∀ k, LeO (f k) (f (k + 1))) (hg : ∀ k, LeO (g k) (g (k + 1))) {r : α} {s : β} (h1 : ∃ k, f k = some r) (h2 : ∃ k, g k = some s) : ∃ k, f k = some r ∧ g k = some s := by
  obtain ⟨a, ha⟩ := h1
  obtain ⟨b, hb⟩ := h2
  exact ⟨a + b, up hm ha b, by rw [Nat.add_comm]; exact up hg hb a⟩
theorem shl_15 : ∀ m : Nat, m < 16 → shl .i64 1 (m : Int) = ((2 ^ m : Nat) : Int) := by decide
end Go.Proofs.Yteffjbjhkaobfaa.HP
namespace Go.Proofs.Yteffjbjhkaobfaa.HP
open Go.RowKit Go.Proofs.Yteffjbjhkaobfaa.Fn Go.Proofs.Yteffjbjhkaobfaa.HF Go.Proofs.YteffjbjhkaobfaaW.PrintWords Go.Proofs.YteffjbjhkaobfaaW.PrintLast Go.Proofs.YteffjbjhkaobfaaW.PrintMore
def shareS : List Int → Int
  | [] => 0
  | x :: r => (if 0 < x then ((2 ^ (15 - x.toNat) : Nat) : Int) else 0) + shareS r
theorem shareS_cons (x : Int) (r : List Int) : shareS (x :: r) = (if 0 < x then ((2 ^ (15 - x.toNat) : Nat) : Int) else 0) + shareS r := rfl
theorem pow15 (d : Nat) (h : d ≤ 15) : 2 ^ d ≤ 32768 := Nat.pow_le_pow_right (n := 2) (by decide) h
theorem share_loop (l : List Int) (hl : l.length ≤ 288) : ∀ (d i : Nat) (s : Int), i + d = l.length → 0 ≤ s → s ≤ i * 32768 → ∃ k, postroadref03_share.l0 k l s (i : Int) = some (if (l.drop i).all lenOk then s + shareS (l.drop i) else -1) := by
  intro d
  induction d with
  | zero =>
    intro i s hi h0 h1
    refine ⟨1, ?_⟩
    rw [postroadref03_share.l0, if_neg (by omega), List.drop_eq_nil_of_le (by omega)]
    show some s = some (s + 0)
    rw [Int.add_zero]
  | succ d ih =>
    intro i s hi h0 h1
    have hlt : i < l.length := by omega
    have e0 : rd l (i : Int) = l[i] := rd_get l i hlt
    have ed : l.drop i = l[i] :: l.drop (i + 1) := List.drop_eq_getElem_cons hlt
    have w1 : wrap64 ((i : Int) + 1) = ((i + 1 : Nat) : Int) := by unfold wrap64; omega
    by_cases c1 : l[i] < 0
    · refine ⟨2, ?_⟩
      have hb : lenOk l[i] = false := decide_eq_false (by omega)
      rw [postroadref03_share.l0, if_pos (by omega), if_pos (by omega), e0, if_pos c1, postroadref03_share.j1, if_pos rfl, ed, List.all_cons, hb]
      rfl
    · by_cases c2 : l[i] > 15
      · refine ⟨2, ?_⟩
        have hb : lenOk l[i] = false := decide_eq_false (by omega)
        rw [postroadref03_share.l0, if_pos (by omega), if_pos (by omega), e0, if_neg c1, decide_eq_true c2, postroadref03_share.j1, if_pos rfl, ed, List.all_cons, hb]
        rfl
      · have hb : lenOk l[i] = true := decide_eq_true (by omega)
        by_cases c3 : l[i] > 0
        · obtain ⟨x, hx⟩ : ∃ x : Nat, l[i] = x := ⟨l[i].toNat, by omega⟩
          have w2 : wrap64 (15 - l[i]) = ((15 - x : Nat) : Int) := by unfold wrap64; omega
          have hp := pow15 (15 - x) (by omega)
          obtain ⟨y, hy⟩ : ∃ y : Nat, 2 ^ (15 - x) = y := ⟨_, rfl⟩
          rw [hy] at hp
          have w3 : wrap64 (s + (y : Int)) = s + (y : Int) := by unfold wrap64; omega
          obtain ⟨k, hk⟩ := ih (i + 1) (s + (y : Int)) (by omega) (by omega) (by omega)
          refine ⟨k + 2, ?_⟩
          rw [postroadref03_share.l0, if_pos (by omega), if_pos (by omega), e0, if_neg c1, decide_eq_false c2, postroadref03_share.j1, if_neg (by decide), if_pos (by omega), if_pos (by omega), e0, if_pos c3, w2, if_pos (by omega), shl_15 (15 - x) (by omega), hy, w3, w1, hk, ed, List.all_cons, hb, Bool.true_and, shareS_cons, if_pos c3, hx, Int.toNat_natCast, hy, ← Int.add_assoc]
        · obtain ⟨k, hk⟩ := ih (i + 1) s (by omega) h0 (by omega)
          refine ⟨k + 2, ?_⟩
          rw [postroadref03_share.l0, if_pos (by omega), if_pos (by omega), e0, if_neg c1, decide_eq_false c2, postroadref03_share.j1, if_neg (by decide), if_pos (by omega), if_pos (by omega), e0, if_neg c3, w1, hk, ed, List.all_cons, hb, Bool.true_and]
          show _ = some (if _ then s + ((if 0 < l[i] then _ else 0) + shareS _) else -1)
          rw [if_neg c3, Int.zero_add]
def shareL (l : List Int) : Int := if decide (l.length ≤ 288) && l.all lenOk then shareS l else -1
theorem share_ok (l : List Int) : ∃ k, postroadref03_share.f k l = some (shareL l) := by
  unfold postroadref03_share.f shareL
  by_cases h : (l.length : Int) > 288
  · exact ⟨0, by rw [if_pos h, decide_eq_false (show ¬ l.length ≤ 288 by omega)]; rfl⟩
  · obtain ⟨k, hk⟩ := share_loop l (by omega) l.length 0 0 (by omega) (Int.le_refl _) (by omega)
    refine ⟨k, ?_⟩
    have hk2 : postroadref03_share.l0 k l 0 0 = _ := hk
    rw [if_neg h, hk2, decide_eq_true (show l.length ≤ 288 by omega), List.drop_zero, Bool.true_and, Int.zero_add]
theorem shareS_nn : ∀ l : List Int, 0 ≤ shareS l
  | [] => Int.le_refl _
  | x :: r => by
    have := shareS_nn r
    rw [shareS_cons]
    split
    · exact Int.add_nonneg (Int.natCast_nonneg _) this
    · omega
/-- One word more of length x. -/
theorem rooms_one (f g : Nat → Int) (x : Nat) (hx : 1 ≤ x) (h : ∀ l, g l = f l + (if l = x then 1 else 0)) : ∀ j, rooms g j = rooms f j - (if x ≤ j then ((2 ^ (j - x) : Nat) : Int) else 0)
  | 0 => by
    rw [if_neg (by omega)]
    show (1 : Int) = 1 - 0
    rfl
  | j + 1 => by
    have ih := rooms_one f g x hx h j
    show 2 * rooms g j - g (j + 1) = 2 * rooms f j - f (j + 1) - _
    rw [ih, h]
    by_cases e : j + 1 = x
    · rw [if_pos e, if_neg (by omega), if_pos (by omega), e, Nat.sub_self]
      show 2 * (rooms f j - 0) - (f x + 1) = 2 * rooms f j - f x - ((1 : Nat) : Int)
      omega
    · rw [if_neg e]
      by_cases e2 : x ≤ j
      · rw [if_pos e2, if_pos (by omega), show j + 1 - x = (j - x) + 1 by omega, Nat.pow_succ]
        generalize 2 ^ (j - x) = y
        omega
      · rw [if_neg e2, if_neg (by omega)]
        omega
theorem rooms_congr {f g : Nat → Int} (h : ∀ l, 1 ≤ l → g l = f l) : ∀ j, rooms g j = rooms f j
  | 0 => rfl
  | j + 1 => by
    show 2 * rooms g j - g (j + 1) = 2 * rooms f j - f (j + 1)
    rw [rooms_congr h j, h (j + 1) (by omega)]
theorem rooms_share : ∀ l : List Int, l.all lenOk = true → rooms (fun k => cntL l k) 15 = 32768 - shareS l
  | [], _ => by decide
  | x :: r, h => by
    rw [List.all_cons, Bool.and_eq_true] at h
    have ih := rooms_share r h.2
    have hx := of_decide_eq_true h.1
    obtain ⟨n, rfl⟩ : ∃ n : Nat, x = n := ⟨x.toNat, by omega⟩
    rw [shareS_cons]
    by_cases h0 : (0 : Int) < (n : Int)
    · rw [if_pos h0, rooms_one (fun k => cntL r k) (fun k => cntL ((n : Int) :: r) k) n (by omega) (fun l => by
        show cntL ((n : Int) :: r) l = cntL r l + _
        rw [cntL_cons]
        by_cases e : l = n
        · subst e; rw [if_pos rfl, if_pos rfl]; omega
        · rw [if_neg e, if_neg (by omega)]; omega) 15, ih, if_pos (by omega), Int.toNat_natCast]
      omega
    · rw [if_neg h0, Int.zero_add, ← ih]
      exact rooms_congr (fun l hl => by
        show cntL ((n : Int) :: r) l = cntL r l
        rw [cntL_cons, if_neg (by omega), Int.zero_add]) 15
theorem okL_share (l : List Int) : okL l = (decide (0 ≤ shareL l) && decide (shareL l ≤ 32768)) := by
  unfold okL shareL
  cases h1 : decide (l.length ≤ 288) with
  | false => rfl
  | true =>
    cases h2 : l.all lenOk with
    | false => rfl
    | true =>
      rw [rooms_share l h2]
      simp only [Bool.true_and, Bool.and_self, if_true]
      have := shareS_nn l
      rw [decide_eq_true this, Bool.true_and]
      by_cases e : shareS l ≤ 32768
      · rw [decide_eq_true e, decide_eq_true (by omega)]
      · rw [decide_eq_false e, decide_eq_false (by omega)]
theorem may_ok (l : List Int) : ∃ k, postroadref03_May.f k l = some (okL l) := by
  obtain ⟨k, hk⟩ := share_ok l
  refine ⟨k, ?_⟩
  unfold postroadref03_May.f
  rw [hk, okL_share]
  simp only [Option.bind_some]
  by_cases h : shareL l ≥ 0
  · rw [if_pos h, decide_eq_true (show 0 ≤ shareL l from h), Bool.true_and]
  · rw [if_neg h, decide_eq_false (show ¬ 0 ≤ shareL l from h)]
    rfl
theorem full_ok (l : List Int) (ho : okL l = true) : ∃ k, postroadref03_Full.f k l = some (wholeL l) := by
  obtain ⟨k, hk⟩ := share_ok l
  refine ⟨k, ?_⟩
  unfold postroadref03_Full.f wholeL
  rw [hk]
  simp only [Option.bind_some]
  unfold okL at ho
  simp only [Bool.and_eq_true] at ho
  have h2 := ho.2.1
  rw [rooms_share l h2]
  unfold shareL
  rw [ho.1, h2]
  simp only [Bool.and_self, if_true]
  by_cases e : shareS l = 32768
  · rw [e]; rfl
  · rw [decide_eq_false (by omega)]
    congr 1
    exact beq_eq_false_iff_ne.mpr e
/-- The words of a length and those ahead of it. -/
theorem used (f : Nat → Int) : ∀ L, 1 ≤ L → nxt f L + f L = 2 ^ L - rooms f L
  | 0, h => by omega
  | L + 1, _ => by
    by_cases h : L = 0
    · subst h
      show (0 : Int) + f 1 = 2 ^ 1 - (2 * 1 - f 1)
      omega
    · have ih := used f L (by omega)
      show (if L = 0 then (0 : Int) else 2 * (nxt f L + f L)) + f (L + 1) = 2 ^ (L + 1) - (2 * rooms f L - f (L + 1))
      rw [if_neg h, ih, Int.pow_succ]
      omega
theorem rooms_nn {f : Nat → Int} (hf : ∀ l, 0 ≤ f l) {j : Nat} (h : 0 ≤ rooms f 15) (hj : j ≤ 15) : 0 ≤ rooms f j := by
  by_cases c : 0 ≤ rooms f j
  · exact c
  · have := rooms_neg hf (i := j) (by omega) 15 hj
    omega
/-- A longer word stands behind all shorter ones. -/
theorem nxt_behind {f : Nat → Int} (hf : ∀ l, 0 ≤ f l) (a : Nat) (ha : 1 ≤ a) : ∀ d, (nxt f a + f a) * 2 ^ (d + 1) ≤ nxt f (a + d + 1)
  | 0 => by
    show _ ≤ if a = 0 then (0 : Int) else 2 * (nxt f a + f a)
    rw [if_neg (by omega)]
    omega
  | d + 1 => by
    have ih := nxt_behind hf a ha d
    have := hf (a + d + 1)
    show _ ≤ if a + d + 1 = 0 then (0 : Int) else 2 * (nxt f (a + d + 1) + f (a + d + 1))
    rw [if_neg (by omega), Int.pow_succ, ← Int.mul_assoc]
    omega
theorem shr_i64 (n m : Nat) (hm : m ≤ 64) : shr .i64 (n : Int) (m : Int) = ((n / 2 ^ m : Nat) : Int) := by
  unfold shr
  rw [show min ((m : Int)).toNat IntKind.i64.bits = m from by simp [IntKind.bits]; omega]
  simp
theorem cnt_mono (l : List Int) (x : Int) {i j : Nat} (h : i ≤ j) : cntL (l.take i) x ≤ cntL (l.take j) x := by
  have e : l.take j = l.take i ++ (l.drop i).take (j - i) := by
    have := (List.take_append_drop i (l.take j)).symm
    rw [List.take_take, List.drop_take, Nat.min_eq_left h] at this
    exact this
  rw [e, cntL_app]
  have := (cntL_nn ((l.drop i).take (j - i)) x).1
  omega
theorem cnt_next (l : List Int) (i : Nat) (h : i < l.length) : cntL (l.take (i + 1)) l[i] = cntL (l.take i) l[i] + 1 := by
  rw [List.take_succ_eq_append_getElem h, cntL_snoc, if_pos rfl]
theorem cnt_lt (l : List Int) (i j : Nat) (h : i < l.length) (hj : i < j) : cntL (l.take i) l[i] + 1 ≤ cntL (l.take j) l[i] := by
  rw [← cnt_next l i h]
  exact cnt_mono l _ hj
theorem cnt_all (l : List Int) (i : Nat) (h : i < l.length) : cntL (l.take i) l[i] + 1 ≤ cntL l l[i] := by
  have := cnt_lt l i l.length h h
  rw [List.take_length] at this
  exact this
theorem codes_rd (l : List Int) (i : Nat) (h : i < l.length) : rd (codesL l) (i : Int) = codeAt l i := by
  unfold rd codesL
  rw [Int.toNat_natCast, List.getD_eq_getElem?_getD, List.getElem?_map, List.getElem?_range h]
  rfl
theorem codeAt_eq (l : List Int) (i L : Nat) (h : i < l.length) (hL : l[i] = (L : Int)) (h0 : 0 < L) : codeAt l i = nxt (fun k => cntL l k) L + cntL (l.take i) (L : Int) := by
  unfold codeAt
  rw [List.getD_eq_getElem?_getD, List.getElem?_eq_getElem h]
  simp only [Option.getD_some, hL]
  rw [if_pos (by omega), Int.toNat_natCast]
theorem codeAt_zero (l : List Int) (i : Nat) (h : i < l.length) (hL : l[i] = 0) : codeAt l i = 0 := by
  unfold codeAt
  rw [List.getD_eq_getElem?_getD, List.getElem?_eq_getElem h]
  simp only [Option.getD_some, hL]
  rfl
theorem okL_open {l : List Int} (h : okL l = true) : l.length ≤ 288 ∧ (∀ x ∈ l, 0 ≤ x ∧ x ≤ 15) ∧ 0 ≤ rooms (fun k => cntL l k) 15 := by
  unfold okL at h
  simp only [Bool.and_eq_true, decide_eq_true_eq] at h
  exact ⟨h.1, fun x hx => of_decide_eq_true (List.all_eq_true.1 h.2.1 x hx), h.2.2⟩
theorem cnt_nn' (l : List Int) : ∀ k : Nat, 0 ≤ (fun k : Nat => cntL l k) k := fun k => (cntL_nn l k).1
/-- A word is a number below 2 to its length. -/
theorem code_fits {l : List Int} (ho : okL l = true) (i L : Nat) (h : i < l.length) (hL : l[i] = (L : Int)) (h0 : 0 < L) : 0 ≤ codeAt l i ∧ codeAt l i + 1 ≤ nxt (fun k => cntL l k) L + cntL l (L : Int) ∧ codeAt l i + 1 ≤ 2 ^ L := by
  obtain ⟨o1, o2, o3⟩ := okL_open ho
  have h15 : L ≤ 15 := by have := o2 l[i] (List.getElem_mem _); omega
  have e := codeAt_eq l i L h hL h0
  have c1 := cnt_all l i h
  rw [hL] at c1
  have u := used (fun k => cntL l k) L h0
  have r := rooms_nn (cnt_nn' l) o3 h15
  have nb := nxt_bd (f := fun k => cntL l k) (fun k => ⟨(cntL_nn l k).1, by have := (cntL_nn l k).2; omega⟩) L
  have cn := (cntL_nn (l.take i) (L : Int)).1
  rw [e]
  omega
/-- No word begins another. -/
theorem code_apart {l : List Int} (ho : okL l = true) (i j a d : Nat) (hi : i < l.length) (hj : j < l.length) (hij : i ≠ j) (hA : l[i] = (a : Int)) (h0 : 0 < a) (hB : l[j] = ((a + d : Nat) : Int)) : shr .i64 (codeAt l j) (d : Int) ≠ codeAt l i := by
  obtain ⟨o1, o2, o3⟩ := okL_open ho
  have h15 : a + d ≤ 15 := by have := o2 l[j] (List.getElem_mem _); omega
  have fi := code_fits ho i a hi hA h0
  have fj := code_fits ho j (a + d) hj hB (by omega)
  have ei := codeAt_eq l i a hi hA h0
  have ej := codeAt_eq l j (a + d) hj hB (by omega)
  obtain ⟨u, hu⟩ : ∃ u : Nat, codeAt l i = u := ⟨(codeAt l i).toNat, by omega⟩
  obtain ⟨v, hv⟩ : ∃ v : Nat, codeAt l j = v := ⟨(codeAt l j).toNat, by omega⟩
  rw [hu, hv, shr_i64 v d (by omega)]
  cases d with
  | zero =>
    rw [Nat.pow_zero, Nat.div_one]
    rw [Nat.add_zero] at ej hB
    rcases Nat.lt_or_gt_of_ne hij with hlt | hgt
    · have := cnt_lt l i j hi hlt
      rw [hA] at this
      omega
    · have := cnt_lt l j i hj hgt
      rw [hB] at this
      omega
  | succ d =>
    have nb := nxt_behind (cnt_nn' l) a h0 d
    have cn := (cntL_nn (l.take j) ((a + (d + 1) : Nat) : Int)).1
    have k1 : ((u : Int) + 1) * 2 ^ (d + 1) ≤ v := by
      refine Int.le_trans (Int.mul_le_mul_of_nonneg_right (show (u : Int) + 1 ≤ nxt (fun k => cntL l k) a + cntL l (a : Int) by omega) (Int.le_of_lt (Int.pow_pos (by decide)))) (Int.le_trans nb ?_)
      rw [show a + d + 1 = a + (d + 1) by omega]
      omega
    have k2 : (u + 1) * 2 ^ (d + 1) ≤ v := by exact_mod_cast k1
    have k3 : u + 1 ≤ v / 2 ^ (d + 1) := (Nat.le_div_iff_mul_le (Nat.pow_pos (by decide))).2 k2
    omega
end Go.Proofs.Yteffjbjhkaobfaa.HP
namespace Go.Proofs.Yteffjbjhkaobfaa.PC
open Go.RowKit Go.Proofs.Yteffjbjhkaobfaa.Fn Go.Proofs.Yteffjbjhkaobfaa.HF Go.Proofs.Yteffjbjhkaobfaa.HP Go.Proofs.Yteffjbjhkaobfaa.MB Go.Proofs.YteffjbjhkaobfaaW.PrintWords Go.Proofs.YteffjbjhkaobfaaW.PrintLast Go.Proofs.YteffjbjhkaobfaaW.PrintMore
theorem at_ {α : Type} {f : Nat → Option α} (hm : ∀ k, LeO (f k) (f (k + 1))) {K k : Nat} {r : α} (h : f K = some r) (hk : K ≤ k) : f k = some r := by
  obtain ⟨d, rfl⟩ := Nat.exists_eq_add_of_le hk
  exact up hm h d
def outP (l : List Int) (L i : Nat) : List Int := (List.range l.length).map fun j => if 0 < l.getD j 0 ∧ (l.getD j 0 < (L : Int) ∨ (l.getD j 0 = (L : Int) ∧ j < i)) then codeAt l j else 0
theorem outP_len (l : List Int) (L i : Nat) : (outP l L i).length = l.length := by unfold outP; rw [List.length_map, List.length_range]
theorem getD_at (l : List Int) (j : Nat) (h : j < l.length) : l.getD j 0 = l[j] := by rw [List.getD_eq_getElem?_getD, List.getElem?_eq_getElem h]; rfl
theorem outP_next (l : List Int) (L : Nat) : outP l L l.length = outP l (L + 1) 0 := by
  unfold outP
  refine List.map_congr_left fun j hj => ?_
  have := List.mem_range.1 hj
  by_cases c : 0 < l.getD j 0 ∧ (l.getD j 0 < (L : Int) ∨ (l.getD j 0 = (L : Int) ∧ j < l.length))
  · rw [if_pos c, if_pos (by omega)]
  · rw [if_neg c, if_neg (by omega)]
theorem outP_set (l : List Int) (L i : Nat) (hi : i < l.length) (h0 : 0 < L) (hL : l[i] = (L : Int)) : (outP l L i).set i (codeAt l i) = outP l L (i + 1) := by
  refine List.ext_getElem (by rw [List.length_set, outP_len, outP_len]) fun j h1 h2 => ?_
  have hjl : j < l.length := by rw [outP_len] at h2; exact h2
  have g : ∀ (a b : Nat) (h : j < (outP l a b).length), (outP l a b)[j] = if 0 < l.getD j 0 ∧ (l.getD j 0 < (a : Int) ∨ (l.getD j 0 = (a : Int) ∧ j < b)) then codeAt l j else 0 := fun a b h => by
    simp only [outP, List.getElem_map, List.getElem_range]
  rw [List.getElem_set, g L (i + 1), g L i]
  by_cases e : i = j
  · subst e
    rw [if_pos rfl, getD_at l i hi, if_pos (by omega)]
  · rw [if_neg e]
    by_cases c : 0 < l.getD j 0 ∧ (l.getD j 0 < (L : Int) ∨ (l.getD j 0 = (L : Int) ∧ j < i))
    · rw [if_pos c, if_pos (by omega)]
    · rw [if_neg c, if_neg (by omega)]
theorem outP_same (l : List Int) (L i : Nat) (hi : i < l.length) (hL : l[i] ≠ (L : Int)) : outP l L i = outP l L (i + 1) := by
  unfold outP
  refine List.map_congr_left fun j hj => ?_
  have hjl := List.mem_range.1 hj
  by_cases e : i = j
  · subst e
    rw [getD_at l i hi]
    by_cases c : 0 < l[i] ∧ (l[i] < (L : Int) ∨ (l[i] = (L : Int) ∧ i < i))
    · rw [if_pos c, if_pos (by omega)]
    · rw [if_neg c, if_neg (by omega)]
  · by_cases c : 0 < l.getD j 0 ∧ (l.getD j 0 < (L : Int) ∨ (l.getD j 0 = (L : Int) ∧ j < i))
    · rw [if_pos c, if_pos (by omega)]
    · rw [if_neg c, if_neg (by omega)]
theorem outP_start (l : List Int) : outP l 1 0 = List.replicate l.length 0 := by
  unfold outP
  refine List.ext_getElem (by simp) fun j h1 h2 => ?_
  rw [List.getElem_map, List.getElem_range, List.getElem_replicate, if_neg (by omega)]
theorem outP_end (l : List Int) (h : ∀ x ∈ l, 0 ≤ x ∧ x ≤ 15) : outP l 16 0 = codesL l := by
  unfold outP codesL
  refine List.map_congr_left fun j hj => ?_
  have hjl := List.mem_range.1 hj
  have := h l[j] (List.getElem_mem _)
  rw [getD_at l j hjl]
  by_cases c : 0 < l[j]
  · rw [if_pos (by omega)]
  · rw [if_neg (by omega), codeAt_zero l j hjl (by omega)]
theorem refcodes_in (l : List Int) (ho : okL l = true) (L : Nat) (h0 : 1 ≤ L) (h15 : L ≤ 15)
    (hn : ∃ k, postroadref03_Codes.l0 k l (outP l (L + 1) 0) (nxt (fun k => cntL l k) L + cntL l (L : Int)) ((L + 1 : Nat) : Int) = some (codesL l, 0)) :
    ∀ (d i : Nat), i + d = l.length → ∃ k, postroadref03_Codes.l1 k l (outP l L i) (nxt (fun k => cntL l k) L + cntL (l.take i) (L : Int)) (L : Int) (i : Int) = some (codesL l, 0) := by
  obtain ⟨o1, o2, o3⟩ := okL_open ho
  have nb := nxt_bd (f := fun k => cntL l k) (fun k => ⟨(cntL_nn l k).1, by have := (cntL_nn l k).2; omega⟩) L
  have hp : (2 : Int) ^ L ≤ 32768 := by
    have := pow15 L h15
    have h2 : ((2 ^ L : Nat) : Int) ≤ 32768 := Int.ofNat_le.2 this
    rwa [Int.natCast_pow] at h2
  intro d
  induction d with
  | zero =>
    intro i hi
    obtain ⟨k, hk⟩ := hn
    refine ⟨k + 1, ?_⟩
    have w1 : wrap64 ((L : Int) + 1) = ((L + 1 : Nat) : Int) := by unfold wrap64; omega
    rw [postroadref03_Codes.l1, if_neg (by omega), w1, show i = l.length by omega, List.take_length, outP_next, hk]
  | succ d ih =>
    intro i hi
    have hil : i < l.length := by omega
    obtain ⟨k, hk⟩ := ih (i + 1) (by omega)
    refine ⟨k + 1, ?_⟩
    have w1 : wrap64 ((i : Int) + 1) = ((i + 1 : Nat) : Int) := by unfold wrap64; omega
    have cn := cntL_nn (l.take i) (L : Int)
    have cl : ((l.take i).length : Int) ≤ 288 := by rw [List.length_take]; omega
    rw [postroadref03_Codes.l1, if_pos (by omega), if_pos (by omega), rd_get l i hil, w1]
    by_cases e : l[i] = (L : Int)
    · have w2 : wrap64 (nxt (fun k => cntL l k) L + cntL (l.take i) (L : Int) + 1) = nxt (fun k => cntL l k) L + cntL (l.take (i + 1)) (L : Int) := by
        have := cnt_next l i hil
        rw [e] at this
        rw [this, wrap64_id _ (by omega) (by omega)]
        omega
      rw [if_pos e, if_pos (by rw [outP_len]; omega), Int.toNat_natCast, ← codeAt_eq l i L hil e (by omega), outP_set l L i hil (by omega) e, codeAt_eq l i L hil e (by omega), w2, hk]
    · have c2 : cntL (l.take (i + 1)) (L : Int) = cntL (l.take i) (L : Int) := by
        rw [List.take_succ_eq_append_getElem hil, cntL_snoc, if_neg e, Int.add_zero]
      rw [if_neg e, outP_same l L i hil e, ← c2, hk]
theorem refcodes_out (l : List Int) (ho : okL l = true) : ∀ (e L : Nat) (y : Int), L + e = 16 → 1 ≤ L → 2 * y = nxt (fun k => cntL l k) L → ∃ k, postroadref03_Codes.l0 k l (outP l L 0) y (L : Int) = some (codesL l, 0) := by
  obtain ⟨o1, o2, o3⟩ := okL_open ho
  intro e
  induction e with
  | zero =>
    intro L y hL h1 hy
    refine ⟨1, ?_⟩
    rw [postroadref03_Codes.l0, if_neg (by omega), show L = 16 by omega, outP_end l o2]
  | succ e ih =>
    intro L y hL h1 hy
    have nb := nxt_bd (f := fun k => cntL l k) (fun k => ⟨(cntL_nn l k).1, by have := (cntL_nn l k).2; omega⟩) L
    have hp : (2 : Int) ^ L ≤ 32768 := by
      have := pow15 L (by omega)
      have h2 : ((2 ^ L : Nat) : Int) ≤ 32768 := Int.ofNat_le.2 this
      rwa [Int.natCast_pow] at h2
    obtain ⟨k, hk⟩ := refcodes_in l ho L h1 (by omega) (ih (L + 1) (nxt (fun k => cntL l k) L + cntL l (L : Int)) (by omega) (by omega) (by
      show _ = if L = 0 then (0 : Int) else 2 * (nxt (fun k => cntL l k) L + cntL l (L : Int))
      rw [if_neg (by omega)])) l.length 0 (by omega)
    refine ⟨k + 1, ?_⟩
    have w2 : wrap64 (2 * y) = nxt (fun k => cntL l k) L := by rw [hy]; exact wrap64_id _ (by omega) (by omega)
    have hk2 : postroadref03_Codes.l1 k l (outP l L 0) (nxt (fun k => cntL l k) L + cntL (l.take 0) (L : Int)) (L : Int) 0 = _ := hk
    rw [List.take_zero, cntL_nil, Int.add_zero] at hk2
    rw [postroadref03_Codes.l0, if_pos (by omega), w2, hk2]
theorem refcodes_ok (l : List Int) : ∃ k, postroadref03_Codes.f k l = some (if okL l then codesL l else [], if okL l then 0 else 30) := by
  cases h : okL l with
  | false =>
    obtain ⟨k, hk⟩ := may_ok l
    refine ⟨k, ?_⟩
    unfold postroadref03_Codes.f
    rw [hk, h]
    rfl
  | true =>
    obtain ⟨o1, o2, o3⟩ := okL_open h
    obtain ⟨k0, hk0⟩ := refcodes_out l h 15 1 0 (by omega) (Nat.le_refl _) (by rfl)
    obtain ⟨k, hk1, hk2⟩ := both (fun k => postroadref03_May.mono l k) (fun k => (postroadref03_Codes.mono_l k).1 l (outP l 1 0) 0 ((1 : Nat) : Int)) (may_ok l) ⟨k0, hk0⟩
    refine ⟨k, ?_⟩
    unfold postroadref03_Codes.f
    rw [hk1, h]
    simp only [Option.bind_some, if_true]
    rw [if_pos (by omega), if_pos (by rw [Int.toNat_natCast]; omega), Int.toNat_natCast, ← outP_start]
    exact hk2
end Go.Proofs.Yteffjbjhkaobfaa.PC
namespace Go.Proofs.Yteffjbjhkaobfaa.HF
open Go.Proofs.Yteffjbjhkaobfaa.MB
/-- The places of a length among the first i. -/
def idxL (lens : List Int) (l i : Nat) : List Int := ((List.range i).filter (fun j : Nat => decide (lens.getD j 0 = (l : Int)))).map (fun j : Nat => (j : Int))
theorem idxL_succ (lens : List Int) (l i : Nat) : idxL lens l (i + 1) = idxL lens l i ++ (if lens.getD i 0 = (l : Int) then [(i : Int)] else []) := by
  unfold idxL
  rw [List.range_succ, List.filter_append, List.map_append]
  congr 1
  rw [List.filter_cons]
  by_cases h : lens.getD i 0 = (l : Int)
  · rw [decide_eq_true h, if_pos rfl, if_pos h]; rfl
  · rw [decide_eq_false h, if_neg h]; rfl
theorem idxL_len (lens : List Int) (l i : Nat) : (idxL lens l i).length ≤ i := by
  unfold idxL
  rw [List.length_map]
  have := List.length_filter_le (fun j : Nat => decide (lens.getD j 0 = (l : Int))) (List.range i)
  rw [List.length_range] at this
  exact this
/-- The symbols by their words, up to a length. -/
def symsT (lens : List Int) : Nat → List Int
  | 0 => []
  | l + 1 => symsT lens l ++ idxL lens (l + 1) lens.length
theorem symsT_len (lens : List Int) : ∀ l, (symsT lens l).length ≤ l * lens.length
  | 0 => Nat.zero_le _
  | l + 1 => by
    have h1 := symsT_len lens l
    have h2 := idxL_len lens (l + 1) lens.length
    unfold symsT
    rw [List.length_append, Nat.succ_mul]
    omega
/-- The longest length up to l. -/
def lngI (lens : List Int) (l i g : Nat) : Nat := if (idxL lens l i).length = 0 then g else l
def lngT (lens : List Int) : Nat → Nat
  | 0 => 0
  | l + 1 => lngI lens (l + 1) lens.length (lngT lens l)
theorem lngI_zero (lens : List Int) (l g : Nat) : lngI lens l 0 g = g := rfl
theorem lngI_hit (lens : List Int) (l i g : Nat) (h : lens.getD i 0 = (l : Int)) : lngI lens l (i + 1) g = l := by
  unfold lngI
  rw [idxL_succ, if_pos h, List.length_append]
  exact if_neg (by simp)
theorem lngI_miss (lens : List Int) (l i g : Nat) (h : ¬ lens.getD i 0 = (l : Int)) : lngI lens l (i + 1) g = lngI lens l i g := by
  unfold lngI
  rw [idxL_succ, if_neg h, List.append_nil]
/-- The first word behind those of the lengths up to l. -/
def eT (f : Nat → Int) (l : Nat) : Int := if l = 0 then 0 else nxt f l + f l
theorem eT_next (f : Nat → Int) (l : Nat) : nxt f (l + 1) = 2 * eT f l := by
  unfold eT
  show (if l = 0 then 0 else 2 * (nxt f l + f l)) = _
  split <;> omega
theorem eT_succ (f : Nat → Int) (l : Nat) : eT f (l + 1) = 2 * eT f l + f (l + 1) := by
  rw [← eT_next]
  exact if_neg (by omega)
/-- How many words of each length. -/
def cF (lens : List Int) (k : Nat) : Int := cntL lens k
def bitI (s : ByteArray) (a : Nat) : Int := ((nb (sbit s) a 1 : Nat) : Int)
/-- What Symbol tells: the symbol, the error, the place behind it. -/
def symS (lens : List Int) (s : ByteArray) : Nat → Nat → Int → Nat → Int × Int × Nat
  | 0, _, _, a => (0, 30, a)
  | d + 1, l, word, a =>
    if 8 * s.size < a + 1 then (0, 5, a) else
    if 2 * word + bitI s a < eT (cF lens) l then ((symsT lens 15).getD ((symsT lens (l - 1)).length + (2 * word + bitI s a - 2 * eT (cF lens) (l - 1)).toNat) 0, 0, a + 1) else
    if l < lngT lens 15 ∧ (2 * word + bitI s a) * 2 ^ (lngT lens 15 - l) < eT (cF lens) (lngT lens 15) then symS lens s d (l + 1) (2 * word + bitI s a) (a + 1) else (0, 30, a + 1)
/-- What Symbol tells from a place on. -/
def symF (lens : List Int) (s : ByteArray) (a : Nat) : Int × Int × Nat := symS lens s 15 1 0 a
end Go.Proofs.Yteffjbjhkaobfaa.HF
namespace Go.Proofs.Yteffjbjhkaobfaa.HP
open Go.RowKit Go.Proofs.Yteffjbjhkaobfaa.Fn Go.Proofs.Yteffjbjhkaobfaa.HF Go.Proofs.Yteffjbjhkaobfaa.MB Go.Proofs.YteffjbjhkaobfaaW.PrintWords Go.Proofs.YteffjbjhkaobfaaW.PrintLast Go.Proofs.YteffjbjhkaobfaaW.PrintMore
theorem idxL_cnt (lens : List Int) (l : Nat) : ∀ i, i ≤ lens.length → ((idxL lens l i).length : Int) = cntL (lens.take i) l
  | 0, _ => by rw [List.take_zero]; rfl
  | i + 1, h => by
    have ih := idxL_cnt lens l i (by omega)
    rw [idxL_succ, List.take_succ_eq_append_getElem (by omega : i < lens.length), cntL_snoc, List.length_append]
    have e : lens.getD i 0 = lens[i] := by rw [List.getD_eq_getElem?_getD, List.getElem?_eq_getElem (by omega : i < lens.length)]; rfl
    rw [e]
    by_cases hl : lens[i] = (l : Int)
    · rw [if_pos hl, if_pos hl]; simp only [List.length_singleton]; omega
    · rw [if_neg hl, if_neg hl]; simp only [List.length_nil]; omega
theorem idxL_at (lens : List Int) (l : Nat) : ∀ i, i ≤ lens.length → ∀ k, (hk : k < (idxL lens l i).length) → ∃ j, ∃ hj : j < lens.length, j < i ∧ (idxL lens l i)[k] = (j : Int) ∧ lens[j] = (l : Int) ∧ cntL (lens.take j) l = k
  | 0, _, k, hk => by exact absurd hk (Nat.not_lt_zero k)
  | i + 1, h, k, hk => by
    have e : lens.getD i 0 = lens[i] := by rw [List.getD_eq_getElem?_getD, List.getElem?_eq_getElem (by omega : i < lens.length)]; rfl
    by_cases hk2 : k < (idxL lens l i).length
    · obtain ⟨j, h1, h2, h3, h4, h5⟩ := idxL_at lens l i (by omega) k hk2
      refine ⟨j, h1, by omega, ?_, h4, h5⟩
      rw [← h3]
      simp only [idxL_succ]
      exact List.getElem_append_left hk2
    · have hkk := hk
      rw [idxL_succ, e] at hkk
      by_cases hl : lens[i] = (l : Int)
      · rw [if_pos hl, List.length_append, List.length_singleton] at hkk
        refine ⟨i, by omega, by omega, ?_, hl, ?_⟩
        · simp only [idxL_succ, e, if_pos hl]
          rw [List.getElem_append_right (by omega)]
          simp
        · rw [← idxL_cnt lens l i (by omega)]; omega
      · rw [if_neg hl, List.append_nil] at hkk
        exact absurd hkk hk2
theorem symsT_split (lens : List Int) (l : Nat) : ∀ d, ∃ r, symsT lens (l + d) = symsT lens l ++ r
  | 0 => ⟨[], by rw [Nat.add_zero, List.append_nil]⟩
  | d + 1 => by
    obtain ⟨r, hr⟩ := symsT_split lens l d
    exact ⟨r ++ idxL lens (l + d + 1) lens.length, by rw [show l + (d + 1) = l + d + 1 by omega, symsT, hr, List.append_assoc]⟩
theorem cF_len (lens : List Int) (l : Nat) : ((idxL lens l lens.length).length : Int) = cF lens l := by
  rw [idxL_cnt lens l lens.length (Nat.le_refl _), List.take_length]
  rfl
/-- The symbol that bears a word. -/
theorem sym_at {lens : List Int} (l k : Nat) (h1 : 1 ≤ l) (h15 : l ≤ 15) (hk : (k : Int) < cF lens l) :
    ∃ j, ∃ hj : j < lens.length, (symsT lens 15).getD ((symsT lens (l - 1)).length + k) 0 = (j : Int) ∧ lens[j] = (l : Int) ∧ codeAt lens j = 2 * eT (cF lens) (l - 1) + k := by
  have hc := cF_len lens l
  obtain ⟨j, hj, _, h3, h4, h5⟩ := idxL_at lens l lens.length (Nat.le_refl _) k (by omega)
  refine ⟨j, hj, ?_, h4, ?_⟩
  · obtain ⟨r, hr⟩ := symsT_split lens l (15 - l)
    rw [show l + (15 - l) = 15 by omega] at hr
    obtain ⟨m, rfl⟩ : ∃ m, l = m + 1 := ⟨l - 1, by omega⟩
    rw [hr, symsT, Nat.add_sub_cancel, List.getD_eq_getElem?_getD, List.append_assoc, List.getElem?_append_right (by omega), Nat.add_sub_cancel_left, List.getElem?_append_left (by omega), List.getElem?_eq_getElem (by omega), h3]
    rfl
  · obtain ⟨m, rfl⟩ : ∃ m, l = m + 1 := ⟨l - 1, by omega⟩
    rw [codeAt_eq lens j (m + 1) hj h4 (by omega), Nat.add_sub_cancel, ← eT_next, h5]
    rfl
theorem eT_used {f : Nat → Int} (l : Nat) (h : 1 ≤ l) : eT f l = 2 ^ l - rooms f l := by
  unfold eT
  rw [if_neg (by omega), used f l h]
theorem eT_le {lens : List Int} (ho : okL lens = true) (l : Nat) (h15 : l ≤ 15) : eT (cF lens) l ≤ 2 ^ l := by
  cases l with
  | zero => simp [eT]
  | succ l =>
    have hr := rooms_nn (cnt_nn' lens) (okL_open ho).2.2 h15
    rw [eT_used (l + 1) (by omega)]
    show 2 ^ (l + 1) - rooms (fun k : Nat => cntL lens k) (l + 1) ≤ _
    omega
theorem cF_nn (lens : List Int) (k : Nat) : 0 ≤ cF lens k := (cntL_nn lens k).1
theorem eT_nn (lens : List Int) : ∀ l, 0 ≤ eT (cF lens) l
  | 0 => by simp [eT]
  | l + 1 => by have := eT_nn lens l; have := cF_nn lens (l + 1); rw [eT_succ]; omega
theorem eT_grow (lens : List Int) (l : Nat) : ∀ d, eT (cF lens) l * 2 ^ d ≤ eT (cF lens) (l + d)
  | 0 => by simp
  | d + 1 => by
    have ih := eT_grow lens l d
    have hn := cF_nn lens (l + d + 1)
    rw [show l + (d + 1) = l + d + 1 by omega, eT_succ, Int.pow_succ, ← Int.mul_assoc]
    omega
/-- A length that some symbol bears is not above the longest one. -/
theorem lng_ge (lens : List Int) : ∀ L l, 1 ≤ l → l ≤ L → 0 < cF lens l → l ≤ lngT lens L
  | 0, l, h1, h2, _ => by omega
  | L + 1, l, h1, h2, h3 => by
    unfold lngT lngI
    have hc := cF_len lens (L + 1)
    by_cases he : (idxL lens (L + 1) lens.length).length = 0
    · rw [if_pos he]
      have : l ≠ L + 1 := fun e => by subst e; omega
      exact lng_ge lens L l h1 (by omega) h3
    · rw [if_neg he]; exact h2
theorem lng_le (lens : List Int) : ∀ L, lngT lens L ≤ L
  | 0 => Nat.le_refl _
  | L + 1 => by
    have := lng_le lens L
    unfold lngT lngI
    split <;> omega
/-- A longer word begins with a word. -/
def Begins (lens : List Int) (l : Nat) (w : Int) (i : Nat) : Prop := ∃ h : i < lens.length, (l : Int) < lens[i] ∧ shr .i64 (codeAt lens i) (lens[i] - l) = w
theorem begins_iff {lens : List Int} (ho : okL lens = true) (l : Nat) (h1 : 1 ≤ l) (w : Nat) (hw : eT (cF lens) l ≤ w) : (∃ i, Begins lens l w i) ↔ (l < lngT lens 15 ∧ (w : Int) * 2 ^ (lngT lens 15 - l) < eT (cF lens) (lngT lens 15)) := by
  obtain ⟨o1, o2, o3⟩ := okL_open ho
  constructor
  · rintro ⟨i, hi, h2, h3⟩
    have hr := o2 lens[i] (List.getElem_mem _)
    obtain ⟨L, hL⟩ : ∃ L : Nat, lens[i] = L := ⟨lens[i].toNat, by omega⟩
    obtain ⟨c1, c2, c3⟩ := code_fits ho i L hi hL (by omega)
    have he : codeAt lens i + 1 ≤ eT (cF lens) L := by
      unfold eT
      rw [if_neg (by omega)]
      exact c2
    obtain ⟨c, hc⟩ : ∃ c : Nat, codeAt lens i = c := ⟨(codeAt lens i).toNat, by omega⟩
    have hG := lng_ge lens 15 L (by omega) (by omega) (by
      have := cnt_all lens i hi
      have := (cntL_nn (lens.take i) lens[i]).1
      show 0 < cntL lens (L : Int)
      rw [← hL]
      omega)
    obtain ⟨d, rfl⟩ : ∃ d, L = l + d := ⟨L - l, by omega⟩
    rw [hc, hL, show ((l + d : Nat) : Int) - (l : Int) = (d : Int) by omega, shr_i64 c d (by omega)] at h3
    have h4 : c / 2 ^ d = w := by omega
    have h5 : w * 2 ^ d ≤ c := by rw [← h4]; exact Nat.div_mul_le_self c (2 ^ d)
    refine ⟨by omega, ?_⟩
    obtain ⟨e, hE⟩ : ∃ e, lngT lens 15 = l + d + e := ⟨lngT lens 15 - (l + d), by omega⟩
    rw [hE, show l + d + e - l = d + e by omega, Int.pow_add, ← Int.mul_assoc]
    have g := eT_grow lens (l + d) e
    have p : (0 : Int) < 2 ^ e := Int.pow_pos (by decide)
    have h6 : (w : Int) * 2 ^ d < eT (cF lens) (l + d) := by
      have : ((w * 2 ^ d : Nat) : Int) ≤ c := by omega
      rw [Int.natCast_mul, Int.natCast_pow] at this
      have h2 : ((2 : Nat) : Int) = 2 := rfl
      rw [h2] at this
      omega
    exact Int.lt_of_lt_of_le (Int.mul_lt_mul_of_pos_right h6 p) g
  · rintro ⟨h2, h3⟩
    have hG := lng_le lens 15
    have key : ∀ d, l + d ≤ 15 → (w : Int) * 2 ^ d < eT (cF lens) (l + d) → ∃ i, Begins lens l w i := by
      intro d
      induction d with
      | zero => intro _ h; simp at h; omega
      | succ d ih =>
        intro hd h
        by_cases hlt : (w : Int) * 2 ^ d < eT (cF lens) (l + d)
        · exact ih (by omega) hlt
        · rw [show l + (d + 1) = l + d + 1 by omega, eT_succ, Int.pow_succ, ← Int.mul_assoc] at h
          obtain ⟨k, hk⟩ : ∃ k : Nat, (w : Int) * 2 ^ d * 2 - 2 * eT (cF lens) (l + d) = k := ⟨((w : Int) * 2 ^ d * 2 - 2 * eT (cF lens) (l + d)).toNat, by omega⟩
          obtain ⟨j, hj, _, hl2, hc⟩ := sym_at (lens := lens) (l + d + 1) k (by omega) (by omega) (by omega)
          rw [Nat.add_sub_cancel] at hc
          refine ⟨j, hj, by rw [hl2]; omega, ?_⟩
          have e : codeAt lens j = ((w * 2 ^ (d + 1) : Nat) : Int) := by
            rw [hc, Int.natCast_mul, Int.natCast_pow, Int.pow_succ]
            have h2 : ((2 : Nat) : Int) = 2 := rfl
            rw [h2, ← Int.mul_assoc]
            omega
          rw [e, hl2, show ((l + d + 1 : Nat) : Int) - (l : Int) = ((d + 1 : Nat) : Int) by omega, shr_i64 _ _ (by omega), Nat.mul_div_cancel _ (Nat.pow_pos (by decide))]
    exact key (lngT lens 15 - l) (by omega) (by rw [show l + (lngT lens 15 - l) = lngT lens 15 by omega]; exact h3)
end Go.Proofs.Yteffjbjhkaobfaa.HP
namespace Go.Proofs.Yteffjbjhkaobfaa.PR
open Go.RowKit Go.Proofs.YteffjbjhkaobfaaW.PrintWords Go.Proofs.YteffjbjhkaobfaaW.PrintLast Go.Proofs.YteffjbjhkaobfaaW.PrintMore Go.Proofs.Yteffjbjhkaobfaa.MB Go.Proofs.Yteffjbjhkaobfaa.Fn

theorem w64c (n : Nat) (h : n < 9223372036854775808) : wrap64 (n : Int) = n := by unfold wrap64; omega
theorem loop_end {f : Nat → Bool} {x a n : Nat} (hx : x < 2 ^ 64) (hn : n ≤ 57) (h : ∀ i, i < n → x.testBit i = f (a + i)) :
    wrap64 (Go.bits .and .u64 (x : Int) (IntKind.u64.wrap ((shl .u64 1 (n : Int)) - 1))) = (nb f a n : Int) := by
  have hp : 2 ^ n ≤ 2 ^ 57 := Nat.pow_le_pow_right (by decide) hn
  have hpos : 0 < 2 ^ n := Nat.two_pow_pos n
  have e1 : shl .u64 1 (n : Int) = ((2 ^ n : Nat) : Int) := by
    have := shl_u64 1 n (by omega) (by omega)
    rw [Nat.one_mul] at this
    exact this
  have e2 : ((2 ^ n : Nat) : Int) - 1 = ((2 ^ n - 1 : Nat) : Int) := by omega
  rw [e1, e2, wraps_u64 _ (by omega) (by omega), and_u64 _ _ hx (by omega), Nat.and_two_pow_sub_one_eq_mod]
  have hlt := nb_lt f a n
  have e3 : x % 2 ^ n = nb f a n := nb_unique (Nat.mod_lt _ hpos) (fun i hi => by rw [Nat.testBit_mod_two_pow]; simp [hi, h i hi])
  rw [e3]
  exact w64c _ (by omega)
theorem reader_loop (s : ByteArray) (hs : s.size ≤ 1000000000000000) (a n : Nat) (hn : n ≤ 57) (hfit : a + n ≤ 8 * s.size) : ∀ (d k got x : Nat), n ≤ got + d → got ≤ n → d < k → x < 2 ^ 64 → (got < n → x < 2 ^ got) →
    (∀ i, i < got → x.testBit i = sbit s (a + i)) → bits_Reader_Bits.l0 k (n : Int) (x : Int) (got : Int) true s ((a + got : Nat) : Int) = some ((nb (sbit s) a n : Int), 0, true, s, ((a + n : Nat) : Int)) := by
  intro d
  induction d using Nat.strongRecOn with
  | ind d ih =>
    intro k got x hd hg hk hx hxg hbit
    obtain ⟨k, rfl⟩ : ∃ m, k = m + 1 := ⟨k - 1, by omega⟩
    rw [bits_Reader_Bits.l0]
    by_cases h : got < n
    · have hq : (a + got) / 8 < s.size := by omega
      have hr : (a + got) % 8 < 8 := Nat.mod_lt _ (by decide)
      obtain ⟨b, hb, hb8⟩ := bt_nat s (((a + got) / 8 : Nat) : Int)
      obtain ⟨st, hst⟩ : ∃ st, st = min (8 - (a + got) % 8) (n - got) := ⟨_, rfl⟩
      have hx2 := hxg h
      have hy : b / 2 ^ ((a + got) % 8) * 2 ^ got < 2 ^ 64 := by
        have h1 : b / 2 ^ ((a + got) % 8) < 2 ^ 8 := Nat.lt_of_le_of_lt (Nat.div_le_self _ _) hb8
        have h2 : 2 ^ got ≤ 2 ^ 56 := Nat.pow_le_pow_right (by decide) (by omega)
        calc b / 2 ^ ((a + got) % 8) * 2 ^ got ≤ b / 2 ^ ((a + got) % 8) * 2 ^ 56 := Nat.mul_le_mul_left _ h2
          _ < 2 ^ 8 * 2 ^ 56 := Nat.mul_lt_mul_of_pos_right h1 (by decide)
          _ = 2 ^ 64 := by decide
      have hbits : ∀ j, j < st → b.testBit ((a + got) % 8 + j) = sbit s (a + got + j) := by
        intro j hj
        unfold sbit
        rw [show (a + got + j) / 8 = (a + got) / 8 from by omega, show (a + got + j) % 8 = (a + got) % 8 + j from by omega, hb]
        rfl
      have hs1 := step_bits hx2 hbit hbits
      have hs2 := step_lt (r := (a + got) % 8) hx2 hb8 (by omega)
      have e1 : wrap64 (8 - (((a + got) % 8 : Nat) : Int)) = ((8 - (a + got) % 8 : Nat) : Int) := by unfold wrap64; omega
      have e2 : wrap64 ((n : Int) - (got : Int)) = ((n - got : Nat) : Int) := by unfold wrap64; omega
      rw [tdiv_cast, tmod_cast, w64c _ (by omega), e1, e2]
      clear e1 e2
      rw [if_pos (by omega), if_pos (by omega), if_pos (by omega), if_pos (by omega), if_pos (by omega), hb, shr_u8 _ _ (by omega), wraps_u64 _ (Int.natCast_nonneg _) (cast_lt_two_pow (Nat.lt_of_le_of_lt (Nat.div_le_self _ _) (Nat.lt_of_lt_of_le hb8 (by decide)))), shl_u64 _ _ (by omega) hy, or_u64 _ _ hx hy, mn_cast, ← hst, ← Int.natCast_add, ← Int.natCast_add, w64c _ (by omega), w64c _ (by omega), Nat.add_assoc a got st]
      refine ih (n - (got + st)) (by omega) k (got + st) _ (by omega) (by omega) (by omega) (Nat.or_lt_two_pow hx hy) (fun hlt => ?_) (fun i hi => ?_)
      · rw [show st = 8 - (a + got) % 8 from by omega]
        exact hs2
      · exact hs1 i hi
    · have hgn : got = n := by omega
      subst hgn
      rw [if_neg (by omega), if_pos (by omega), loop_end hx hn hbit]
/-- What Bits of a reader comes to. -/
def rb (s : ByteArray) (a : Nat) (n : Int) : Int × Int × Bool × ByteArray × Int :=
  if n < 0 ∨ 57 < n then (0, 1, true, s, (a : Int)) else if 8 * (s.size : Int) - a < n then (0, 5, true, s, (a : Int)) else ((nb (sbit s) a n.toNat : Int), 0, true, s, ((a + n.toNat : Nat) : Int))
theorem reader_bits (s : ByteArray) (hs : s.size ≤ 1000000000000000) (a : Nat) (ha : a ≤ 8 * s.size) (n : Int) (k : Nat) (hk : 60 ≤ k) : bits_Reader_Bits.f k true s (a : Int) n = some (rb s a n) := by
  obtain ⟨k, rfl⟩ : ∃ m, k = m + 1 := ⟨k - 1, by omega⟩
  unfold bits_Reader_Bits.f bits_Reader_given.f rb
  simp only [Option.bind_some, if_true]
  by_cases h1 : n < 0
  · rw [if_pos h1, if_pos (Or.inl h1), bits_Reader_Bits.j0, if_pos rfl]
  · rw [if_neg h1]
    by_cases h2 : n > 57
    · rw [if_pos (Or.inr h2), bits_Reader_Bits.j0, if_pos (by simpa using h2)]
    · rw [if_neg (by omega), bits_Reader_Bits.j0, if_neg (by simpa using h2)]
      have e1 : wrap64 (wrap64 (8 * (s.size : Int)) - (a : Int)) = 8 * (s.size : Int) - a := by unfold wrap64; omega
      rw [e1]
      clear e1
      by_cases h3 : 8 * (s.size : Int) - a < n
      · rw [if_pos h3, if_pos h3]
      · rw [if_neg h3, if_neg h3]
        obtain ⟨m, rfl⟩ := Int.eq_ofNat_of_zero_le (by omega : 0 ≤ n)
        have := reader_loop s hs a m (by omega) (by omega) m k 0 0 (by omega) (by omega) (by omega) (by decide) (fun _ => by decide) (fun i hi => by omega)
        rw [Int.toNat_natCast]
        exact this
theorem reader_place (s : ByteArray) (a : Int) : bits_Reader_Place.f true s a = some (a, true, s, a) := rfl
end Go.Proofs.Yteffjbjhkaobfaa.PR
namespace Go.Proofs.Yteffjbjhkaobfaa.PR
open Go.RowKit Go.Proofs.YteffjbjhkaobfaaW.PrintWords Go.Proofs.YteffjbjhkaobfaaW.PrintLast Go.Proofs.YteffjbjhkaobfaaW.PrintMore Go.Proofs.Yteffjbjhkaobfaa.MB Go.Proofs.Yteffjbjhkaobfaa.Fn

theorem shl_i64_bit (c m : Nat) (hc : c < 2) (hm : m ≤ 57) : shl .i64 (c : Int) (m : Int) = ((c * 2 ^ m : Nat) : Int) := by
  have h1 : 2 ^ m ≤ 2 ^ 57 := Nat.pow_le_pow_right (by decide) hm
  have h2 : c * 2 ^ m ≤ 1 * 2 ^ m := Nat.mul_le_mul_right _ (by omega)
  unfold shl
  rw [show min ((m : Int)).toNat IntKind.i64.bits = m from by simp [IntKind.bits]; omega]
  have e : ((c : Int) * 2 ^ m) = ((c * 2 ^ m : Nat) : Int) := by simp
  rw [e]
  exact wraps_i64 _ (Int.natCast_nonneg _) (cast_lt_two_pow (by omega))
theorem testBit_zero_mod (b r : Nat) : b / 2 ^ r % 2 = if b.testBit r then 1 else 0 := by
  have := Nat.testBit_eq_decide_div_mod_eq (x := b) (i := r)
  rw [this]
  have h2 := Nat.mod_two_eq_zero_or_one (b / 2 ^ r)
  rcases h2 with h | h <;> simp [h]
theorem bit_f (s : ByteArray) (hs : s.size ≤ 1000000000000000) (a : Nat) (ha : a < 8 * s.size) : postroadref01_Bit.f s (a : Int) = some (((if sbit s a then 1 else 0 : Nat)) : Int) := by
  unfold postroadref01_Bit.f
  obtain ⟨b, hb, hb8⟩ := bt_nat s ((a / 8 : Nat) : Int)
  rw [tdiv_cast, tmod_cast, w64c _ (by omega), if_pos (by omega), if_pos (by omega), if_pos (by omega), hb, shr_u8 _ _ (by omega)]
  have hy : b / 2 ^ (a % 8) < 256 := Nat.lt_of_le_of_lt (Nat.div_le_self _ _) hb8
  rw [w64c _ (Nat.lt_of_lt_of_le hy (by decide)), show (1 : Int) = ((1 : Nat) : Int) from rfl, and_i64 _ 1 (Nat.lt_of_lt_of_le hy (by decide)) (by decide)]
  have e : b / 2 ^ (a % 8) &&& 1 = b / 2 ^ (a % 8) % 2 := by rw [show (1 : Nat) = 2 ^ 1 - 1 from rfl, Nat.and_two_pow_sub_one_eq_mod]
  rw [e, testBit_zero_mod]
  unfold sbit
  rw [hb]
  rfl
theorem rbits_loop (s : ByteArray) (hs : s.size ≤ 1000000000000000) (a n : Nat) (hn : n ≤ 57) (hfit : a + n ≤ 8 * s.size) : ∀ (d k i : Nat), i + d = n → d < k →
    postroadref01_Bits.l0 k s (a : Int) (n : Int) (nb (sbit s) a i : Int) (i : Int) = some ((nb (sbit s) a n : Int), true) := by
  intro d
  induction d with
  | zero =>
    intro k i hi hk
    obtain ⟨k, rfl⟩ : ∃ m, k = m + 1 := ⟨k - 1, by omega⟩
    rw [postroadref01_Bits.l0, if_neg (by omega), show i = n from by omega]
  | succ d ih =>
    intro k i hi hk
    obtain ⟨k, rfl⟩ : ∃ m, k = m + 1 := ⟨k - 1, by omega⟩
    have hlt := nb_lt (sbit s) a (i + 1)
    have hp : 2 ^ (i + 1) ≤ 2 ^ 57 := Nat.pow_le_pow_right (by decide) (by omega)
    have e0 : nb (sbit s) a (i + 1) = nb (sbit s) a i + (if sbit s (a + i) then 1 else 0) * 2 ^ i := by
      show nb (sbit s) a i + (if sbit s (a + i) = true then 2 ^ i else 0) = _
      split <;> simp
    rw [postroadref01_Bits.l0, if_pos (by omega), ← Int.natCast_add, w64c _ (by omega), bit_f s hs (a + i) (by omega)]
    simp only [Option.bind_some]
    rw [if_pos (by omega), shl_i64_bit _ _ (by split <;> omega) (by omega), ← Int.natCast_add, ← e0, w64c _ (by omega), show (i : Int) + 1 = ((i + 1 : Nat) : Int) from rfl, w64c _ (by omega)]
    exact ih k (i + 1) (by omega) (by omega)
theorem rbits_f (s : ByteArray) (hs : s.size ≤ 1000000000000000) (a : Nat) (ha : a ≤ 8 * s.size) (n : Int) (h0 : 0 ≤ n) (h57 : n ≤ 57) (k : Nat) (hk : 60 ≤ k) :
    postroadref01_Bits.f k s (a : Int) n = some (if 8 * (s.size : Int) - a < n then (0, false) else ((nb (sbit s) a n.toNat : Int), true)) := by
  unfold postroadref01_Bits.f
  have e1 : wrap64 (wrap64 (8 * (s.size : Int)) - (a : Int)) = 8 * (s.size : Int) - a := by unfold wrap64; omega
  rw [e1]
  clear e1
  by_cases h3 : 8 * (s.size : Int) - a < n
  · rw [if_pos h3, if_pos h3]
  · rw [if_neg h3, if_neg h3]
    obtain ⟨m, rfl⟩ := Int.eq_ofNat_of_zero_le h0
    exact rbits_loop s hs a m (by omega) (by omega) m k 0 (by omega) (by omega)
end Go.Proofs.Yteffjbjhkaobfaa.PR
namespace Go.Proofs.Yteffjbjhkaobfaa.HP
open Go.RowKit Go.Proofs.Yteffjbjhkaobfaa.Fn Go.Proofs.Yteffjbjhkaobfaa.HF Go.Proofs.Yteffjbjhkaobfaa.PR Go.Proofs.Yteffjbjhkaobfaa.MB Go.Proofs.YteffjbjhkaobfaaW.PrintWords Go.Proofs.YteffjbjhkaobfaaW.PrintLast Go.Proofs.YteffjbjhkaobfaaW.PrintMore
/-- Does a longer word begin with w (as the loop asks)? -/
def begB (lens : List Int) (l : Nat) (w : Int) (i : Nat) : Bool := decide ((l : Int) < rd lens (i : Int)) && (shr .i64 (rd (codesL lens) (i : Int)) (rd lens (i : Int) - l) == w)
theorem begB_iff {lens : List Int} {l : Nat} {w : Int} {i : Nat} (hi : i < lens.length) : begB lens l w i = true ↔ Begins lens l w i := by
  unfold begB Begins
  rw [rd_get lens i hi, codes_rd lens i hi]
  simp only [Bool.and_eq_true, decide_eq_true_eq, beq_iff_eq]
  exact ⟨fun ⟨h1, h2⟩ => ⟨hi, h1, h2⟩, fun ⟨_, h1, h2⟩ => ⟨h1, h2⟩⟩
theorem sym_step {lens : List Int} (hl : lens.length ≤ 288) (hr : ∀ x ∈ lens, 0 ≤ x ∧ x ≤ 15) (s : ByteArray) (a l i : Nat) (h15 : l ≤ 15) (w : Int) (b : Bool) (k : Nat) (hi : i < lens.length) (hn : ¬ (rd lens (i : Int) = (l : Int) ∧ rd (codesL lens) (i : Int) = w)) :
    postroadref03_Symbol.l1 (k + 1) lens (codesL lens) s (a : Int) w (l : Int) b (i : Int) = postroadref03_Symbol.l1 k lens (codesL lens) s (a : Int) w (l : Int) (b || begB lens l w i) ((i + 1 : Nat) : Int) := by
  have w1 : wrap64 ((i : Int) + 1) = ((i + 1 : Nat) : Int) := by unfold wrap64; omega
  have hx := hr lens[i] (List.getElem_mem _)
  have hrd := rd_get lens i hi
  have w2 : wrap64 (rd lens (i : Int) - (l : Int)) = rd lens (i : Int) - (l : Int) := by rw [hrd]; unfold wrap64; omega
  have hcl := codesL_len lens
  have g1 : (i : Int) < (lens.length : Int) := by omega
  have g2 : (0 : Int) ≤ (i : Int) := by omega
  have g3 : (i : Int) < ((codesL lens).length : Int) := by omega
  rw [postroadref03_Symbol.l1, if_pos g1, if_pos g2, if_pos g3, if_pos g3, w1, w2]
  unfold begB
  generalize rd lens (i : Int) = x at hn hrd w2
  generalize rd (codesL lens) (i : Int) = y at hn
  by_cases hxl : x = (l : Int)
  · have hyw : ¬ y = w := fun e => hn ⟨hxl, e⟩
    have e1 : decide ((l : Int) < x) = false := decide_eq_false (by omega)
    rw [if_pos hxl, if_neg hyw, e1, Bool.false_and, Bool.or_false]
    cases b
    · rw [if_neg (by decide), if_neg (by omega)]
    · rw [if_pos rfl]
  · rw [if_neg hxl]
    cases b
    · rw [if_neg (by decide), Bool.false_or]
      by_cases hgt : x > (l : Int)
      · rw [if_pos hgt, if_pos (by omega), decide_eq_true (show (l : Int) < x from hgt), Bool.true_and]
      · rw [if_neg hgt, decide_eq_false (show ¬ (l : Int) < x by omega), Bool.false_and]
    · rw [if_pos rfl, Bool.true_or]
theorem sym_hit {lens : List Int} (hl : lens.length ≤ 288) (hr : ∀ x ∈ lens, 0 ≤ x ∧ x ≤ 15) (s : ByteArray) (a l j : Nat) (ha : a ≤ 100000000000000000) (h15 : l ≤ 15) (w : Int) (hj : j < lens.length) (h1 : rd lens (j : Int) = (l : Int)) (h2 : rd (codesL lens) (j : Int) = w)
    (hu : ∀ i : Nat, i < j → ¬ (rd lens (i : Int) = (l : Int) ∧ rd (codesL lens) (i : Int) = w)) : ∀ (e i : Nat) (b : Bool), i + e = j → ∃ k, postroadref03_Symbol.l1 k lens (codesL lens) s (a : Int) w (l : Int) b (i : Int) = some ((j : Int), ((a + l : Nat) : Int), 0) := by
  intro e
  induction e with
  | zero =>
    intro i b hi
    have hcl := codesL_len lens
    have w1 : wrap64 ((a : Int) + (l : Int)) = ((a + l : Nat) : Int) := by unfold wrap64; omega
    refine ⟨1, ?_⟩
    rw [show i = j by omega, postroadref03_Symbol.l1, if_pos (by omega), if_pos (by omega), if_pos h1, if_pos (by omega), if_pos h2, w1]
  | succ e ih =>
    intro i b hi
    obtain ⟨k, hk⟩ := ih (i + 1) (b || begB lens l w i) (by omega)
    exact ⟨k + 1, by rw [sym_step hl hr s a l i h15 w b k (by omega) (hu i (by omega)), hk]⟩
theorem sym_miss {lens : List Int} (hl : lens.length ≤ 288) (hr : ∀ x ∈ lens, 0 ≤ x ∧ x ≤ 15) (s : ByteArray) (a l : Nat) (h15 : l ≤ 15) (w : Int) (hu : ∀ i : Nat, i < lens.length → ¬ (rd lens (i : Int) = (l : Int) ∧ rd (codesL lens) (i : Int) = w)) (r : Int × Int × Int)
    (hn : (∃ i, Begins lens l w i) → ∃ k, postroadref03_Symbol.l0 k lens (codesL lens) s (a : Int) w ((l + 1 : Nat) : Int) = some r) (hz : ¬ (∃ i, Begins lens l w i) → r = (0, 0, 30)) :
    ∀ (e i : Nat) (b : Bool), i + e = lens.length → (b = true → ∃ i, Begins lens l w i) → (b = false → ∀ i' < i, ¬ Begins lens l w i') → ∃ k, postroadref03_Symbol.l1 k lens (codesL lens) s (a : Int) w (l : Int) b (i : Int) = some r := by
  intro e
  induction e with
  | zero =>
    intro i b hi h1 h2
    have w1 : wrap64 ((l : Int) + 1) = ((l + 1 : Nat) : Int) := by unfold wrap64; omega
    cases b with
    | true =>
      obtain ⟨k, hk⟩ := hn (h1 rfl)
      refine ⟨k + 1, ?_⟩
      rw [postroadref03_Symbol.l1, if_neg (by omega), if_pos rfl, w1, hk]
    | false =>
      refine ⟨1, ?_⟩
      rw [postroadref03_Symbol.l1, if_neg (by omega), if_neg (by decide), hz (fun ⟨j, hb⟩ => h2 rfl j (by have := hb.1; omega) hb)]
  | succ e ih =>
    intro i b hi h1 h2
    obtain ⟨k, hk⟩ := ih (i + 1) (b || begB lens l w i) (by omega) (fun h => by
      rcases Bool.or_eq_true_iff.1 h with h | h
      · exact h1 h
      · exact ⟨i, (begB_iff (by omega)).1 h⟩) (fun h i' hi' hb => by
      rw [Bool.or_eq_false_iff] at h
      by_cases hii : i' = i
      · subst hii
        rw [(begB_iff (by omega)).2 hb] at h
        cases h.2
      · exact h2 h.1 i' (by omega) hb)
    exact ⟨k + 1, by rw [sym_step hl hr s a l i h15 w b k (by omega) (hu i (by omega)), hk]⟩
/-- What the document tells of a symbol. -/
def symR (r : Int × Int × Nat) : Int × Int × Int := (r.1, if r.2.1 = 0 then (r.2.2 : Int) else 0, r.2.1)
theorem bitI_b (s : ByteArray) (a : Nat) : bitI s a = 0 ∨ bitI s a = 1 := by
  have := nb_lt (sbit s) a 1
  unfold bitI
  omega
theorem sym_out {lens : List Int} (ho : okL lens = true) (s : ByteArray) (hs : s.size ≤ 1000000000000000) (a : Nat) : ∀ (d m w : Nat), m + d = 15 → a + m ≤ 8 * s.size → eT (cF lens) m ≤ (w : Int) → w < 2 ^ m →
    ∃ k, postroadref03_Symbol.l0 k lens (codesL lens) s (a : Int) (w : Int) ((m + 1 : Nat) : Int) = some (symR (symS lens s d (m + 1) (w : Int) (a + m))) := by
  have o1 := (okL_open ho).1
  have o2 := (okL_open ho).2.1
  intro d
  induction d with
  | zero =>
    intro m w hl _ _ _
    refine ⟨1, ?_⟩
    rw [postroadref03_Symbol.l0, if_neg (by omega)]
    rfl
  | succ d ih =>
    intro m w hl ha he hw
    have h15 : m + 1 ≤ 15 := by omega
    have hp : 2 ^ m ≤ 2 ^ 14 := Nat.pow_le_pow_right (by decide) (by omega)
    have w1 : wrap64 (wrap64 ((a : Int) + ((m + 1 : Nat) : Int)) - 1) = ((a + m : Nat) : Int) := by
      rw [wrap64_id ((a : Int) + ((m + 1 : Nat) : Int)) (by omega) (by omega), wrap64_id _ (by omega) (by omega)]
      omega
    have W1 := Aside0.mk w1
    have HB := Aside0.mk (fun k hk => rbits_f s hs (a + m) ha 1 (by decide) (by decide) k hk)
    have i15 : ((m + 1 : Nat) : Int) ≤ 15 := by omega
    clear w1
    unfold symS
    rw [Nat.add_sub_cancel]
    by_cases hsh : 8 * s.size < a + m + 1
    · have hsi : 8 * (s.size : Int) - ((a + m : Nat) : Int) < 1 := by omega
      refine ⟨61, ?_⟩
      rw [postroadref03_Symbol.l0, if_pos i15, W1.out, HB.out 60 (Nat.le_refl _), if_pos hsi, if_pos hsh]
      simp only [Option.bind_some]
      rw [if_neg (by decide)]
      rfl
    · rw [if_neg hsh]
      have hsi : ¬ 8 * (s.size : Int) - ((a + m : Nat) : Int) < 1 := by omega
      have hbit := bitI_b s (a + m)
      have hbi : ((nb (sbit s) (a + m) (Int.toNat 1) : Nat) : Int) = bitI s (a + m) := rfl
      have W2 := Aside0.mk (show wrap64 (wrap64 (2 * (w : Int)) + bitI s (a + m)) = 2 * (w : Int) + bitI s (a + m) by
        rw [wrap64_id (2 * (w : Int)) (by omega) (by omega), wrap64_id _ (by omega) (by omega)])
      have hgo : ∀ r, (∃ k, postroadref03_Symbol.l1 k lens (codesL lens) s (a : Int) (2 * (w : Int) + bitI s (a + m)) ((m + 1 : Nat) : Int) false 0 = some r) → ∃ k, postroadref03_Symbol.l0 k lens (codesL lens) s (a : Int) (w : Int) ((m + 1 : Nat) : Int) = some r := fun r ⟨k, hk⟩ => by
        refine ⟨(60 + k) + 1, ?_⟩
        have hk2 := up (fun k => (postroadref03_Symbol.mono_l k).2 lens (codesL lens) s (a : Int) (2 * (w : Int) + bitI s (a + m)) ((m + 1 : Nat) : Int) false 0) hk 60
        rw [Nat.add_comm] at hk2
        rw [postroadref03_Symbol.l0, if_pos i15, W1.out, HB.out (60 + k) (Nat.le_add_right _ _), if_neg hsi, hbi]
        simp only [Option.bind_some, if_true, W2.out]
        exact hk2
      obtain ⟨w', hw'⟩ : ∃ w' : Nat, 2 * (w : Int) + bitI s (a + m) = w' := ⟨(2 * (w : Int) + bitI s (a + m)).toNat, by omega⟩
      rw [hw'] at hgo ⊢
      have hlt : w' < 2 ^ (m + 1) := by
        rw [Nat.pow_succ]
        omega
      have he2 : 2 * eT (cF lens) m ≤ (w' : Int) := by omega
      have hE : eT (cF lens) (m + 1) = 2 * eT (cF lens) m + cF lens (m + 1) := eT_succ _ _
      clear hbit hbi W2 HB W1 hsi
      by_cases hit : (w' : Int) < eT (cF lens) (m + 1)
      · rw [if_pos hit]
        obtain ⟨k, hk⟩ : ∃ k : Nat, (w' : Int) - 2 * eT (cF lens) m = k := ⟨((w' : Int) - 2 * eT (cF lens) m).toNat, by omega⟩
        obtain ⟨j, hj, hs1, hs2, hs3⟩ := sym_at (lens := lens) (m + 1) k (by omega) h15 (by omega)
        rw [Nat.add_sub_cancel] at hs1 hs3
        rw [hk, Int.toNat_natCast, hs1]
        obtain ⟨k0, hk0⟩ := sym_hit o1 o2 s a (m + 1) j (by omega) h15 (w' : Int) hj (by rw [rd_get lens j hj, hs2]) (by rw [codes_rd lens j hj, hs3]; omega) (fun i hi ⟨q1, q2⟩ => by
          have hil : i < lens.length := by omega
          rw [rd_get lens i hil] at q1
          rw [codes_rd lens i hil] at q2
          refine code_apart ho i j (m + 1) 0 hil hj (by omega) q1 (by omega) (by rw [hs2]) ?_
          obtain ⟨c, hc⟩ : ∃ c : Nat, codeAt lens j = c := ⟨w', by omega⟩
          rw [hc, show ((0 : Nat) : Int) = ((0 : Nat) : Int) from rfl, shr_i64 c 0 (by omega), Nat.pow_zero, Nat.div_one, q2]
          omega) j 0 false (by omega)
        exact hgo _ ⟨k0, hk0⟩
      · rw [if_neg hit]
        refine hgo _ ?_
        have hbi2 := begins_iff ho (m + 1) (by omega) w' (by omega)
        refine sym_miss o1 o2 s a (m + 1) h15 (w' : Int) (fun i hi ⟨q1, q2⟩ => ?_) _ (fun hB => ?_) (fun hB => ?_) lens.length 0 false (by omega) (fun h => by cases h) (fun _ i' h => absurd h (Nat.not_lt_zero _))
        · rw [rd_get lens i hi] at q1
          rw [codes_rd lens i hi] at q2
          obtain ⟨c1, c2, c3⟩ := code_fits ho i (m + 1) hi q1 (by omega)
          have : eT (cF lens) (m + 1) = nxt (fun k => cntL lens k) (m + 1) + cntL lens ((m + 1 : Nat) : Int) := if_neg (by omega)
          omega
        · have hB2 := hbi2.1 hB
          obtain ⟨k, hk⟩ := ih (m + 1) w' (by omega) (by omega) (by omega) hlt
          refine ⟨k, ?_⟩
          rw [if_pos hB2, hk]; rfl
        · rw [if_neg (fun h => hB (hbi2.2 h))]
          rfl
theorem refsym_ok {lens : List Int} (ho : okL lens = true) (s : ByteArray) (hs : s.size ≤ 1000000000000000) (a : Nat) (ha : a ≤ 8 * s.size) : ∃ k, postroadref03_Symbol.f k lens (codesL lens) s (a : Int) = some (symR (symF lens s a)) := by
  obtain ⟨k, hk⟩ := sym_out ho s hs a 15 0 0 rfl (by omega) (by simp [eT]) (by decide)
  exact ⟨k, hk⟩
end Go.Proofs.Yteffjbjhkaobfaa.HP
