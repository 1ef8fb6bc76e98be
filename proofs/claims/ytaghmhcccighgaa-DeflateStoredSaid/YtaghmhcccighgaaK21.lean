/- Parts: PStd PAwD HAwD -/
import Derived.Test.YtaghmhcccighgaaK20
import Derived.Test.YtaghmhcccighgaaK10
set_option linter.unusedVariables false
set_option linter.unusedSimpArgs false
section
/- What Stored gives, as bytes; it is read as it was: plain. -/
namespace Go.Proofs.Ytaghmhcccighgaa.DF
open Go.RowKit Go.Proofs.YtaghmhcccighgaaW.PrintWords Go.Proofs.Ytaghmhcccighgaa.MB Go.Proofs.Ytaghmhcccighgaa.Fn Go.Proofs.Ytaghmhcccighgaa.HF Go.Proofs.Ytaghmhcccighgaa.RT Go.Proofs.Ytaghmhcccighgaa.RT.Rd Go.Proofs.Ytaghmhcccighgaa.HP Go.Proofs.Ytaghmhcccighgaa.HI Go.Proofs.Ytaghmhcccighgaa.IW
def one (x : Nat) : ByteArray := ⟨#[UInt8.ofNat x]⟩
theorem packs_one {bs : List Int} {l : List Bool} (h : Packs bs l) (hl : l.length % 8 = 0) (x : Nat) (hx : x < 256) : Packs (bs ++ [(x : Int)]) (l ++ bitsOf x 8) := by
  have h1 := packs_bytes h hl (one x)
  have e0 : ((UInt8.ofNat x).toNat : Int) = x := by
    rw [UInt8.toNat_ofNat', Nat.mod_eq_of_lt (by show x < 256; exact hx)]
  have e1 : bytesOf (one x) = [(x : Int)] := by
    show [((UInt8.ofNat x).toNat : Int)] = _
    rw [e0]
  have e2 : bitsS (one x) = bitsOf x 8 := by
    unfold bitsS bitsOf
    refine List.map_congr_left (fun i hi => ?_)
    have hi8 : i < 8 := by
      have := List.mem_range.1 hi
      exact this
    unfold sbit
    rw [show i / 8 = 0 by omega, show i % 8 = i by omega]
    have e3 := rd_bytesOf (one x) ((0 : Nat) : Int)
    rw [e1] at e3
    rw [← e3]
    rfl
  rw [e1, e2] at h1
  exact h1
theorem bits_mod (n : Nat) : bitsOf (n % 256) 8 = bitsOf n 8 := by
  unfold bitsOf
  refine List.map_congr_left (fun i hi => ?_)
  have hi8 := List.mem_range.1 hi
  rw [show 256 = 2 ^ 8 by decide, Nat.testBit_mod_two_pow, decide_eq_true hi8, Bool.true_and]
theorem bits16 (n : Nat) : bitsOf n 16 = bitsOf (n % 256) 8 ++ bitsOf (n / 256) 8 := by
  rw [bits_mod]
  exact bitsOf_add n 8 8
theorem packs_blk {bs : List Int} {l : List Bool} (h : Packs bs l) (hl : l.length % 8 = 0) (lv : Nat) (hv : lv < 2) (p : ByteArray) (hp : p.size ≤ 65535) : Packs (bs ++ blkL (lv : Int) p) (l ++ stoBlk lv p) := by
  have h1 := packs_one h hl lv (by omega)
  have h2 := packs_one h1 (by rw [List.length_append, bitsOf_length]; omega) (p.size % 256) (Nat.mod_lt _ (by decide))
  have h3 := packs_one h2 (by simp only [List.length_append, bitsOf_length]; omega) (p.size / 256) (by omega)
  have h4 := packs_one h3 (by simp only [List.length_append, bitsOf_length]; omega) (255 - p.size % 256) (by omega)
  have h5 := packs_one h4 (by simp only [List.length_append, bitsOf_length]; omega) (255 - p.size / 256) (by omega)
  have h6 := packs_bytes h5 (by simp only [List.length_append, bitsOf_length]; omega) p
  have e1 : bitsOf lv 8 = bitsOf lv 3 ++ List.replicate 5 false := by
    rcases (show lv = 0 ∨ lv = 1 by omega) with rfl | rfl <;> decide
  have e2 : bitsOf (65535 - p.size) 16 = bitsOf (255 - p.size % 256) 8 ++ bitsOf (255 - p.size / 256) 8 := by
    rw [bits16, show (65535 - p.size) % 256 = 255 - p.size % 256 by omega, show (65535 - p.size) / 256 = 255 - p.size / 256 by omega]
  unfold blkL stoBlk
  rw [e2, bits16 p.size]
  rw [e1] at h6
  simp only [List.append_assoc, List.cons_append, List.nil_append] at h6 ⊢
  exact h6
/-- The bytes of what is stored. -/
def stoL : Nat → ByteArray → List Int
  | 0, _ => []
  | k + 1, s => if s.size ≤ 65535 then blkL 1 s else blkL 0 (s.extract 0 65535) ++ stoL k (s.extract 65535 s.size)
theorem packs_sto : ∀ (k : Nat) (s : ByteArray) (bs : List Int) (l : List Bool), Packs bs l → l.length % 8 = 0 → Packs (bs ++ stoL k s) (l ++ stoF k s)
  | 0, _, bs, l, h, _ => by
    show Packs (bs ++ []) (l ++ [])
    rw [List.append_nil, List.append_nil]
    exact h
  | k + 1, s, bs, l, h, hl => by
    unfold stoL stoF
    by_cases hs : s.size ≤ 65535
    · rw [if_pos hs, if_pos hs]
      exact packs_blk h hl 1 (by decide) s hs
    · rw [if_neg hs, if_neg hs, ← List.append_assoc, ← List.append_assoc]
      have hz : (s.extract 0 65535).size ≤ 65535 := by rw [ByteArray.size_extract]; omega
      exact packs_sto k _ _ _ (packs_blk h hl 0 (by decide) _ hz) (by rw [List.length_append, stoBlk_len]; omega)
theorem sto_bytes {z s : ByteArray} {k : Nat} (hz : STold z (stoF k s)) : bytesOf z = stoL k s := by
  have h := packs_sto k s [] [] Packs.nil rfl
  rw [List.nil_append, List.nil_append] at h
  exact packs_unique (packs_of_told hz) h
theorem blkL_len (lv : Int) (p : ByteArray) : (blkL lv p).length = 5 + p.size := by unfold blkL; rw [List.length_append, bytesOf_length]; rfl
theorem stoL_len : ∀ (k : Nat) (s : ByteArray), 0 < k → s.size ≤ 65535 * k → (stoL k s).length ≤ s.size + 5 * k ∧ (s.size ≤ 65535 → (stoL k s).length = s.size + 5)
  | 0, _, h, _ => absurd h (Nat.lt_irrefl 0)
  | k + 1, s, _, hs => by
    unfold stoL
    by_cases h : s.size ≤ 65535
    · rw [if_pos h, blkL_len]
      exact ⟨by omega, fun _ => by omega⟩
    · rw [if_neg h, List.length_append, blkL_len]
      have h1 : (s.extract 0 65535).size = 65535 := by rw [ByteArray.size_extract]; omega
      have h2 : (s.extract 65535 s.size).size = s.size - 65535 := by rw [ByteArray.size_extract]; omega
      have ih := (stoL_len k (s.extract 65535 s.size) (by omega) (by rw [h2]; omega)).1
      rw [h2] at ih
      exact ⟨by omega, fun h3 => absurd h3 h⟩
theorem bytes_split (s : ByteArray) (n : Nat) (h : n ≤ s.size) : bytesOf (s.extract 0 n) ++ bytesOf (s.extract n s.size) = bytesOf s := by
  have e1 := bytesOf_extract s 0 n
  have e2 := bytesOf_extract s n (s.size - n)
  rw [Nat.zero_add] at e1
  rw [show n + (s.size - n) = s.size by omega] at e2
  rw [e1, e2, List.drop_zero, List.take_of_length_le (l := (bytesOf s).drop n) (by rw [List.length_drop, bytesOf_length]; exact Nat.le_refl _), List.take_append_drop]
theorem read_sto {z : ByteArray} (m F : Nat) : ∀ (k : Nat) (r : ByteArray) (q f : Nat) (out : List Int), 0 < k → r.size ≤ 65535 * k → k ≤ f → out.length + r.size ≤ m → StandsAt z q (stoL k r) → (inflT m F f out).run z (8 * q) = .ok (out ++ bytesOf r) (8 * (q + (stoL k r).length))
  | 0, _, _, _, _, h, _, _, _, _ => absurd h (Nat.lt_irrefl 0)
  | k + 1, r, q, f, out, _, hr, hf, hm, h => by
    obtain ⟨f, rfl⟩ : ∃ j, f = j + 1 := ⟨f - 1, by omega⟩
    unfold stoL at h ⊢
    by_cases hs : r.size ≤ 65535
    · rw [if_pos hs] at h ⊢
      rw [stored_block m F f out z q 1 (by decide) r h (by omega) (by omega), if_pos rfl, blkL_len, Nat.add_assoc]
    · rw [if_neg hs] at h ⊢
      have h1 : (r.extract 0 65535).size = 65535 := by rw [ByteArray.size_extract]; omega
      have h2 : (r.extract 65535 r.size).size = r.size - 65535 := by rw [ByteArray.size_extract]; omega
      rw [stored_block m F f out z q 0 (by decide) (r.extract 0 65535) h.left (by omega) (by omega), if_neg (by decide)]
      have h3 := h.right
      rw [blkL_len] at h3
      rw [h1] at h3 ⊢
      rw [read_sto m F k (r.extract 65535 r.size) (q + 5 + 65535) f _ (by omega) (by rw [h2]; omega) (by omega) (by rw [List.length_append, bytesOf_length, h1, h2]; omega) (by rw [Nat.add_assoc]; exact h3), List.append_assoc, bytes_split r 65535 (by omega), List.length_append, blkL_len, h1]
      simp only [Nat.add_assoc]
theorem stands_all (z : ByteArray) : StandsAt z 0 (bytesOf z) := by
  refine ⟨by rw [bytesOf_length]; omega, fun i x hx => ?_⟩
  obtain ⟨h1, h2⟩ := List.getElem?_eq_some_iff.1 hx
  rw [Nat.zero_add, ← rd_bytesOf, rd_get (bytesOf z) i h1, h2]
/-- What Stored gives is read as it was. -/
theorem stored_law {s z : ByteArray} {m : Nat} (hm : m ≤ 1048576) (hs : s.size ≤ m) (hz : STold z (stoF 17 s)) : inflR z (m : Int) = (s, (z.size : Int), 0) := by
  have hb := sto_bytes hz
  have h := stands_all z
  rw [hb] at h
  have hr := read_sto m manyF 17 s 0 manyF [] (by decide) (by omega) (by unfold manyF; decide) (by rw [List.length_nil]; omega) h
  rw [List.nil_append, Nat.zero_add, Nat.mul_zero, ← hb, bytesOf_length] at hr
  have h1 := infl_shut hm hr
  rw [h1, strOfNums_bytesOfD, show (8 * z.size + 7) / 8 = z.size by omega]
end Go.Proofs.Ytaghmhcccighgaa.DF
end
section
/- What Deflate gives is read as it was; what must come, as facts: plain. -/
namespace Go.Proofs.Ytaghmhcccighgaa.DF
open Go.RowKit Go.Proofs.YtaghmhcccighgaaW.PrintWords Go.Proofs.Ytaghmhcccighgaa.MB Go.Proofs.Ytaghmhcccighgaa.Fn Go.Proofs.Ytaghmhcccighgaa.HF Go.Proofs.Ytaghmhcccighgaa.RT Go.Proofs.Ytaghmhcccighgaa.RT.Rd Go.Proofs.Ytaghmhcccighgaa.HP Go.Proofs.Ytaghmhcccighgaa.HI Go.Proofs.Ytaghmhcccighgaa.IW
theorem sto_size {s z : ByteArray} (hs : s.size ≤ 1048576) (hz : STold z (stoF 17 s)) : z.size ≤ s.size + 85 ∧ (s.size ≤ 65535 → z.size = s.size + 5) := by
  have h1 := congrArg List.length (sto_bytes hz)
  rw [bytesOf_length] at h1
  obtain ⟨h2, h3⟩ := stoL_len 17 s (by decide) (by omega)
  exact ⟨by omega, fun h => by have := h3 h; omega⟩
/-- What Deflate gives is read as it was. -/
theorem back_law {s z zs zf zd : ByteArray} {b : List Bool} {m : Nat} (hm : m ≤ 1048576) (hs : s.size ≤ m) (h : DeZ s z zs zf zd b) : inflR z (m : Int) = (s, (z.size : Int), 0) := by
  have h1 := (sto_size (by omega) h.ts).1
  have h2 := h.ls
  rcases h.is with r | r | r
  · subst r
    exact stored_law hm hs h.ts
  · subst r
    exact fixed_law hm hs h.tf
  · subst r
    exact dyns_law hm hs h.db h.td (by omega)
theorem told_dec {z : ByteArray} {l : List Bool} (h1 : z.size = (l.length + 7) / 8) (h2 : ∀ i, i < 8 * z.size → sbit z i = l.getD i false) : STold z l := by
  refine ⟨h1, fun i => ?_⟩
  by_cases h : i < 8 * z.size
  · exact h2 i h
  · rw [List.getD_eq_getElem?_getD, List.getElem?_eq_none (by omega), Option.getD_none]
    unfold sbit
    rw [← rd_bytesOf]
    unfold rd
    rw [List.getD_eq_getElem?_getD, List.getElem?_eq_none (by rw [bytesOf_length]; omega)]
    simp
def hiS : ByteArray := ⟨#[104, 105]⟩
def a42 : ByteArray := ⟨#[97, 97, 97, 97, 97, 97, 97, 97, 97, 97, 97, 97, 97, 97, 97, 97, 97, 97, 97, 97, 97, 97, 97, 97, 97, 97, 97, 97, 97, 97, 97, 97, 97, 97, 97, 97, 97, 97, 97, 97, 97, 97]⟩
theorem aw_fix {z : ByteArray} (h : STold z (FixB (symsOf ⟨#[]⟩))) : z = ⟨#[3, 0]⟩ :=
  told_unique h (told_dec (by decide +kernel) (by decide +kernel))
theorem aw_sto {z : ByteArray} (h : STold z (stoF 17 hiS)) : z = ⟨#[1, 2, 0, 253, 255, 104, 105]⟩ :=
  told_unique h (told_dec (by decide +kernel) (by decide +kernel))
theorem aw_len : (FixB (symsOf a42)).length ≤ 60 := by decide +kernel
theorem aw_def {z zs zf zd : ByteArray} {b : List Bool} (h : DeZ a42 z zs zf zd b) : z.size < 20 := by
  have h1 := h.lf
  have h2 := h.tf.1
  have h3 := aw_len
  omega
end Go.Proofs.Ytaghmhcccighgaa.DF
end
section
/- What must come, whatever the arguments are, and the way back: walked. -/
namespace Go.Proofs.Ytaghmhcccighgaa.DF
open Go.RowKit Go.Proofs.YtaghmhcccighgaaW.PrintWords Go.Proofs.YtaghmhcccighgaaW.PrintLast Go.Proofs.YtaghmhcccighgaaW.PrintMore Go.Proofs.Ytaghmhcccighgaa.HW Go.Proofs.Ytaghmhcccighgaa.MB Go.Proofs.Ytaghmhcccighgaa.Fn Go.Proofs.Ytaghmhcccighgaa.HF Go.Proofs.Ytaghmhcccighgaa.RT Go.Proofs.Ytaghmhcccighgaa.RT.Rd Go.Proofs.Ytaghmhcccighgaa.HP Go.Proofs.Ytaghmhcccighgaa.HI Go.Proofs.Ytaghmhcccighgaa.IW
attribute [local go_sem] max2_int min2_int max_two min_two max_three min_three max_four min_four   -- for this text's walks alone
set_option maxRecDepth 100000 in
set_option maxHeartbeats 4000000 in
theorem awake_ok (W : World) : Calls Try.prog 10 #[] W fun e w' => e = .returned (.bool true) ∧ Below W.heap.size W w' := by
  have H1 := Aside0.mk (fun W : World => stored_ok hiS (by decide) W)
  have H2 := Aside0.mk (fun W : World => fixedS_ok ⟨#[]⟩ (by decide) W)
  have H3 := Aside0.mk (fun W : World => deflate_ok a42 (by decide) W)
  go_enter Try.func10, Try.ntmps10
  go_wp2_with fail
  refine (H1.out _).mono ?_
  rintro e w1 ⟨s, rfl, hs, hb1⟩
  obtain rfl := aw_sto hs
  have HB1 := Aside0.mk hb1
  clear hb1 hs
  go_wp2_with fail
  refine (H2.out _).mono ?_
  rintro e w2 ⟨z, rfl, hz, hb2⟩
  obtain rfl := aw_fix hz
  have HB2 := Aside0.mk (HB1.out.trans (hb2.mono HB1.out.size))
  clear hb2 hz
  go_wp2_with fail
  refine (H3.out _).mono ?_
  rintro e w3 ⟨u, zs, zf, zd, b, rfl, hd, hb3⟩
  have HB3 := Aside0.mk (HB2.out.trans (hb3.mono HB2.out.size))
  have hu := aw_def hd
  have hl := back_law (m := 99) (by decide) (by decide) hd
  clear hb3 hd
  go_wp2_with fail
  have H4 := Aside0.mk (rinflateQ u (by omega) 99 w3)
  rw [show (99 : Int) = ((99 : Nat) : Int) from rfl, hl] at H4
  refine H4.out.mono ?_
  rintro e w4 ⟨rfl, hb4⟩
  have HB4 := Aside0.mk (HB3.out.trans (hb4.mono HB3.out.size))
  clear hb4
  have hu2 : decide ((u.size : Int) < 20) = true := by simp; omega
  go_wp2_with fail
  go_ret
  exact ⟨rfl, HB4.out⟩
end Go.Proofs.Ytaghmhcccighgaa.DF
end
