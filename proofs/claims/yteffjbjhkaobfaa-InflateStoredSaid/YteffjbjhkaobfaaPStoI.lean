/- Blocks that are stored, one behind the other: plain. -/
import Derived.Test.YteffjbjhkaobfaaPLawI
namespace Go.Proofs.Yteffjbjhkaobfaa.IW
open Go.RowKit Go.Proofs.YteffjbjhkaobfaaW.PrintWords Go.Proofs.Yteffjbjhkaobfaa.MB Go.Proofs.Yteffjbjhkaobfaa.Fn Go.Proofs.Yteffjbjhkaobfaa.HF Go.Proofs.Yteffjbjhkaobfaa.RT Go.Proofs.Yteffjbjhkaobfaa.RT.Rd Go.Proofs.Yteffjbjhkaobfaa.HP Go.Proofs.Yteffjbjhkaobfaa.HI
def blkL (lv : Int) (p : ByteArray) : List Int := [lv, ((p.size % 256 : Nat) : Int), ((p.size / 256 : Nat) : Int), ((255 - p.size % 256 : Nat) : Int), ((255 - p.size / 256 : Nat) : Int)] ++ bytesOf p
/-- Bytes stand at a place. -/
def StandsAt (s : ByteArray) (q : Nat) (l : List Int) : Prop := q + l.length ≤ s.size ∧ ∀ i x, l[i]? = some x → bt s ((q + i : Nat) : Int) = x
theorem StandsAt.left {s : ByteArray} {q : Nat} {l m : List Int} (h : StandsAt s q (l ++ m)) : StandsAt s q l := by
  refine ⟨by have := h.1; rw [List.length_append] at this; omega, fun i x hx => h.2 i x ?_⟩
  rw [List.getElem?_append_left (by have := (List.getElem?_eq_some_iff.1 hx).1; exact this)]
  exact hx
theorem StandsAt.right {s : ByteArray} {q : Nat} {l m : List Int} (h : StandsAt s q (l ++ m)) : StandsAt s (q + l.length) m := by
  refine ⟨by have := h.1; rw [List.length_append] at this; omega, fun i x hx => ?_⟩
  have := h.2 (l.length + i) x (by rw [List.getElem?_append_right (by omega), Nat.add_sub_cancel_left]; exact hx)
  rw [← Nat.add_assoc] at this
  exact this
theorem nb_add (f : Nat → Bool) (a m : Nat) : ∀ n, nb f a (m + n) = nb f a m + 2 ^ m * nb f (a + m) n
  | 0 => by simp [nb]
  | n + 1 => by
    show nb f a (m + n) + (if f (a + (m + n)) = true then 2 ^ (m + n) else 0) = nb f a m + 2 ^ m * (nb f (a + m) n + (if f (a + m + n) = true then 2 ^ n else 0))
    rw [nb_add f a m n, Nat.mul_add, Nat.add_assoc, show a + (m + n) = a + m + n by omega]
    congr 2
    split
    · rw [Nat.pow_add]
    · rfl
theorem nb16_bytes (s : ByteArray) (q : Nat) : nb (sbit s) (8 * q) 16 = (bt s (q : Int)).toNat + 256 * (bt s ((q + 1 : Nat) : Int)).toNat := by
  have h := nb_add (sbit s) (8 * q) 8 8
  rw [byte_nb, show 8 * q + 8 = 8 * (q + 1) by omega, byte_nb] at h
  exact h
theorem head_bits (s : ByteArray) (q lv : Nat) (hl : lv < 2) (h : bt s (q : Int) = (lv : Int)) : nb (sbit s) (8 * q) 1 = lv ∧ nb (sbit s) (8 * q + 1) 2 = 0 := by
  have h1 := nb_add (sbit s) (8 * q) 1 7
  have h2 := nb_add (sbit s) (8 * q + 1) 2 5
  have h3 := byte_nb s q
  rw [h, Int.toNat_natCast] at h3
  have h4 : nb (sbit s) (8 * q) (1 + 7) = nb (sbit s) (8 * q) 8 := rfl
  have h5 : nb (sbit s) (8 * q + 1) (2 + 5) = nb (sbit s) (8 * q + 1) 7 := rfl
  have h6 := nb_lt (sbit s) (8 * q) 1
  rw [h4, h3] at h1
  rw [h5] at h2
  omega
theorem bytes_ext {a b : ByteArray} {q n : Nat} (hn : b.size = n) (hq : q + n ≤ a.size) (h : ∀ i, i < n → bt a ((q + i : Nat) : Int) = bt b (i : Int)) : bytesOf (a.extract q (q + n)) = bytesOf b := by
  rw [bytesOf_extract]
  have hl : (((bytesOf a).drop q).take n).length = n := by rw [List.length_take, List.length_drop, bytesOf_length]; omega
  refine List.ext_getElem (by rw [hl, bytesOf_length, hn]) (fun i h1 h2 => ?_)
  have hi : i < n := by omega
  rw [List.getElem_take, List.getElem_drop]
  have e1 := rd_bytesOf a ((q + i : Nat) : Int)
  have e2 := rd_bytesOf b (i : Int)
  rw [rd_get (bytesOf a) (q + i) (by rw [bytesOf_length]; omega)] at e1
  rw [rd_get (bytesOf b) i h2] at e2
  rw [e1, e2]
  exact h i hi
theorem stored_block (most F f : Nat) (out : List Int) (s : ByteArray) (q lv : Nat) (hl : lv < 2) (p : ByteArray) (h : StandsAt s q (blkL (lv : Int) p)) (hp : p.size < 65536) (hm : out.length + p.size ≤ most) :
    (inflT most F (f + 1) out).run s (8 * q) = if lv = 1 then .ok (out ++ bytesOf p) (8 * (q + 5 + p.size)) else (inflT most F f (out ++ bytesOf p)).run s (8 * (q + 5 + p.size)) := by
  obtain ⟨h1, h2⟩ := h
  have hlen : (blkL (lv : Int) p).length = 5 + p.size := by unfold blkL; rw [List.length_append, bytesOf_length]; rfl
  rw [hlen] at h1
  have b0 := h2 0 _ rfl
  have b1 := h2 1 _ rfl
  have b2 := h2 2 _ rfl
  have b3 := h2 3 _ rfl
  have b4 := h2 4 _ rfl
  rw [Nat.add_zero] at b0
  obtain ⟨g1, g2⟩ := head_bits s q lv hl b0
  have r1 : (bitsN 1).run s (8 * q) = .ok lv (8 * q + 1) := by rw [run_bitsN s 1 _ (by omega), if_pos (by omega), g1]
  have r2 : (bitsN 2).run s (8 * q + 1) = .ok 0 (8 * q + 3) := by rw [run_bitsN s 2 _ (by omega), if_pos (by omega), g2]
  have n1 : nb (sbit s) (8 * (q + 1)) 16 = p.size := by
    rw [nb16_bytes, b1, b2, Int.toNat_natCast, Int.toNat_natCast]
    omega
  have n2 : nb (sbit s) (8 * (q + 1) + 16) 16 = 65535 - p.size := by
    rw [show 8 * (q + 1) + 16 = 8 * (q + 3) by omega, nb16_bytes, b3, b4, Int.toNat_natCast, Int.toNat_natCast]
    omega
  have r3 : (storedT most out).run s (8 * q + 3) = .ok (out ++ bytesOf p) (8 * (q + 5 + p.size)) := by
    rw [run_stored most out s (8 * q + 3) (8 * (q + 1)) (by omega) (by omega), n1, n2, if_pos (by omega), if_pos (by omega), if_pos (by omega), if_neg (by omega), show 8 * (q + 1) / 8 + 4 = q + 5 by omega, if_pos (by omega)]
    rw [bytes_ext rfl (by omega) (fun i hi => ?_), show 8 * (q + 1) + 32 + 8 * p.size = 8 * (q + 5 + p.size) by omega]
    have := h2 (5 + i) (bt p (i : Int)) (by
      unfold blkL
      rw [List.getElem?_append_right (by simp)]
      show (bytesOf p)[5 + i - 5]? = _
      rw [Nat.add_sub_cancel_left, List.getElem?_eq_getElem (by rw [bytesOf_length]; exact hi), ← rd_get (bytesOf p) i (by rw [bytesOf_length]; exact hi), rd_bytesOf])
    rw [← Nat.add_assoc] at this
    exact this
  rw [inflT_kind, bind_run _ r1, bind_run _ r2]
  show ((storedT most out).bind _).run s _ = _
  rw [bind_run _ r3]
  by_cases h1 : lv = 1
  · rw [if_pos h1, if_pos h1]
    rfl
  · rw [if_neg h1, if_neg h1]
def zOf : List ByteArray → List Int
  | [] => []
  | p :: r => blkL 0 p ++ zOf r
def allOf : List ByteArray → ByteArray
  | [] => ⟨#[]⟩
  | p :: r => p ++ allOf r
def endL : List Int := [1, 0, 0, 255, 255]
theorem bytesOf_app (a b : ByteArray) : bytesOf (a ++ b) = bytesOf a ++ bytesOf b := by simp [bytesOf]
theorem stored_all (most F : Nat) (s : ByteArray) : ∀ (ps : List ByteArray) (f q : Nat) (out : List Int), ps.length < f → (∀ p ∈ ps, p.size ≤ 2000) → StandsAt s q (zOf ps ++ endL) → out.length + (allOf ps).size ≤ most →
    (inflT most F f out).run s (8 * q) = .ok (out ++ bytesOf (allOf ps)) (8 * (q + (zOf ps).length + 5))
  | [], f, q, out, hf, _, hs, hm => by
    obtain ⟨f, rfl⟩ : ∃ g, f = g + 1 := ⟨f - 1, by omega⟩
    have h := stored_block most F f out s q 1 (by decide) ⟨#[]⟩ hs (by decide) hm
    rw [if_pos rfl] at h
    exact h
  | p :: r, f, q, out, hf, hp, hs, hm => by
    rw [List.length_cons] at hf
    obtain ⟨f, rfl⟩ : ∃ g, f = g + 1 := ⟨f - 1, by omega⟩
    have hz : zOf (p :: r) ++ endL = blkL 0 p ++ (zOf r ++ endL) := by
      show (blkL 0 p ++ zOf r) ++ endL = _
      rw [List.append_assoc]
    rw [hz] at hs
    have hsz : (allOf (p :: r)).size = p.size + (allOf r).size := ByteArray.size_append ..
    have hlen : (blkL 0 p).length = 5 + p.size := by unfold blkL; rw [List.length_append, bytesOf_length]; rfl
    have h2000 := hp p (List.mem_cons_self ..)
    have h := stored_block most F f out s q 0 (by decide) p hs.left (by omega) (by omega)
    rw [if_neg (by decide)] at h
    have hr := hs.right
    rw [hlen, ← Nat.add_assoc] at hr
    rw [h, stored_all most F s r f (q + 5 + p.size) (out ++ bytesOf p) (by omega) (fun x hx => hp x (List.mem_cons_of_mem _ hx)) hr (by rw [List.length_append, bytesOf_length]; omega)]
    have e1 : out ++ bytesOf p ++ bytesOf (allOf r) = out ++ bytesOf (allOf (p :: r)) := by
      show _ = out ++ bytesOf (p ++ allOf r)
      rw [bytesOf_app, List.append_assoc]
    have e2 : (zOf (p :: r)).length = 5 + p.size + (zOf r).length := by
      show (blkL 0 p ++ zOf r).length = _
      rw [List.length_append, hlen]
    rw [e1, e2]
    congr 2
    omega
theorem zOf_app : ∀ (a b : List ByteArray), zOf (a ++ b) = zOf a ++ zOf b
  | [], b => rfl
  | p :: r, b => by
    show blkL 0 p ++ zOf (r ++ b) = (blkL 0 p ++ zOf r) ++ zOf b
    rw [zOf_app r b, List.append_assoc]
theorem ba_empty (a : ByteArray) : (⟨#[]⟩ : ByteArray) ++ a = a := by
  apply ByteArray.ext
  simp
theorem ba_empty_r (a : ByteArray) : a ++ (⟨#[]⟩ : ByteArray) = a := by
  apply ByteArray.ext
  simp
theorem allOf_app : ∀ (a b : List ByteArray), allOf (a ++ b) = allOf a ++ allOf b
  | [], b => by
    show allOf b = ⟨#[]⟩ ++ allOf b
    rw [ba_empty]
  | p :: r, b => by
    show p ++ allOf (r ++ b) = (p ++ allOf r) ++ allOf b
    rw [allOf_app r b, ByteArray.append_assoc]
theorem all_size : ∀ (ps : List ByteArray), (∀ p ∈ ps, p.size ≤ 2000) → (allOf ps).size ≤ 2000 * ps.length ∧ (zOf ps).length ≤ 2005 * ps.length
  | [], _ => ⟨Nat.le_refl _, Nat.le_refl _⟩
  | p :: r, h => by
    have h1 := all_size r (fun x hx => h x (List.mem_cons_of_mem _ hx))
    have h2 := h p (List.mem_cons_self ..)
    have h3 : (allOf (p :: r)).size = p.size + (allOf r).size := ByteArray.size_append ..
    have h4 : (zOf (p :: r)).length = 5 + p.size + (zOf r).length := by
      show (blkL 0 p ++ zOf r).length = _
      rw [List.length_append]
      unfold blkL
      rw [List.length_append, bytesOf_length]
      rfl
    rw [List.length_cons]
    omega
theorem bytesOf_rng (s : ByteArray) : ∀ x ∈ bytesOf s, 0 ≤ x ∧ x < 256 := by
  intro x hx
  unfold bytesOf at hx
  rw [List.mem_map] at hx
  obtain ⟨b, _, rfl⟩ := hx
  have := b.toNat_lt
  omega
theorem zOf_rng : ∀ (ps : List ByteArray), (∀ p ∈ ps, p.size ≤ 2000) → ∀ x ∈ zOf ps, 0 ≤ x ∧ x < 256
  | [], _, x, hx => by cases hx
  | p :: r, h, x, hx => by
    rcases List.mem_append.1 (show x ∈ blkL 0 p ++ zOf r from hx) with hx | hx
    · rcases List.mem_append.1 (show x ∈ [0, ((p.size % 256 : Nat) : Int), ((p.size / 256 : Nat) : Int), ((255 - p.size % 256 : Nat) : Int), ((255 - p.size / 256 : Nat) : Int)] ++ bytesOf p from hx) with hx | hx
      · have h2 := h p (List.mem_cons_self ..)
        simp only [List.mem_cons, List.not_mem_nil, or_false] at hx
        rcases hx with rfl | rfl | rfl | rfl | rfl <;> omega
      · exact bytesOf_rng p x hx
    · exact zOf_rng r (fun y hy => h y (List.mem_cons_of_mem _ hy)) x hx
theorem bytesOf_nums {bs : List Int} (h : ∀ b ∈ bs, 0 ≤ b ∧ b < 256) : bytesOf (strOfNums bs) = bs := by
  unfold bytesOf strOfNums
  simp only [List.map_map]
  conv => rhs; rw [← List.map_id bs]
  refine List.map_congr_left fun b hb => ?_
  have := h b hb
  simp only [Function.comp_apply, UInt8.toNat_ofNat', id_eq]
  omega
theorem nums_bytesOf (s : ByteArray) : strOfNums (bytesOf s) = s := by
  unfold bytesOf strOfNums
  apply ByteArray.ext
  simp [Function.comp_def]
theorem stands_nums {z : List Int} (h : ∀ b ∈ z, 0 ≤ b ∧ b < 256) : StandsAt (strOfNums z) 0 z := by
  refine ⟨by rw [strOfNums_size]; omega, fun i x hx => ?_⟩
  obtain ⟨h1, h2⟩ := List.getElem?_eq_some_iff.1 hx
  rw [Nat.zero_add, ← rd_bytesOf, bytesOf_nums h, rd_get z i h1, h2]
theorem stored_law (ps : List ByteArray) (h : ∀ p ∈ ps, p.size ≤ 2000) (hl : ps.length ≤ 40) : inflR (strOfNums (zOf ps ++ endL)) ((allOf ps).size : Int) = (allOf ps, (((zOf ps ++ endL).length : Nat) : Int), 0) := by
  have hs := all_size ps h
  have hr : ∀ b ∈ zOf ps ++ endL, 0 ≤ b ∧ b < 256 := by
    intro b hb
    rcases List.mem_append.1 hb with hb | hb
    · exact zOf_rng ps h b hb
    · exact (show ∀ b ∈ endL, 0 ≤ b ∧ b < 256 by decide) b hb
  have hrun := stored_all (allOf ps).size manyF (strOfNums (zOf ps ++ endL)) ps manyF 0 [] (by unfold manyF; omega) h (stands_nums hr) (by simp)
  rw [infl_shut (by omega) hrun, List.nil_append, nums_bytesOf, List.length_append]
  congr 2
  show (((8 * (0 + (zOf ps).length + 5) + 7) / 8 : Nat) : Int) = _
  have : endL.length = 5 := rfl
  omega
end Go.Proofs.Yteffjbjhkaobfaa.IW
