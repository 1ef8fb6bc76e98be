/- Records read back; the laws of layer 9, but Reads. -/
import Derived.Test.YtjdicocmajjojaaPRec2
import Derived.Test.YtjdicocmajjojaaFnx4
import Derived.Test.YtjdicocmajjojaaFnx6
import Derived.Test.YtjdicocmajjojaaFnx7
import Derived.Test.YtjdicocmajjojaaHShRec
namespace Go.Proofs.Ytjdicocmajjojaa.PZ
open Go.RowKit Go.Proofs.YtjdicocmajjojaaW.PrintWords Go.Proofs.YtjdicocmajjojaaW.PrintLast Go.Proofs.YtjdicocmajjojaaW.PrintMore Go.Proofs.Ytjdicocmajjojaa.MB Go.Proofs.Ytjdicocmajjojaa.Fn Go.Proofs.Ytjdicocmajjojaa.PV Go.Proofs.Ytjdicocmajjojaa.RB Go.Proofs.Ytjdicocmajjojaa.RO
def lst : Int → List S28 → Int
  | n, [] => n
  | _, r :: t => lst (r.f0 + 1) t
theorem ofl_run (base : Int) (hb : 0 ≤ base) : ∀ (l : List S28) (k : Nat) (next n : Int) (out : List S28) (x : ByteArray), rise next l = true → base ≤ next → ((out.length + l.length : Nat) : Int) ≤ n →
    ofl base n (l.length + k) next out (recsB base l ++ x) = ofl base n k (lst next l) (out ++ l) x := by
  intro l
  induction l with
  | nil => intro k next n out x h hn hl; rw [recsB, nil_ba, List.append_nil, lst, List.length_nil, Nat.zero_add]
  | cons r t ih =>
    intro k next n out x h hn hl
    obtain ⟨h1, h2, h3⟩ := (rise_cons _ _ _).1 h
    rw [List.length_cons] at hl
    rw [List.length_cons, show t.length + 1 + k = (t.length + k) + 1 from by omega, ofl, if_pos (by omega), recsB, ByteArray.append_assoc, one_at base r _ h1 hb (by omega)]
    simp only
    rw [if_pos ⟨trivial, h1, h2⟩, ih k (r.f0 + 1) n (out ++ [r]) x h3 (by omega) (by rw [List.length_append, List.length_singleton]; omega), lst, List.append_assoc]
    rfl
theorem ofl_cut (base : Int) (hb : 0 ≤ base) : ∀ (l : List S28) (k : Nat) (next n : Int) (out : List S28) (p rest : ByteArray), rise next l = true → base ≤ next → ((out.length + l.length : Nat) : Int) = n → p ++ rest = recsB base l → rest.size ≠ 0 →
    ofl base n k next out p = ([], 90) := by
  intro l
  induction l with
  | nil =>
    intro k next n out p rest h hn hl hp hr
    have := congrArg ByteArray.size hp
    rw [ByteArray.size_append, recsB] at this
    have : p.size + rest.size = 0 := this
    omega
  | cons r t ih =>
    intro k next n out p rest h hn hl hp hr
    obtain ⟨h1, h2, h3⟩ := (rise_cons _ _ _).1 h
    cases k with
    | zero => rfl
    | succ k =>
      rw [List.length_cons] at hl
      rw [ofl, if_pos (by omega)]
      obtain ⟨⟨r', s', o'⟩, ho⟩ : ∃ v, one base p = v := ⟨_, rfl⟩
      rw [ho]
      simp only
      by_cases hc : o' = true ∧ okRec r' = true ∧ next ≤ r'.f0
      · rw [if_pos hc]
        obtain ⟨hc1, _, _⟩ := hc
        subst hc1
        have hm := one_more base p rest s' r' ho
        rw [hp, recsB, one_at base r _ h1 hb (by omega)] at hm
        simp only [Prod.mk.injEq] at hm
        obtain ⟨rfl, hs, _⟩ := hm
        exact ih k (r.f0 + 1) n (out ++ [r]) s' rest h3 (by omega) (by rw [List.length_append, List.length_singleton]; omega) hs.symm hr
      · rw [if_neg hc]
theorem recB_bd (d : Nat) (r : S28) (hd : d < 2 ^ 63) (h : okRec r = true) : 1 ≤ (recB d r).size ∧ (recB d r).size ≤ 27 * HR.shRec.wt r := by
  obtain ⟨h1, h2, h3, h4, h5⟩ := (okRec_iff r).1 h
  have a := vs_size d hd
  have a1 : 1 ≤ (vs d).size := by unfold vs; rw [size_strOfNums]; exact pv_pos d
  have b := vs_size r.f1.size (by omega)
  have c := vs_size (r.f2.size + 1) (by omega)
  have c0 := vs_size 0 (by decide)
  rw [HR.shRec_wt]
  unfold recB
  rw [ByteArray.size_append, ByteArray.size_append, ByteArray.size_append]
  split
  · omega
  · rw [ByteArray.size_append]; omega
theorem recs_bd (base : Int) (hb : 0 ≤ base) : ∀ (l : List S28) (next : Int), rise next l = true → l.length ≤ (recsB base l).size ∧ (recsB base l).size ≤ 27 * HR.Sh.wts HR.shRec.wt l := by
  intro l
  induction l with
  | nil => intro next h; exact ⟨Nat.zero_le _, Nat.zero_le _⟩
  | cons r t ih =>
    intro next h
    obtain ⟨h1, h2, h3⟩ := (rise_cons _ _ _).1 h
    have hm := (okRec_iff r).1 h1
    obtain ⟨i1, i2⟩ := ih _ h3
    obtain ⟨j1, j2⟩ := recB_bd (r.f0 - base).toNat r (by omega) h1
    rw [recsB, ByteArray.size_append, HR.Sh.wts_cons, List.length_cons]
    omega
theorem one_nil (base : Int) : (one base ⟨#[]⟩).2.2 = false := by
  have hst := one_steps base ⟨#[]⟩
  obtain ⟨⟨r, s', o'⟩, ho⟩ : ∃ v, one base ⟨#[]⟩ = v := ⟨_, rfl⟩
  rw [ho] at hst ⊢
  simp only at hst ⊢
  cases ho' : o' with
  | false => rfl
  | true =>
    exfalso
    have hz : nm ⟨#[]⟩ true 1099511627776 = (0, ⟨#[]⟩, false) := by kernel_rfl
    have g : ∀ (s1 : ByteArray) (o1 : Bool) (d : Int), nm ⟨#[]⟩ true 1099511627776 = (d, s1, o1) → o1 = true → False := fun s1 o1 d e e2 => by
      rw [hz] at e
      simp only [Prod.mk.injEq] at e
      rw [← e.2.2] at e2
      cases e2
    cases hst with
    | @gone d n v a1 a2 a3 a4 key o1 o2 o3 o4 h1 h2 h3 h4 h5 =>
      subst ho'
      obtain ⟨rfl, k4⟩ := nm_more (t := ⟨#[]⟩) h4
      have e2 := nm_bd a1 o1 64 (by decide)
      rw [h2] at e2
      obtain ⟨rfl, k3⟩ := tx_more (t := ⟨#[]⟩) e2.1 h3
      obtain ⟨rfl, k2⟩ := nm_more (t := ⟨#[]⟩) h2
      exact g _ _ _ h1 rfl
    | @here d n v a1 a2 a3 a4 a5 key val o1 o2 o3 o4 o5 h1 h2 h3 h4 h5 h6 =>
      subst ho'
      have e4 := nm_bd a3 o3 4097 (by decide)
      rw [h4] at e4
      obtain ⟨rfl, k6⟩ := tx_more (t := ⟨#[]⟩) (by have := e4.1; simp only at this; omega) h6
      obtain ⟨rfl, k4⟩ := nm_more (t := ⟨#[]⟩) h4
      have e2 := nm_bd a1 o1 64 (by decide)
      rw [h2] at e2
      obtain ⟨rfl, k3⟩ := tx_more (t := ⟨#[]⟩) e2.1 h3
      obtain ⟨rfl, k2⟩ := nm_more (t := ⟨#[]⟩) h2
      exact g _ _ _ h1 rfl
/-- What records' bytes are read as: with so much behind. -/
theorem recOf_at (base : Int) (l : List S28) (x : ByteArray) (hb : okBase base = true) (hr : rise base l = true) (hs : (recsB base l).size + x.size ≤ 1000000000) :
    recOf (recsB base l ++ x) base (l.length : Int) = some (if x.size = 0 then (l, 0) else ([], 90)) := by
  obtain ⟨b0, b1⟩ := (okBase_iff base).1 hb
  have hl := (recs_bd base b0 l base hr).1
  unfold recOf
  rw [if_neg (by omega), if_pos (by rw [ByteArray.size_append]; exact hs)]
  obtain ⟨k, hk⟩ : ∃ k, (recsB base l ++ x).size + 1 = l.length + (k + 1) := ⟨(recsB base l ++ x).size - l.length, by rw [ByteArray.size_append]; omega⟩
  rw [hk, ofl_run base b0 l (k + 1) base _ [] x hr (Int.le_refl _) (by simp), List.nil_append, ofl, if_neg (by omega)]
theorem recOf_more (base : Int) (l : List S28) (hb : okBase base = true) (hr : rise base l = true) (hs : (recsB base l).size ≤ 1000000000) :
    recOf (recsB base l) base ((l.length : Int) + 1) = some ([], 90) := by
  obtain ⟨b0, b1⟩ := (okBase_iff base).1 hb
  have hl := (recs_bd base b0 l base hr).1
  unfold recOf
  rw [if_neg (by omega), if_pos hs]
  obtain ⟨k, hk⟩ : ∃ k, (recsB base l).size + 1 = l.length + (k + 1) := ⟨(recsB base l).size - l.length, by omega⟩
  have h := ofl_run base b0 l (k + 1) base ((l.length : Int) + 1) [] ⟨#[]⟩ hr (Int.le_refl _) (by simp; omega)
  rw [ba_nil] at h
  rw [hk, h, List.nil_append, ofl, if_pos (by omega), one_nil, if_neg (by simp)]
theorem recOf_cut (base : Int) (l : List S28) (k : Nat) (hb : okBase base = true) (hr : rise base l = true) (hs : (recsB base l).size ≤ 1000000000) (hk : k < (recsB base l).size) :
    recOf ((recsB base l).extract 0 k) base (l.length : Int) = some ([], 90) := by
  obtain ⟨b0, b1⟩ := (okBase_iff base).1 hb
  have e1 := extract_size (recsB base l) 0 k (by omega)
  have e2 := extract_size (recsB base l) k (recsB base l).size (by omega)
  unfold recOf
  rw [if_neg (by omega), if_pos (by omega)]
  have hp : (recsB base l).extract 0 k ++ (recsB base l).extract k (recsB base l).size = recsB base l := by
    apply ba_ext
    rw [app_list, data_list, data_list, List.drop_zero, Nat.sub_zero, List.take_of_length_le (l := List.drop _ _) (by rw [List.length_drop, len_list]; omega), List.take_append_drop]
  rw [ofl_cut base b0 l _ base _ [] _ _ hr (Int.le_refl _) (by simp) hp (by omega)]
theorem same_loop (l : List S28) (hl : l.length ≤ 1000000000) : ∀ (d k i : Nat), d + i = l.length → d < k → postroadref09_Same.l0 k l l (i : Int) = some true := by
  intro d
  induction d with
  | zero =>
    intro k i hi hk
    obtain ⟨k, rfl⟩ : ∃ m, k = m + 1 := ⟨k - 1, by omega⟩
    rw [postroadref09_Same.l0, if_neg (by omega)]
  | succ d ih =>
    intro k i hi hk
    obtain ⟨k, rfl⟩ : ∃ m, k = m + 1 := ⟨k - 1, by omega⟩
    rw [postroadref09_Same.l0, if_pos (by omega), if_pos (by omega), if_pos (by omega), if_neg (by simp), w64n i (by omega)]
    exact ih k (i + 1) (by omega) (by omega)
theorem same_f (l : List S28) (hl : l.length ≤ 1000000000) (k : Nat) (hk : l.length < k) : postroadref09_Same.f k l l = some true := by
  unfold postroadref09_Same.f
  rw [if_pos rfl]
  exact same_loop l hl l.length k 0 (by omega) hk
theorem rcheck_f (r : S28) : postroadref09_Check.f r.f0 r.f1 r.f2 r.f3 = some (if okRec r = true then 0 else 90) := by
  unfold postroadref09_Check.f
  rw [may_f, Option.bind_some]
  by_cases h : okRec r = true
  · rw [if_pos h, if_pos h]
  · rw [if_neg h, if_neg h]
theorem awk : (postroadlaw09_awake.f).bind (fun t => some t) = some true := rfl
theorem bytes_f (l : List S28) (base : Int) (hl : l.length ≤ 1000000000) : record_Bytes.f l base = some (if okBase base = true ∧ rise base l = true then (recsB base l, 0) else (⟨#[]⟩, 90)) := recBytes_eq l base hl
/-! RecordBytes -/
theorem bytes_loop (l : List S28) (hl : l.length ≤ 1000000000) (a : ByteArray) (e : Int) : ∀ (d k i : Nat), d + i = l.length → d < k → postroadlaw09_RecordBytes.l0 k l a e a e (i : Int) = some true := by
  intro d
  induction d with
  | zero =>
    intro k i hi hk
    obtain ⟨k, rfl⟩ : ∃ m, k = m + 1 := ⟨k - 1, by omega⟩
    rw [postroadlaw09_RecordBytes.l0, if_neg (by omega), if_pos rfl, if_pos rfl]
    rfl
  | succ d ih =>
    intro k i hi hk
    obtain ⟨k, rfl⟩ : ∃ m, k = m + 1 := ⟨k - 1, by omega⟩
    rw [postroadlaw09_RecordBytes.l0, if_pos (by omega), if_pos (by omega), check_ok, Option.bind_some, rcheck_f, Option.bind_some, if_pos rfl, w64n i (by omega)]
    exact ih k (i + 1) (by omega) (by omega)
theorem RecordBytes (l : List S28) (base : Int) (hl : l.length ≤ 1000000000) : ∃ k, postroadlaw09_RecordBytes.f k l base = some true := ⟨l.length + 20, by
  unfold postroadlaw09_RecordBytes.f
  rw [rbytes_f l base hl _ (by omega), show record_Bytes.f l base = recBytes l base from rfl, recBytes_eq l base hl, Option.bind_some, Option.bind_some]
  exact bytes_loop l hl _ _ l.length _ 0 (by omega) (by omega)⟩
/-! RecordBack -/
theorem RecordBack (l : List S28) (base : Int) (hl : HR.Sh.wts HR.shRec.wt l ≤ 1048576) : ∃ k, postroadlaw09_RecordBack.f k l base = some true := ⟨l.length + 20, by
  have hll := HR.recs_len l
  unfold postroadlaw09_RecordBack.f
  rw [bytes_f l base (by omega), Option.bind_some]
  by_cases h : okBase base = true ∧ rise base l = true
  · obtain ⟨b0, b1⟩ := (okBase_iff base).1 h.1
    have hs := (recs_bd base b0 l base h.2).2
    rw [if_pos h, if_pos rfl]
    have e1 : record_Of.f (recsB base l) base (l.length : Int) = some (l, 0) := by
      have := recOf_at base l ⟨#[]⟩ h.1 h.2 (by show _ + 0 ≤ _; omega)
      rw [ba_nil] at this
      exact this
    have e2 : record_Of.f (recsB base l ++ (⟨#[120]⟩ : ByteArray)) base (l.length : Int) = some ([], 90) := recOf_at base l ⟨#[120]⟩ h.1 h.2 (by show _ + 1 ≤ _; omega)
    have e3 : record_Of.f (recsB base l) base (wrap64 ((l.length : Int) + 1)) = some ([], 90) := by
      rw [wrap64_id _ (by omega) (by omega)]
      exact recOf_more base l h.1 h.2 (by omega)
    simp only
    rw [e1, Option.bind_some, if_pos (by omega), e2, Option.bind_some, e3, Option.bind_some, if_pos rfl, same_f l (by omega) _ (by omega), Option.bind_some, if_pos rfl, if_pos rfl, if_pos rfl]
    rfl
  · rw [if_neg h, if_neg (by decide), if_pos rfl, rise_f l base (by omega) _ (by omega), Option.bind_some, if_neg (fun e => h (by simpa using e)), if_pos (by rw [Lib.toList_data])]
    rfl⟩
end Go.Proofs.Ytjdicocmajjojaa.PZ
