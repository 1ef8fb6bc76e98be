/- RecordReads: the step, the loop, the law. -/
import Derived.Test.YtojnhklgfdfkcaaPRec5
namespace Go.Proofs.Ytojnhklgfdfkcaa.PZ
open Go.RowKit Go.Proofs.YtojnhklgfdfkcaaW.PrintWords Go.Proofs.YtojnhklgfdfkcaaW.PrintLast Go.Proofs.YtojnhklgfdfkcaaW.PrintMore Go.Proofs.Ytojnhklgfdfkcaa.MB Go.Proofs.Ytojnhklgfdfkcaa.Fn Go.Proofs.Ytojnhklgfdfkcaa.PV Go.Proofs.Ytojnhklgfdfkcaa.RB Go.Proofs.Ytojnhklgfdfkcaa.RO
/-- A step of the program's reading: the record and what is behind; or none. -/
def stp (base next : Int) (s : ByteArray) : Option (S63 × ByteArray) :=
  if (one base s).2.2 = true ∧ okRec (one base s).1 = true ∧ next ≤ (one base s).1.f0 then some ((one base s).1, (one base s).2.1) else none
theorem stp_none {base next : Int} {s : ByteArray} (h : ∀ r s', one base s = (r, s', true) → okRec r = true → False) : stp base next s = none := by
  unfold stp
  rw [if_neg]
  rintro ⟨h1, h2, _⟩
  exact h (one base s).1 (one base s).2.1 (by rw [← h1]) h2
theorem stp_some {base next : Int} {s s' : ByteArray} {r : S63} (h : one base s = (r, s', true)) : stp base next s = if okRec r = true ∧ next ≤ r.f0 then some (r, s') else none := by
  unfold stp
  rw [h]
  simp only [true_and]
/-- The document's step, at a place. -/
def rj3 (k : Nat) (S : ByteArray) (base n : Int) (out : List S63) (i : Int) (next : Int) (gone : Bool) (off : Int) (key : ByteArray) := postroadref09_Of.j3 k S base n out i next gone off key (⟨#[]⟩ : ByteArray) false
set_option maxHeartbeats 2000000 in
theorem reads_step (S : ByteArray) (hS : S.size ≤ 1000000000) (base n : Int) (hb : okBase base = true) (out : List S63) (hr : rise base out = true) (hol : out.length ≤ 999999999) (a : Nat) (ha : a ≤ S.size) (i k : Nat) (hi : (i : Int) < n) (hi2 : i ≤ 1000000000) (hk : out.length + 20 ≤ k) :
    postroadref09_Of.l0 (k + 3) S base n out (a : Int) (i : Int) = match stp base (lst base out) (S.extract a S.size) with
      | none => some ([], 90)
      | some (r, s') => postroadref09_Of.l0 k S base n (out ++ [r]) ((S.size - s'.size : Nat) : Int) ((i + 1 : Nat) : Int) := by
  obtain ⟨b0, b1⟩ := (okBase_iff base).1 hb
  have he := extract_size S a S.size (Nat.le_refl _)
  obtain ⟨cur, hcur⟩ : ∃ c, S.extract a S.size = c := ⟨_, rfl⟩
  have hcs : cur.size = S.size - a := by rw [← hcur, he]
  obtain ⟨⟨d, k1, e1⟩, hv1⟩ : ∃ v, var_ cur = v := ⟨_, rfl⟩
  have hok1 := var_ok cur
  have hlt1 := var_lt cur
  rw [hv1] at hok1 hlt1
  simp only at hok1 hlt1
  rw [postroadref09_Of.l0, if_pos hi, if_pos (by omega), if_pos (by omega), Int.toNat_natCast, hcur, rvar_k cur (by omega) (k + 2) (by omega), hv1, Option.bind_some]
  by_cases E1 : e1 ≠ 0 ∨ 1099511627776 ≤ d
  · have hn : stp base (lst base out) cur = none := stp_none (fun r s' ho hr2 => by
      obtain ⟨d', nk, v, s1, s2, key, s3, s4, h1, h2, h3, h4, h5, h6⟩ := one_chain ho
      obtain ⟨t1, t2, t3, t4⟩ := nm_true h1
      rw [hv1] at t1 t2 t3
      simp only at t1 t2 t3
      have hm := (okRec_iff r).1 hr2
      rcases E1 with e | e
      · exact e t1
      · omega)
    rw [hn]
    simp only
    by_cases he1 : e1 = 0
    · have hd : 1099511627776 ≤ d := E1.resolve_left (fun h => h he1)
      rw [if_pos he1, decide_eq_true hd, postroadref09_Of.j2, if_pos rfl]
    · rw [if_neg he1, postroadref09_Of.j2, if_pos rfl]
  · have he1 : e1 = 0 := Classical.not_not.1 (fun e => E1 (Or.inl e))
    have hd : ¬ 1099511627776 ≤ d := fun e => E1 (Or.inr e)
    subst he1
    obtain ⟨p1, p2, p3⟩ := hok1 rfl
    obtain ⟨m1, rfl⟩ : ∃ m : Nat, k1 = m := ⟨k1.toNat, by omega⟩
    have hnm1 : nm cur true 1099511627776 = (d, S.extract (a + m1) S.size, true) := by
      rw [nm_yes hv1 (by omega), Int.toNat_natCast, ← hcur, ext_ext S a m1 (by omega)]
    obtain ⟨a1, ha1⟩ : ∃ x, a + m1 = x := ⟨_, rfl⟩
    rw [ha1] at hnm1
    have ha1S : a1 ≤ S.size := by omega
    have he2 := extract_size S a1 S.size (Nat.le_refl _)
    obtain ⟨⟨nk, k2, e2⟩, hv2⟩ : ∃ v, var_ (S.extract a1 S.size) = v := ⟨_, rfl⟩
    have hok2 := var_ok (S.extract a1 S.size)
    rw [hv2] at hok2
    simp only at hok2
    have hw1 : Aside0 (wrap64 ((a : Int) + (m1 : Int)) = (a1 : Int)) := ⟨by rw [wrap64_id _ (by omega) (by omega)]; omega⟩
    rw [if_pos rfl, decide_eq_false hd, postroadref09_Of.j2, if_neg (by decide), hw1.out, rtext_f S hS a1 ha1S 0 (by decide) (by decide) (k + 1) (by omega) nk k2 e2 hv2, Option.bind_some]
    clear hw1
    by_cases E2 : e2 ≠ 0 ∨ nk < 0 ∨ (S.size : Int) - a1 - k2 < nk - 0
    · have hn : stp base (lst base out) cur = none := stp_none (fun r s' ho hr2 => by
        obtain ⟨d', nk', v, s1, s2, key, s3, s4, h1, h2, h3, h4, h5, h6⟩ := one_chain ho
        rw [hnm1] at h1
        simp only [Prod.mk.injEq, and_true] at h1
        obtain ⟨rfl, rfl⟩ := h1
        obtain ⟨t1, t2, t3, t4⟩ := nm_true h2
        rw [hv2] at t1 t2 t3 t4
        simp only at t1 t2 t3 t4
        obtain ⟨q1, q2, q3⟩ := hok2 t1
        have h7 := tx_true h3
        rw [t4] at h7
        have e3 := extract_size (S.extract a1 S.size) k2.toNat (S.extract a1 S.size).size (Nat.le_refl _)
        rw [e3] at h7
        rcases E2 with e | e | e
        · exact e t1
        · omega
        · omega)
      rw [hn, if_pos E2]
      simp only
      rw [if_pos (by decide)]
    · have he2' : e2 = 0 := Classical.not_not.1 (fun e => E2 (Or.inl e))
      have hnk : ¬ ((S.size : Int) - a1 - k2 < nk - 0) := fun e => E2 (Or.inr (Or.inr e))
      subst he2'
      obtain ⟨q1, q2, q3⟩ := hok2 rfl
      obtain ⟨m2, rfl⟩ : ∃ m : Nat, k2 = m := ⟨k2.toNat, by omega⟩
      obtain ⟨kn, rfl⟩ : ∃ m : Nat, nk = m := ⟨nk.toNat, by omega⟩
      rw [if_neg E2]
      simp only
      rw [Int.toNat_natCast, show ((kn : Int) - 0).toNat = kn from by omega, show (a1 : Int) + (m2 : Int) + ((kn : Int) - 0) = ((a1 + m2 + kn : Nat) : Int) from by omega]
      obtain ⟨a2, ha2⟩ : ∃ x, a1 + m2 = x := ⟨_, rfl⟩
      obtain ⟨a3, ha3⟩ : ∃ x, a2 + kn = x := ⟨_, rfl⟩
      rw [ha2, ha3]
      have ha3S : a3 ≤ S.size := by omega
      obtain ⟨key, hkey⟩ : ∃ x, S.extract a2 a3 = x := ⟨_, rfl⟩
      have hks : key.size = kn := by rw [← hkey, extract_size S a2 a3 ha3S]; omega
      have hw2 : Aside0 (wrap64 (base + d) = base + d) := ⟨wrap64_id _ (by omega) (by omega)⟩
      rw [hkey, hw2.out, if_neg (by omega)]
      clear hw2
      -- the program's key
      have hK : kn ≤ 64 → nm (S.extract a1 S.size) true 64 = ((kn : Int), S.extract a2 S.size, true) ∧ tx (S.extract a2 S.size) true (kn : Int) = (key, S.extract a3 S.size, true) := by
        intro h64
        refine ⟨by rw [nm_yes hv2 (by omega), Int.toNat_natCast, ext_ext S a1 m2 (by omega), ha2], ?_⟩
        have e5 := extract_size S a2 S.size (Nat.le_refl _)
        rw [tx_yes (by rw [e5]; omega), Int.toNat_natCast, ext_ext0 S a2 kn (by omega), ext_ext S a2 kn (by omega), ha3, hkey]
      have hbigkey : ¬ kn ≤ 64 → stp base (lst base out) cur = none := fun h64 => stp_none (fun r s' ho hr2 => by
        obtain ⟨d', nk', v, s1, s2, key', s3, s4, h1, h2, h3, h4, h5, h6⟩ := one_chain ho
        rw [hnm1] at h1
        simp only [Prod.mk.injEq, and_true] at h1
        obtain ⟨rfl, rfl⟩ := h1
        obtain ⟨t1, t2, t3, t4⟩ := nm_true h2
        rw [hv2] at t2
        simp only at t2
        omega)
      have he4 := extract_size S a3 S.size (Nat.le_refl _)
      obtain ⟨cur3, hcur3⟩ : ∃ x, S.extract a3 S.size = x := ⟨_, rfl⟩
      rw [hcur3] at he4 hK
      have hwi : Aside0 (wrap64 ((i : Int) + 1) = ((i + 1 : Nat) : Int)) := ⟨w64n i (by omega)⟩
      have hbt : 0 < cur3.size → bt cur3 0 = bt S (a3 : Int) := fun h => by
        have := bt_extract S a3 S.size 0 (Nat.le_refl _) (by omega)
        rw [hcur3] at this
        simpa using this
      by_cases G : a3 < S.size ∧ bt S (a3 : Int) = 0
      · have hg0 : (bt S (a3 : Int) == 0) = true := by rw [G.2]; rfl
        have hv3 : var_ cur3 = (0, 1, 0) := var_gone cur3 (by omega) (by rw [hbt (by omega)]; exact G.2)
        have hwa : Aside0 (wrap64 ((a3 : Int) + 1) = ((a3 + 1 : Nat) : Int)) := ⟨w64n a3 (by omega)⟩
        obtain ⟨r, hrr⟩ : ∃ r : S63, r = ⟨base + d, key, ⟨#[]⟩, true⟩ := ⟨_, rfl⟩
        rw [if_pos (by omega), if_pos (by omega), hg0, postroadref09_Of.j3, if_pos rfl, if_pos (by omega), ← hrr, Option.bind_some, rise_f _ base (by rw [List.length_append, List.length_singleton]; omega) k (by rw [List.length_append, List.length_singleton]; omega), Option.bind_some, hb, Bool.true_and, rise_snoc base out r hr, hwa.out, hwi.out]
        clear hwa hwi
        have he5 := extract_size S (a3 + 1) S.size (Nat.le_refl _)
        by_cases h64 : kn ≤ 64
        · have hone : one base cur = (r, S.extract (a3 + 1) S.size, true) := by
            unfold one
            rw [hnm1]
            simp only
            rw [(hK h64).1]
            simp only
            rw [(hK h64).2]
            simp only
            rw [nm_yes hv3 (by decide)]
            simp only
            rw [if_pos trivial, hrr]
            have := ext_ext S a3 1 (by omega)
            rw [hcur3] at this
            rw [show (1 : Int).toNat = 1 from rfl, this]
          rw [stp_some hone]
          by_cases hc : okRec r = true ∧ lst base out ≤ r.f0
          · rw [if_pos hc, if_pos (by rw [hc.1, Bool.true_and]; exact decide_eq_true hc.2)]
            simp only
            rw [he5, show S.size - (S.size - (a3 + 1)) = a3 + 1 from by omega]
          · rw [if_neg hc, if_neg (fun e => hc (by simpa using e))]
        · rw [hbigkey h64, if_neg]
          intro e
          rw [Bool.and_eq_true] at e
          have hm := (okRec_iff r).1 e.1
          rw [hrr] at hm
          simp only at hm
          omega
      · have hx : (if ((a3 : Nat) : Int) < (S.size : Int) then (if (0 : Int) ≤ (a3 : Int) then postroadref09_Of.j3 (k + 1) S base n out (i : Int) (a3 : Int) (bt S (a3 : Int) == 0) (base + d) key (⟨#[]⟩ : ByteArray) false else none) else postroadref09_Of.j3 (k + 1) S base n out (i : Int) (a3 : Int) false (base + d) key (⟨#[]⟩ : ByteArray) false) = postroadref09_Of.j3 (k + 1) S base n out (i : Int) (a3 : Int) false (base + d) key (⟨#[]⟩ : ByteArray) false := by
          by_cases h3 : a3 < S.size
          · have : (bt S (a3 : Int) == 0) = false := by
              rw [beq_eq_false_iff_ne]
              exact fun e => G ⟨h3, e⟩
            rw [if_pos (by omega), if_pos (by omega), this]
          · rw [if_neg (by omega)]
        rw [hx]
        clear hx
        obtain ⟨⟨v, k4, e4⟩, hv4⟩ : ∃ v, var_ cur3 = v := ⟨_, rfl⟩
        have hok4 := var_ok cur3
        have hgo := var_gone' cur3
        rw [hv4] at hok4 hgo
        simp only at hok4 hgo
        rw [postroadref09_Of.j3, if_neg (by decide), rtext_f S hS a3 ha3S 1 (by decide) (by decide) k (by omega) v k4 e4 (by rw [hcur3]; exact hv4), Option.bind_some]
        by_cases E4 : e4 ≠ 0 ∨ v < 1 ∨ (S.size : Int) - a3 - k4 < v - 1
        · rw [if_pos E4]
          simp only
          rw [if_pos (by decide)]
          by_cases h64 : kn ≤ 64
          · have hn : stp base (lst base out) cur = none := stp_none (fun r s' ho hr2 => by
              obtain ⟨d', nk', v', s1, s2, key', s3, s4, h1, h2, h3, h4, h5, h6⟩ := one_chain ho
              rw [hnm1] at h1
              simp only [Prod.mk.injEq, and_true] at h1
              obtain ⟨rfl, rfl⟩ := h1
              rw [(hK h64).1] at h2
              simp only [Prod.mk.injEq, and_true] at h2
              obtain ⟨rfl, rfl⟩ := h2
              rw [(hK h64).2] at h3
              simp only [Prod.mk.injEq, and_true] at h3
              obtain ⟨rfl, rfl⟩ := h3
              obtain ⟨t1, t2, t3, t4⟩ := nm_true h4
              rw [hv4] at t1 t2 t3 t4
              simp only at t1 t2 t3 t4
              obtain ⟨q5, q6, q7⟩ := hok4 t1
              have hv0 : v ≠ 0 := fun e0 => by
                obtain ⟨g1, g2⟩ := hgo t1 e0
                rw [hbt g1] at g2
                exact G ⟨by omega, g2⟩
              rcases h5 with h5 | ⟨val, h5, h7⟩
              · omega
              · have h8 := tx_true h7
                rw [t4] at h8
                have e6 := extract_size cur3 k4.toNat cur3.size (Nat.le_refl _)
                rw [e6] at h8
                rcases E4 with e | e | e
                · exact e t1
                · omega
                · omega)
            rw [hn]
          · rw [hbigkey h64]
        · have he40 : e4 = 0 := Classical.not_not.1 (fun e => E4 (Or.inl e))
          have hv1' : ¬ v < 1 := fun e => E4 (Or.inr (Or.inl e))
          have hv2' : ¬ ((S.size : Int) - a3 - k4 < v - 1) := fun e => E4 (Or.inr (Or.inr e))
          subst he40
          obtain ⟨q5, q6, q7⟩ := hok4 rfl
          obtain ⟨m4, rfl⟩ : ∃ m : Nat, k4 = m := ⟨k4.toNat, by omega⟩
          obtain ⟨vn, rfl⟩ : ∃ m : Nat, v = ((m + 1 : Nat) : Int) := ⟨(v - 1).toNat, by omega⟩
          rw [if_neg E4]
          simp only
          rw [Int.toNat_natCast, show (((vn + 1 : Nat) : Int) - 1).toNat = vn from by omega, show (a3 : Int) + (m4 : Int) + (((vn + 1 : Nat) : Int) - 1) = ((a3 + m4 + vn : Nat) : Int) from by omega]
          obtain ⟨a4, ha4⟩ : ∃ x, a3 + m4 = x := ⟨_, rfl⟩
          obtain ⟨a5, ha5⟩ : ∃ x, a4 + vn = x := ⟨_, rfl⟩
          rw [ha4, ha5]
          have ha5S : a5 ≤ S.size := by omega
          obtain ⟨val, hval⟩ : ∃ x, S.extract a4 a5 = x := ⟨_, rfl⟩
          have hvs : val.size = vn := by rw [← hval, extract_size S a4 a5 ha5S]; omega
          obtain ⟨r, hrr⟩ : ∃ r : S63, r = ⟨base + d, key, val, false⟩ := ⟨_, rfl⟩
          rw [hval, if_neg (by omega), if_pos (by omega), ← hrr, Option.bind_some, rise_f _ base (by rw [List.length_append, List.length_singleton]; omega) k (by rw [List.length_append, List.length_singleton]; omega), Option.bind_some, hb, Bool.true_and, rise_snoc base out r hr, hwi.out]
          clear hwi
          by_cases h64 : kn ≤ 64
          · by_cases h40 : vn ≤ 4096
            · have he6 := extract_size S a5 S.size (Nat.le_refl _)
              have he7 := extract_size S a4 S.size (Nat.le_refl _)
              have hone : one base cur = (r, S.extract a5 S.size, true) := by
                unfold one
                rw [hnm1]
                simp only
                rw [(hK h64).1]
                simp only
                rw [(hK h64).2]
                simp only
                rw [nm_yes hv4 (by omega), Int.toNat_natCast]
                simp only
                have h9 := ext_ext S a3 m4 (by omega)
                rw [hcur3, ha4] at h9
                rw [if_neg (by omega), h9, tx_yes (by rw [he7]; omega)]
                simp only
                rw [show (((vn + 1 : Nat) : Int) - 1).toNat = vn from by omega, ext_ext0 S a4 vn (by omega), ext_ext S a4 vn (by omega), ha5, hval, hrr]
              rw [stp_some hone]
              by_cases hc : okRec r = true ∧ lst base out ≤ r.f0
              · rw [if_pos hc, if_pos (by rw [hc.1, Bool.true_and]; exact decide_eq_true hc.2)]
                simp only
                rw [he6, show S.size - (S.size - a5) = a5 from by omega]
              · rw [if_neg hc, if_neg (fun e => hc (by simpa using e))]
            · have hn : stp base (lst base out) cur = none := stp_none (fun r s' ho hr2 => by
                obtain ⟨d', nk', v', s1, s2, key', s3, s4, h1, h2, h3, h4, h5, h6⟩ := one_chain ho
                rw [hnm1] at h1
                simp only [Prod.mk.injEq, and_true] at h1
                obtain ⟨rfl, rfl⟩ := h1
                rw [(hK h64).1] at h2
                simp only [Prod.mk.injEq, and_true] at h2
                obtain ⟨rfl, rfl⟩ := h2
                rw [(hK h64).2] at h3
                simp only [Prod.mk.injEq, and_true] at h3
                obtain ⟨rfl, rfl⟩ := h3
                obtain ⟨t1, t2, t3, t4⟩ := nm_true h4
                rw [hv4] at t2
                simp only at t2
                omega)
              rw [hn, if_neg]
              intro e
              rw [Bool.and_eq_true] at e
              have hm := (okRec_iff r).1 e.1
              rw [hrr] at hm
              simp only at hm
              omega
          · rw [hbigkey h64, if_neg]
            intro e
            rw [Bool.and_eq_true] at e
            have hm := (okRec_iff r).1 e.1
            rw [hrr] at hm
            simp only at hm
            omega
theorem one_size {base : Int} {s s' : ByteArray} {r : S63} (h : one base s = (r, s', true)) : s'.size < s.size := by
  have hst := one_steps base s
  rw [h] at hst
  simp only at hst
  obtain ⟨o', ho'⟩ : ∃ o', o' = true := ⟨_, rfl⟩
  rw [← ho'] at hst
  cases hst with
  | @gone d n v a1 a2 a3 a4 key o1 o2 o3 o4 h1 h2 h3 h4 h5 =>
    have e1 := nm_bd s true 1099511627776 (by decide)
    rw [h1] at e1
    have e2 := nm_bd a1 o1 64 (by decide)
    rw [h2] at e2
    have e3 := tx_bd a2 o2 n
    rw [h3] at e3
    have e4 := nm_bd a3 o3 4097 (by decide)
    rw [h4] at e4
    have := e4.2.2.2 ho'
    simp only at e1 e2 e3 e4 this
    omega
  | @here d n v a1 a2 a3 a4 a5 key val o1 o2 o3 o4 o5 h1 h2 h3 h4 h5 h6 =>
    have e1 := nm_bd s true 1099511627776 (by decide)
    rw [h1] at e1
    have e2 := nm_bd a1 o1 64 (by decide)
    rw [h2] at e2
    have e3 := tx_bd a2 o2 n
    rw [h3] at e3
    have e4 := nm_bd a3 o3 4097 (by decide)
    rw [h4] at e4
    have e6 := tx_bd a4 o4 (v - 1)
    rw [h6] at e6
    have := e4.2.2.2 (e6.2.2 ho')
    simp only at e1 e2 e3 e4 e6 this
    omega
def Suf (t s : ByteArray) : Prop := t.size ≤ s.size ∧ t = s.extract (s.size - t.size) s.size
theorem suf_refl (s : ByteArray) : Suf s s := ⟨Nat.le_refl _, by rw [Nat.sub_self, extract_all]⟩
theorem suf_ext (s : ByteArray) (k : Nat) (h : k ≤ s.size) : Suf (s.extract k s.size) s := by
  have e := extract_size s k s.size (Nat.le_refl _)
  exact ⟨by omega, by rw [e, show s.size - (s.size - k) = k from by omega]⟩
theorem suf_trans {t s r : ByteArray} (h : Suf t s) (h2 : Suf s r) : Suf t r := by
  refine ⟨Nat.le_trans h.1 h2.1, ?_⟩
  have e := ext_ext r (r.size - s.size) (s.size - t.size) (by have := h.1; have := h2.1; omega)
  rw [← h2.2, ← h.2, show r.size - s.size + (s.size - t.size) = r.size - t.size from by have := h.1; have := h2.1; omega] at e
  exact e
theorem nm_suf (s : ByteArray) (ok : Bool) (most : Int) : Suf (nm s ok most).2.1 s := by
  unfold nm
  by_cases hc : (var_ s).2.2 ≠ 0 ∨ most < (var_ s).1
  · rw [if_pos hc]; exact suf_refl s
  · rw [if_neg hc]
    have h0 : (var_ s).2.2 = 0 := Classical.not_not.1 (fun e => hc (Or.inl e))
    obtain ⟨q1, q2, q3⟩ := var_ok s h0
    exact suf_ext s _ (by omega)
theorem tx_suf (s : ByteArray) (ok : Bool) (n : Int) : Suf (tx s ok n).2.1 s := by
  unfold tx
  by_cases hc : ok = false ∨ (s.size : Int) < n
  · rw [if_pos hc]; exact suf_refl s
  · rw [if_neg hc]
    have h1 : ¬ (s.size : Int) < n := fun e => hc (Or.inr e)
    exact suf_ext s _ (by omega)
theorem one_suf (base : Int) (s : ByteArray) : Suf (one base s).2.1 s := by
  have hst := one_steps base s
  generalize one base s = x at hst ⊢
  obtain ⟨r, s', o'⟩ := x
  simp only at hst ⊢
  cases hst with
  | @gone d n v a1 a2 a3 a4 key o1 o2 o3 o4 h1 h2 h3 h4 h5 =>
    have e1 := nm_suf s true 1099511627776
    rw [h1] at e1
    have e2 := nm_suf a1 o1 64
    rw [h2] at e2
    have e3 := tx_suf a2 o2 n
    rw [h3] at e3
    have e4 := nm_suf a3 o3 4097
    rw [h4] at e4
    exact suf_trans e4 (suf_trans e3 (suf_trans e2 e1))
  | @here d n v a1 a2 a3 a4 a5 key val o1 o2 o3 o4 o5 h1 h2 h3 h4 h5 h6 =>
    have e1 := nm_suf s true 1099511627776
    rw [h1] at e1
    have e2 := nm_suf a1 o1 64
    rw [h2] at e2
    have e3 := tx_suf a2 o2 n
    rw [h3] at e3
    have e4 := nm_suf a3 o3 4097
    rw [h4] at e4
    have e6 := tx_suf a4 o4 (v - 1)
    rw [h6] at e6
    exact suf_trans e6 (suf_trans e4 (suf_trans e3 (suf_trans e2 e1)))
theorem reads_loop (S : ByteArray) (hS : S.size ≤ 2000000) (base n : Int) (hb : okBase base = true) : ∀ (kf k a : Nat) (out : List S63), rise base out = true → out.length ≤ a → a ≤ S.size → S.size - a < kf → 3 * kf + S.size + 30 ≤ k →
    postroadref09_Of.l0 k S base n out (a : Int) (out.length : Int) = some (ofl base n kf (lst base out) out (S.extract a S.size)) := by
  intro kf
  induction kf with
  | zero => intro k a out hr ho ha hk; omega
  | succ kf ih =>
    intro k a out hr ho ha hk hk2
    have he := extract_size S a S.size (Nat.le_refl _)
    obtain ⟨k, rfl⟩ : ∃ m, k = m + 3 := ⟨k - 3, by omega⟩
    rw [ofl]
    by_cases hi : (out.length : Int) < n
    · rw [if_pos hi, reads_step S (by omega) base n hb out hr (by omega) a ha out.length k hi (by omega) (by omega)]
      unfold stp
      obtain ⟨cur, hcur⟩ : ∃ c, S.extract a S.size = c := ⟨_, rfl⟩
      rw [hcur] at he ⊢
      by_cases hc : (one base cur).2.2 = true ∧ okRec (one base cur).1 = true ∧ lst base out ≤ (one base cur).1.f0
      · rw [if_pos hc, if_pos hc]
        simp only
        obtain ⟨⟨r, s', o'⟩, hone⟩ : ∃ v, one base cur = v := ⟨_, rfl⟩
        rw [hone] at hc ⊢
        simp only at hc ⊢
        obtain ⟨rfl, hc2, hc3⟩ := hc
        have hsz := one_size hone
        have hr2 : rise base (out ++ [r]) = true := by rw [rise_snoc base out r hr, hc2, Bool.true_and]; exact decide_eq_true hc3
        have hs' : s' = S.extract (S.size - s'.size) S.size := by
          have h9 := one_suf base cur
          rw [hone] at h9
          have h10 : Suf cur S := by rw [← hcur]; exact suf_ext S a ha
          exact (suf_trans h9 h10).2
        have := ih k (S.size - s'.size) (out ++ [r]) hr2 (by rw [List.length_append, List.length_singleton]; omega) (by omega) (by omega) (by omega)
        rw [List.length_append, List.length_singleton, lst_snoc, ← hs'] at this
        exact this
      · rw [if_neg hc, if_neg hc]
    · rw [if_neg hi, postroadref09_Of.l0, if_neg hi]
      by_cases hz : a = S.size
      · rw [if_pos (by omega), if_pos (by omega)]
      · rw [if_neg (by omega), if_neg (by omega)]
theorem rof_f (S : ByteArray) (hS : S.size ≤ 2000000) (base n : Int) : postroadref09_Of.f (4 * S.size + 40) S base n = recOf S base n := by
  unfold postroadref09_Of.f recOf
  rw [show 4 * S.size + 40 = (4 * S.size + 39) + 1 from rfl]
  by_cases h1 : base < 0
  · rw [if_pos h1, postroadref09_Of.j0, if_pos rfl, if_pos (Or.inl h1)]
  · rw [if_neg h1]
    by_cases h2 : base ≥ 1099511627776
    · rw [if_pos h2, postroadref09_Of.j0, if_pos rfl, if_pos (Or.inr (Or.inl h2))]
    · rw [if_neg h2]
      by_cases h3 : n < 0
      · rw [decide_eq_true h3, postroadref09_Of.j0, if_pos rfl, if_pos (Or.inr (Or.inr h3))]
      · rw [decide_eq_false h3, postroadref09_Of.j0, if_neg (by decide), if_neg (by omega), if_pos (by omega)]
        have := reads_loop S hS base n ((okBase_iff base).2 (by omega)) (S.size + 1) (4 * S.size + 39) 0 [] rfl (Nat.zero_le _) (Nat.zero_le _) (by omega) (by omega)
        rw [extract_all] at this
        exact this
end Go.Proofs.Ytojnhklgfdfkcaa.PZ
