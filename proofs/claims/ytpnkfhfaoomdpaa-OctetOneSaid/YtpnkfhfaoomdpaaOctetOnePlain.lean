/- Bytes that are read without a fault are those of what was read: plain. Conditions: bytes. -/
import Derived.Test.YtpnkfhfaoomdpaaOctetBackPlain2
namespace Go.Proofs.Ytpnkfhfaoomdpaa.Octet

theorem zig_sgn (u : Nat) : zig (sgn u) = u := by
  unfold zig sgn
  by_cases h : u % 2 = 0
  · rw [if_pos h, if_pos (by omega)]; omega
  · rw [if_neg h, if_neg (by omega)]; omega
theorem sgn_range {u : Nat} (h : u < 18446744073709551616) : -9223372036854775808 ≤ sgn u ∧ sgn u ≤ 9223372036854775807 := by
  unfold sgn
  by_cases h2 : u % 2 = 0
  · rw [if_pos h2]; omega
  · rw [if_neg h2]; omega
theorem enc_val : ∀ (bs : List Int), (∀ x ∈ bs, 0 ≤ x ∧ x ≤ 255) → lead bs < bs.length → (0 < lead bs → bs.getD (lead bs) 0 ≠ 0) →
    enc (val (bs.take (lead bs + 1))) = bs.take (lead bs + 1) ∧ (bs.getD (lead bs) 0 ≠ 0 → 0 < val (bs.take (lead bs + 1)))
  | [], _, h, _ => by simp at h
  | b :: l, hx, h, hz => by
    have hb := hx b (by simp)
    by_cases h128 : 128 ≤ b
    · simp only [lead, if_pos h128, List.length_cons] at h hz ⊢
      have hz' : l.getD (lead l) 0 ≠ 0 := by simpa using hz (by omega)
      obtain ⟨ih1, ih2⟩ := enc_val l (fun x h => hx x (by simp [h])) (by omega) (fun _ => hz')
      have hp := ih2 hz'
      rw [List.take_succ_cons]
      simp only [val]
      generalize val (l.take (lead l + 1)) = v at ih1 hp ⊢
      rw [enc_big (by omega), show ((b % 128).toNat + 128 * v) / 128 = v by omega, ih1]
      refine ⟨by congr 1; omega, fun _ => by omega⟩
    · simp only [lead, if_neg h128] at h hz ⊢
      simp only [List.take_succ_cons, List.take_zero, val]
      rw [enc_small (by omega)]
      refine ⟨by congr 1; omega, fun h0 => ?_⟩
      simp at h0
      omega
/-- a number that is read without a fault -/
theorem rNum_ok {bs : List Int} (hx : ∀ x ∈ bs, 0 ≤ x ∧ x ≤ 255) {p p' : Nat} {n : Int} (hp : p ≤ bs.length) (h : rNum bs p 0 = (p', 0, n)) :
    bs.drop p = one n ++ bs.drop p' ∧ p' = p + (one n).length ∧ p' ≤ bs.length ∧ -9223372036854775808 ≤ n ∧ n ≤ 9223372036854775807 := by
  unfold rNum at h
  rw [if_neg (by simp)] at h
  by_cases he : err (bs.drop p) ≠ 0
  · rw [if_pos he] at h
    simp only [Prod.mk.injEq] at h
    exact absurd h.2.1 he
  rw [if_neg he] at h
  simp only [Prod.mk.injEq] at h
  obtain ⟨rfl, _, rfl⟩ := h
  have he : err (bs.drop p) = 0 := by simpa using he
  have hl : (bs.drop p).length = bs.length - p := List.length_drop
  have hll := lead_le (bs.drop p)
  generalize hd : bs.drop p = d at he hl hll ⊢
  have hxd : ∀ x ∈ d, 0 ≤ x ∧ x ≤ 255 := fun x hxm => hx x (by rw [← hd] at hxm; exact List.mem_of_mem_drop hxm)
  unfold err at he
  have h10 : ¬ 10 ≤ lead d := fun hh => by rw [if_pos hh] at he; cases he
  rw [if_neg h10] at he
  have hne : ¬ lead d = d.length := fun hh => by rw [if_pos hh] at he; cases he
  rw [if_neg hne] at he
  have h3 : ¬ ((lead d = 9 ∧ 1 < d.getD 9 0) ∨ (0 < lead d ∧ d.getD (lead d) 0 = 0)) := fun hh => by rw [if_pos hh] at he; cases he
  obtain ⟨e1, _⟩ := enc_val d hxd (by omega) (fun h0 hh => h3 (.inr ⟨h0, hh⟩))
  have e2 : one (sgn (val (d.take (lead d + 1)))) = d.take (lead d + 1) := by unfold one; rw [zig_sgn, e1]
  have h9 : val (d.take (lead d + 1)) < 18446744073709551616 := by
    refine val_lt64 (by rw [List.length_take]; omega) (fun hh => ?_)
    rw [List.length_take] at hh
    have e9 : (d.take (lead d + 1)).getD 9 0 = d.getD 9 0 := by
      rw [List.getD_eq_getElem?_getD, List.getElem?_take, if_pos (by omega), ← List.getD_eq_getElem?_getD]
    rw [e9]
    refine ⟨?_, ?_⟩
    · rcases Int.lt_or_le 1 (d.getD 9 0) with hh1 | hh1
      · exact absurd (.inl ⟨by omega, hh1⟩) h3
      · exact hh1
    · rw [List.getD_eq_getElem?_getD, List.getElem?_eq_getElem (by omega)]
      exact (hxd _ (List.getElem_mem _)).1
  rw [e2, List.length_take]
  refine ⟨?_, by omega, by omega, sgn_range h9⟩
  rw [show p + lead d + 1 = p + (lead d + 1) by omega, ← List.drop_drop, hd, List.take_append_drop]
theorem rMany_num {bs : List Int} {p f p' : Nat} {n : Int} (h : rMany bs p f = (p', 0, n)) : rNum bs p 0 = (p', 0, n) ∧ 0 ≤ n ∧ n ≤ (bs.length : Int) - p' := by
  have h0 := @rMany_ok bs p f
  rw [h] at h0
  refine ⟨?_, h0 rfl⟩
  unfold rMany at h
  by_cases h1 : (rNum bs p 0).2.1 ≠ 0
  · rw [if_pos h1] at h
    simp only [Prod.mk.injEq] at h
    exact absurd h.2.1 h1
  rw [if_neg h1] at h
  by_cases h2 : (rNum bs p 0).2.2 < 0
  · rw [if_pos h2] at h
    simp at h
  rw [if_neg h2] at h
  by_cases h3 : (bs.length : Int) - ((rNum bs p 0).1 : Int) < (rNum bs p 0).2.2
  · rw [if_pos h3] at h
    simp at h
  rwa [if_neg h3] at h
theorem rNum_bad {bs : List Int} {p : Nat} {e : Int} (he : e ≠ 0) : rNum bs p e = (p, e, 0) := by unfold rNum; rw [if_pos he]
theorem rTake_ok {bs : List Int} (hx : ∀ x ∈ bs, 0 ≤ x ∧ x ≤ 255) : ∀ (n p p' : Nat) (e : Int) (out out' : List Int), p ≤ bs.length → rTake bs n (p, e, out) = (p', 0, out') →
    e = 0 ∧ ∃ l, out' = out ++ l ∧ l.length = n ∧ bs.drop p = ones l ++ bs.drop p' ∧ p' = p + (ones l).length ∧ p' ≤ bs.length ∧ ∀ x ∈ l, -9223372036854775808 ≤ x ∧ x ≤ 9223372036854775807
  | 0, p, p', e, out, out', hp, h => by
    simp only [rTake, Prod.mk.injEq] at h
    obtain ⟨rfl, rfl, rfl⟩ := h
    exact ⟨rfl, [], by simp, rfl, by simp [ones], by simp [ones], hp, by simp⟩
  | n + 1, p, p', e, out, out', hp, h => by
    unfold rTake at h
    simp only at h
    have hle := rNum_le bs p e hp
    generalize hq : rNum bs p e = q at h hle
    obtain ⟨p1, e1, v⟩ := q
    simp only at h hle
    obtain ⟨rfl, l, rfl, hl, hd, hp', hle', hr⟩ := rTake_ok hx n p1 p' e1 _ out' hle h
    have he : e = 0 := by
      rcases Decidable.em (e = 0) with h | h
      · exact h
      · rw [rNum_bad h] at hq
        simp only [Prod.mk.injEq] at hq
        exact absurd hq.2.1 h
    subst he
    obtain ⟨hd1, hp1, _, hr1⟩ := rNum_ok hx hp hq
    refine ⟨rfl, v :: l, by simp, by simp [hl], ?_, ?_, hle', ?_⟩
    · rw [hd1, hd, ones_cons, List.append_assoc]
    · rw [ones_cons, List.length_append]; omega
    · intro x hxm
      rcases List.mem_cons.1 hxm with rfl | h
      · exact hr1
      · exact hr x h
theorem take_of {bs a r : List Int} {p : Nat} (h : bs = a ++ r) (hp : p = a.length) : bs.take p = a := by subst hp; rw [h, List.take_left]
/-- a list that is read without a fault -/
theorem rList_ok {bs : List Int} (hx : ∀ x ∈ bs, 0 ≤ x ∧ x ≤ 255) {p' : Nat} {l : List Int} (h : rList bs 0 0 = (p', 0, l)) :
    bs.take p' = one l.length ++ ones l ∧ p' ≤ bs.length ∧ l.length ≤ bs.length ∧ ∀ x ∈ l, -9223372036854775808 ≤ x ∧ x ≤ 9223372036854775807 := by
  unfold rList at h
  rw [if_neg (by simp)] at h
  generalize hm : rMany bs 0 0 = m at h
  obtain ⟨p1, e1, v⟩ := m
  simp only at h
  generalize hk : rTake bs v.toNat (p1, e1, []) = k at h
  obtain ⟨p2, e2, l2⟩ := k
  simp only at h
  by_cases he : e2 = 0
  · subst he
    rw [if_neg (by simp)] at h
    simp only [Prod.mk.injEq, true_and] at h
    obtain ⟨rfl, rfl⟩ := h
    have hp1 : p1 ≤ bs.length := by
      have := rNum_le bs 0 0 (Nat.zero_le _)
      unfold rMany at hm
      by_cases h1 : (rNum bs 0 0).2.1 ≠ 0
      · rw [if_pos h1] at hm; simp only [Prod.mk.injEq] at hm; omega
      rw [if_neg h1] at hm
      by_cases h2 : (rNum bs 0 0).2.2 < 0
      · rw [if_pos h2] at hm; simp only [Prod.mk.injEq] at hm; omega
      rw [if_neg h2] at hm
      by_cases h3 : (bs.length : Int) - ((rNum bs 0 0).1 : Int) < (rNum bs 0 0).2.2
      · rw [if_pos h3] at hm; simp only [Prod.mk.injEq] at hm; omega
      rw [if_neg h3] at hm
      rw [hm] at this
      exact this
    obtain ⟨rfl, l', hl', hll, hd, hp', hle, hr⟩ := rTake_ok hx _ _ _ _ _ _ hp1 hk
    simp only [List.nil_append] at hl'
    subst hl'
    obtain ⟨hn, h0, h1⟩ := rMany_num hm
    obtain ⟨hd1, hpp, _, _⟩ := rNum_ok hx (Nat.zero_le _) hn
    have hv : v = (l2.length : Int) := by omega
    subst hv
    rw [List.drop_zero] at hd1
    refine ⟨take_of (r := bs.drop p2) (by rw [List.append_assoc, ← hd]; exact hd1) (by rw [List.length_append]; omega), hle, by omega, hr⟩
  · rw [if_pos he] at h
    simp only [Prod.mk.injEq] at h
    exact absurd h.2.1 he
/-- a text that is read without a fault -/
theorem rText_ok {bs : List Int} (hx : ∀ x ∈ bs, 0 ≤ x ∧ x ≤ 255) {p' : Nat} {t : List Int} (h : rText bs 0 0 = (p', 0, t)) :
    bs.take p' = one t.length ++ t ∧ p' ≤ bs.length ∧ t.length ≤ bs.length ∧ ∀ x ∈ t, 0 ≤ x ∧ x ≤ 255 := by
  unfold rText at h
  rw [if_neg (by simp)] at h
  generalize hm : rMany bs 0 0 = m at h
  obtain ⟨p1, e1, v⟩ := m
  simp only at h
  by_cases he : e1 = 0
  · subst he
    rw [if_neg (by simp)] at h
    simp only [Prod.mk.injEq, true_and] at h
    obtain ⟨rfl, rfl⟩ := h
    obtain ⟨hn, h0, h1⟩ := rMany_num hm
    obtain ⟨hd1, hpp, hle, _⟩ := rNum_ok hx (Nat.zero_le _) hn
    have hlen : ((bs.drop p1).take v.toNat).length = v.toNat := by rw [List.length_take, List.length_drop]; omega
    have hv : v = (((bs.drop p1).take v.toNat).length : Int) := by omega
    rw [List.drop_zero] at hd1
    refine ⟨?_, by omega, by omega, fun x hm => hx x (List.mem_of_mem_drop (List.mem_of_mem_take hm))⟩
    rw [← hv]
    refine take_of (r := (bs.drop p1).drop v.toNat) ?_ (by rw [List.length_append, hlen]; omega)
    rw [List.append_assoc, List.take_append_drop]
    exact hd1
  · rw [if_pos he] at h
    simp only [Prod.mk.injEq] at h
    exact absurd h.2.1 he
end Go.Proofs.Ytpnkfhfaoomdpaa.Octet
