/- Ranks of permutations lead back, in plain terms. No conditions, no program. -/
import Derived.Test.YtdjneckgckagdaaPermRankPlain
namespace Go.Proofs.Ytdjneckgckagdaa.Perm

/-- the rank of a list of unlike numbers among those of the same numbers -/
def rk : List Int → Int
  | [] => 0
  | x :: t => (t.countP (fun y => decide (y < x)) : Int) * factN t.length + rk t
/-- the list of that rank -/
def unrF : Nat → List Int → Int → List Int
  | 0, _, _ => []
  | m + 1, l, k => l.getD (k / factN m).toNat 0 :: unrF m (l.eraseIdx (k / factN m).toNat) (k % factN m)
def unrank (n k : Int) : List Int := if 0 ≤ n ∧ n ≤ 8 ∧ 0 ≤ k ∧ k < factN n.toNat then unrF n.toNat (idl n.toNat) k else []

theorem unrF_length : ∀ (m : Nat) (l : List Int) (k : Int), (unrF m l k).length = m
  | 0, _, _ => rfl
  | m + 1, l, k => by simp [unrF, unrF_length m]
theorem rk_bound : ∀ l : List Int, 0 ≤ rk l ∧ rk l < factN l.length
  | [] => by simp [rk, factN]
  | x :: t => by
    have ih := rk_bound t
    have h1 : (t.countP (fun y => decide (y < x)) : Int) ≤ t.length := by have := List.countP_le_length (p := fun y => decide (y < x)) (l := t); omega
    have h2 := fact_pos t.length
    have h3 := Int.mul_le_mul_of_nonneg_right h1 (show 0 ≤ factN t.length by omega)
    have h4 := Int.mul_nonneg (show (0 : Int) ≤ t.countP (fun y => decide (y < x)) by omega) (show 0 ≤ factN t.length by omega)
    simp only [rk, List.length_cons, factN]
    rw [Int.mul_add, Int.mul_one, Int.mul_comm (factN t.length)]
    omega

theorem erase_perm {l : List Int} {c : Nat} (h : c < l.length) : l.Perm (l[c] :: l.eraseIdx c) := by
  rw [List.eraseIdx_eq_take_drop_succ]
  have e : l = l.take c ++ l[c] :: l.drop (c + 1) := by rw [← List.drop_eq_getElem_cons h, List.take_append_drop]
  exact (List.Perm.of_eq e).trans List.perm_middle
theorem sorted_count {l : List Int} (hs : l.Pairwise (· < ·)) {c : Nat} (h : c < l.length) : (l.eraseIdx c).countP (fun y => decide (y < l[c])) = c := by
  have hp := List.pairwise_iff_getElem.1 hs
  rw [List.eraseIdx_eq_take_drop_succ, List.countP_append]
  have h1 : (l.take c).countP (fun y => decide (y < l[c])) = (l.take c).length := by
    rw [List.countP_eq_length]
    intro a ha
    obtain ⟨i, hi, rfl⟩ := List.mem_iff_getElem.1 ha
    rw [List.length_take] at hi
    rw [List.getElem_take]
    exact decide_eq_true (hp i c (by omega) h (by omega))
  have h2 : (l.drop (c + 1)).countP (fun y => decide (y < l[c])) = 0 := by
    rw [List.countP_eq_zero]
    intro a ha
    obtain ⟨i, hi, rfl⟩ := List.mem_iff_getElem.1 ha
    rw [List.length_drop] at hi
    rw [List.getElem_drop]
    have := hp c (c + 1 + i) h (by omega) (by omega)
    simp
    omega
  rw [h1, h2, List.length_take]
  omega
theorem sorted_erase {l : List Int} (hs : l.Pairwise (· < ·)) (c : Nat) : (l.eraseIdx c).Pairwise (· < ·) := hs.sublist (List.eraseIdx_sublist l c)

theorem unr_rk : ∀ (m : Nat) (p l : List Int), l.Pairwise (· < ·) → p.Perm l → p.length = m → unrF m l (rk p) = p
  | 0, p, l, _, _, h => by rw [List.length_eq_zero_iff.1 h]; rfl
  | m + 1, [], l, _, _, h => by simp at h
  | m + 1, x :: t, l, hs, hp, h => by
    have ht : t.length = m := by simpa using h
    have hx : x ∈ l := hp.subset (List.mem_cons_self ..)
    obtain ⟨c, hc, hcx⟩ := List.mem_iff_getElem.1 hx
    have hq : t.Perm (l.eraseIdx c) := by
      have := hp.trans (erase_perm hc)
      rw [hcx] at this
      exact (List.perm_cons x).1 this
    have hcount : t.countP (fun y => decide (y < x)) = c := by
      rw [hq.countP_eq, ← hcx, sorted_count hs hc]
    have hb := rk_bound t
    have hf := fact_pos m
    rw [ht] at hb
    have hd : rk (x :: t) / factN m = c := by
      simp only [rk]
      rw [hcount, ht, Int.add_comm, Int.add_mul_ediv_right _ _ (by omega), Int.ediv_eq_zero_of_lt hb.1 hb.2]
      omega
    have hm : rk (x :: t) % factN m = rk t := by
      simp only [rk]
      rw [hcount, ht, Int.add_comm, Int.add_mul_emod_self_right, Int.emod_eq_of_lt hb.1 hb.2]
    simp only [unrF]
    rw [hd, hm, Int.toNat_natCast, unr_rk m t _ (sorted_erase hs c) hq ht, List.getD_eq_getElem?_getD, List.getElem?_eq_getElem hc, hcx]
    rfl
theorem rk_unr : ∀ (m : Nat) (l : List Int) (k : Int), l.Pairwise (· < ·) → l.length = m → 0 ≤ k → k < factN m → rk (unrF m l k) = k ∧ (unrF m l k).Perm l
  | 0, l, k, _, h, h0, h1 => by
    rw [List.length_eq_zero_iff.1 h]
    simp only [factN] at h1
    exact ⟨by simp [unrF, rk]; omega, List.Perm.refl _⟩
  | m + 1, l, k, hs, h, h0, h1 => by
    have hf := fact_pos m
    simp only [factN] at h1
    have hc0 : 0 ≤ k / factN m := Int.ediv_nonneg h0 (by omega)
    have hc1 : k / factN m < (m : Int) + 1 := Int.ediv_lt_of_lt_mul (by omega) (by rw [Int.mul_comm]; exact h1)
    obtain ⟨c, hc⟩ := Int.eq_ofNat_of_zero_le hc0
    have hcl : c < l.length := by omega
    have ih := rk_unr m (l.eraseIdx c) (k % factN m) (sorted_erase hs c) (by rw [List.length_eraseIdx, if_pos hcl]; omega) (Int.emod_nonneg _ (by omega)) (Int.emod_lt_of_pos _ (by omega))
    have e : unrF (m + 1) l k = l[c] :: unrF m (l.eraseIdx c) (k % factN m) := by
      simp only [unrF]
      rw [hc, Int.toNat_natCast, List.getD_eq_getElem?_getD, List.getElem?_eq_getElem hcl]
      rfl
    rw [e]
    refine ⟨?_, (List.Perm.cons _ ih.2).trans (erase_perm hcl).symm⟩
    simp only [rk]
    rw [ih.1, ih.2.countP_eq, sorted_count hs hcl, unrF_length, ← hc]
    exact Int.ediv_mul_add_emod k (factN m)

theorem sorted_idl (n : Nat) : (idl n).Pairwise (· < ·) := by
  unfold idl
  rw [List.pairwise_map]
  exact List.pairwise_lt_range.imp (fun h => by omega)
theorem ok_perm {p : List Int} (h : Ok p) : p.Perm (idl p.length) := by
  rw [List.perm_ext_iff_of_nodup (nodup_of_apart h.apart) (nodup_idl _)]
  intro x
  constructor
  · intro hx
    obtain ⟨i, hi, rfl⟩ := mem_getD hx
    exact mem_idl.2 (h.range i hi)
  · intro hx
    obtain ⟨h0, h1⟩ := mem_idl.1 hx
    obtain ⟨j, hj, rfl⟩ := h.onto x h0 h1
    exact getD_mem hj
theorem perm_ok {p : List Int} {n : Nat} (hn : n ≤ 8) (h : p.Perm (idl n)) : Ok p := by
  have hl : p.length = n := by rw [h.length_eq, idl_length]
  have hd : p.Nodup := h.nodup_iff.2 (nodup_idl n)
  refine ⟨by omega, fun i hi => ?_, fun i j hij hj => ?_⟩
  · rw [hl]; exact mem_idl.1 (h.subset (getD_mem hi))
  · rw [List.nodup_iff_pairwise_ne, List.pairwise_iff_getElem] at hd
    have := hd i j (by omega) hj hij
    rw [List.getD_eq_getElem?_getD, List.getElem?_eq_getElem (by omega), List.getD_eq_getElem?_getD, List.getElem?_eq_getElem hj]
    simpa using this
/-- the rank as it is reckoned is the rank -/
theorem less_count (p : List Int) (k : Nat) : ∀ m, k + 1 + m ≤ p.length → lessP p k m = (((p.drop (k + 1)).take m).countP (fun y => decide (y < p.getD k 0)) : Int)
  | 0, _ => by simp [lessP]
  | m + 1, h => by
    have ih := less_count p k m (by omega)
    have e : (p.drop (k + 1)).take (m + 1) = (p.drop (k + 1)).take m ++ [p.getD (k + 1 + m) 0] := by
      rw [List.take_succ_eq_append_getElem (by rw [List.length_drop]; omega), List.getElem_drop, List.getD_eq_getElem?_getD, List.getElem?_eq_getElem (by omega)]
      rfl
    simp only [lessP]
    rw [ih, e, List.countP_append]
    by_cases hlt : p.getD (k + 1 + m) 0 < p.getD k 0
    · rw [if_pos hlt, List.countP_cons_of_pos (by simpa using hlt)]
      simp
    · rw [if_neg hlt, List.countP_cons_of_neg (by simpa using hlt)]
      simp
theorem rankP_rk (p : List Int) : ∀ k, k ≤ p.length → rankP p k + rk (p.drop k) = rk p
  | 0, _ => by simp [rankP]
  | k + 1, h => by
    have ih := rankP_rk p k (by omega)
    have e : p.drop k = p.getD k 0 :: p.drop (k + 1) := by
      rw [List.drop_eq_getElem_cons (by omega), List.getD_eq_getElem?_getD, List.getElem?_eq_getElem (by omega)]
      rfl
    rw [← ih, e]
    simp only [rk, rankP]
    rw [less_count p k _ (by omega), List.take_of_length_le (by rw [List.length_drop]; omega), List.length_drop, show p.length - 1 - k = p.length - (k + 1) by omega]
    omega
theorem rank_rk {p : List Int} (h : Ok p) : rank p = rk p := by
  rw [rank_yes h]
  have := rankP_rk p p.length (Nat.le_refl _)
  rw [List.drop_length] at this
  simp only [rk] at this
  omega
theorem unrank_yes {n : Nat} {k : Int} (hn : n ≤ 8) (h0 : 0 ≤ k) (h1 : k < factN n) : unrank n k = unrF n (idl n) k := by
  unfold unrank
  rw [if_pos ⟨by omega, by omega, h0, by rw [Int.toNat_natCast]; exact h1⟩, Int.toNat_natCast]
theorem unrank_no {n k : Int} (h : n < 0 ∨ 8 < n ∨ k < 0 ∨ factN n.toNat ≤ k) : unrank n k = [] := by
  unfold unrank
  rw [if_neg (by omega)]
theorem unrank_len (n k : Int) : (unrank n k).length ≤ 8 := by
  unfold unrank
  split
  · rw [unrF_length]; omega
  · simp
/-- what has a rank comes back of it -/
theorem lead1 {p : List Int} (h : Ok p) : unrank p.length (rank p) = p ∧ 0 ≤ rank p ∧ rank p < factN p.length := by
  have hb := rk_bound p
  rw [rank_rk h, unrank_yes h.small hb.1 hb.2]
  exact ⟨unr_rk _ p _ (sorted_idl _) (ok_perm h) rfl, hb⟩
theorem lead2 {n k : Int} (h : (unrank n k).length ≠ 0) : rank (unrank n k) = k := by
  rcases Classical.em (0 ≤ n ∧ n ≤ 8 ∧ 0 ≤ k ∧ k < factN n.toNat) with hh | hh
  · obtain ⟨m, rfl⟩ := Int.eq_ofNat_of_zero_le hh.1
    rw [Int.toNat_natCast] at hh
    rw [unrank_yes (by omega) hh.2.2.1 hh.2.2.2]
    obtain ⟨h1, h2⟩ := rk_unr m (idl m) k (sorted_idl m) (idl_length m) hh.2.2.1 hh.2.2.2
    rw [rank_rk (perm_ok (by omega) h2), h1]
  · exact absurd (by rw [unrank_no (by omega)]; rfl) h
end Go.Proofs.Ytdjneckgckagdaa.Perm
