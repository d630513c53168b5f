/- What layer perm computes, in plain terms, and the plain laws on it. No conditions, no program. -/
import GoSem.Core.Value
namespace Go.Proofs.Ytdjneckgckagdaa.Perm

/-- in range, and each once -/
def okB (p : List Int) : Bool := decide (p.length ≤ 8) && (List.range p.length).all (fun i => decide (0 ≤ p.getD i 0) && decide (p.getD i 0 < p.length)) && (List.range p.length).all (fun j => (List.range j).all fun i => p.getD i 0 != p.getD j 0)
/-- where a number stands first; else -1 -/
def place (l : List Int) (x : Int) : Int := if l.idxOf x < l.length then (l.idxOf x : Int) else -1
def rokB (p : List Int) : Bool := decide (p.length ≤ 8) && (List.range p.length).all (fun (i : Nat) => decide (0 ≤ place p i))
def idl (n : Nat) : List Int := (List.range n).map fun (i : Nat) => (i : Int)
def mulL (a b : List Int) : List Int := (List.range a.length).map fun i => b.getD (a.getD i 0).toNat 0
def mul (a b : List Int) : List Int := if okB a ∧ okB b ∧ a.length = b.length then mulL a b else []
def moveL (p l : List Int) : List Int := (List.range p.length).map fun (i : Nat) => l.getD (place p i).toNat 0
def move (p l : List Int) : List Int := if okB p ∧ l.length = p.length then moveL p l else []
def invL (p : List Int) : List Int := (List.range p.length).map fun (i : Nat) => place p i
def inv (p : List Int) : List Int := if okB p then invL p else []
def idS (n : Int) : List Int := if 0 ≤ n ∧ n ≤ 8 then idl n.toNat else []

structure Ok (p : List Int) : Prop where
  small : p.length ≤ 8
  range : ∀ i, i < p.length → 0 ≤ p.getD i 0 ∧ p.getD i 0 < p.length
  apart : ∀ i j, i < j → j < p.length → p.getD i 0 ≠ p.getD j 0
theorem okB_iff (p : List Int) : okB p = true ↔ Ok p := by
  simp only [okB, Bool.and_eq_true, decide_eq_true_eq, List.all_eq_true, List.mem_range, bne_iff_ne, ne_eq]
  exact ⟨fun ⟨⟨h1, h2⟩, h3⟩ => ⟨h1, h2, fun i j hij hj => h3 j hj i hij⟩, fun ⟨h1, h2, h3⟩ => ⟨⟨h1, h2⟩, fun j hj i hij => h3 i j hij hj⟩⟩

theorem getD_map_range {β : Type} (f : Nat → β) (n i : Nat) (d : β) (h : i < n) : ((List.range n).map f).getD i d = f i := by
  rw [List.getD_eq_getElem?_getD, List.getElem?_map, List.getElem?_range h]
  rfl

/-! first places -/
theorem place_at {l : List Int} {x : Int} (k : Nat) (hk : k < l.length) (hx : l.getD k 0 = x) (hb : ∀ j, j < k → l.getD j 0 ≠ x) : place l x = k := by
  have hk' : l[k] = x := by simpa [List.getD, List.getElem?_eq_getElem hk] using hx
  have e : l.idxOf x = k := by
    apply Nat.le_antisymm
    · rcases Nat.lt_or_ge k (l.idxOf x) with h | h
      · have h' : k < l.findIdx (· == x) := h
        have := List.not_of_lt_findIdx h'
        simp at this
        exact absurd hk' this
      · exact h
    · rcases Nat.lt_or_ge (l.idxOf x) k with h | h
      · have hlt : l.idxOf x < l.length := by omega
        have := hb _ h
        rw [List.getD_eq_getElem?_getD, List.getElem?_eq_getElem hlt] at this
        simp at this
      · exact h
  unfold place
  rw [e, if_pos hk]
theorem place_none {l : List Int} {x : Int} (hb : ∀ j, j < l.length → l.getD j 0 ≠ x) : place l x = -1 := by
  unfold place
  rw [if_neg]
  intro h
  have := hb _ h
  rw [List.getD_eq_getElem?_getD, List.getElem?_eq_getElem h] at this
  simp at this
theorem place_yes {l : List Int} {x : Int} (h : 0 ≤ place l x) : (place l x).toNat < l.length ∧ l.getD (place l x).toNat 0 = x ∧ place l x < l.length := by
  unfold place at h ⊢
  split at h
  · rename_i hlt
    rw [if_pos hlt]
    refine ⟨by simpa using hlt, ?_, by simpa using hlt⟩
    rw [Int.toNat_natCast, List.getD_eq_getElem?_getD, List.getElem?_eq_getElem hlt]
    simp
  · omega
theorem place_mem {l : List Int} {x : Int} (h : ∃ j, j < l.length ∧ l.getD j 0 = x) : 0 ≤ place l x := by
  obtain ⟨j, hj, hx⟩ := h
  have hm : x ∈ l := by
    rw [List.getD_eq_getElem?_getD, List.getElem?_eq_getElem hj] at hx
    simp at hx
    rw [← hx]
    exact List.getElem_mem hj
  unfold place
  rw [if_pos (List.idxOf_lt_length_iff.2 hm)]
  omega
theorem place_self {p : List Int} (h : Ok p) (i : Nat) (hi : i < p.length) : place p (p.getD i 0) = i :=
  place_at i hi rfl (fun j hj => h.apart j i hj hi)

/-! as many holes as pigeons -/
theorem le_of_subset {α : Type} [DecidableEq α] : ∀ {l m : List α}, l.Nodup → (∀ x, x ∈ l → x ∈ m) → l.length ≤ m.length
  | [], _, _, _ => Nat.zero_le _
  | x :: l, m, hd, hs => by
    have hx : x ∈ m := hs x (List.mem_cons_self ..)
    have hd' := List.nodup_cons.1 hd
    have ih := le_of_subset (l := l) (m := m.erase x) hd'.2 (fun y hy => by
      have hne : y ≠ x := fun e => hd'.1 (e ▸ hy)
      exact (List.mem_erase_of_ne hne).2 (hs y (List.mem_cons_of_mem _ hy)))
    rw [List.length_erase_of_mem hx] at ih
    have := List.length_pos_of_mem hx
    simp only [List.length_cons]
    omega
theorem nodup_idl (n : Nat) : (idl n).Nodup := by
  unfold idl
  rw [List.nodup_iff_pairwise_ne, List.pairwise_map]
  have := List.nodup_range (n := n)
  rw [List.nodup_iff_pairwise_ne] at this
  exact this.imp (fun h e => h (by omega))
theorem idl_length (n : Nat) : (idl n).length = n := by simp [idl]
theorem mem_idl {n : Nat} {x : Int} : x ∈ idl n ↔ 0 ≤ x ∧ x < n := by
  unfold idl
  rw [List.mem_map]
  constructor
  · rintro ⟨i, hi, rfl⟩
    have := List.mem_range.1 hi
    omega
  · rintro ⟨h0, h1⟩
    exact ⟨x.toNat, List.mem_range.2 (by omega), by omega⟩
theorem getD_mem {l : List Int} {i : Nat} (h : i < l.length) : l.getD i 0 ∈ l := by
  rw [List.getD_eq_getElem?_getD, List.getElem?_eq_getElem h]
  exact List.getElem_mem h
theorem mem_getD {l : List Int} {x : Int} (h : x ∈ l) : ∃ i, i < l.length ∧ l.getD i 0 = x := by
  obtain ⟨i, hi, e⟩ := List.mem_iff_getElem.1 h
  exact ⟨i, hi, by rw [List.getD_eq_getElem?_getD, List.getElem?_eq_getElem hi]; simpa using e⟩
theorem nodup_of_apart {l : List Int} (h : ∀ i j, i < j → j < l.length → l.getD i 0 ≠ l.getD j 0) : l.Nodup := by
  rw [List.nodup_iff_pairwise_ne, List.pairwise_iff_getElem]
  intro i j hi hj hij
  have := h i j hij hj
  rw [List.getD_eq_getElem?_getD, List.getElem?_eq_getElem hi, List.getD_eq_getElem?_getD, List.getElem?_eq_getElem hj] at this
  simpa using this
/-- each number stands somewhere -/
theorem Ok.onto {p : List Int} (h : Ok p) (x : Int) (h0 : 0 ≤ x) (h1 : x < p.length) : ∃ j, j < p.length ∧ p.getD j 0 = x := by
  rcases Classical.em (x ∈ p) with hm | hm
  · exact mem_getD hm
  · exfalso
    have hs := le_of_subset (l := p) (m := (idl p.length).erase x) (nodup_of_apart h.apart) (fun y hy => by
      obtain ⟨i, hi, rfl⟩ := mem_getD hy
      have hne : p.getD i 0 ≠ x := fun e => hm (e ▸ hy)
      exact (List.mem_erase_of_ne hne).2 (mem_idl.2 (h.range i hi)))
    rw [List.length_erase_of_mem (mem_idl.2 ⟨h0, h1⟩), idl_length] at hs
    omega
theorem mem_eraseIdx_of {l : List Int} {i k : Nat} (hk : k < l.length) (hne : k ≠ i) : l.getD k 0 ∈ l.eraseIdx i := by
  rw [List.getD_eq_getElem?_getD, List.getElem?_eq_getElem hk]
  exact List.mem_eraseIdx_iff_getElem.2 ⟨k, hk, hne, rfl⟩
theorem ok_of_onto {p : List Int} (h8 : p.length ≤ 8) (h : ∀ i : Nat, i < p.length → ∃ j, j < p.length ∧ p.getD j 0 = (i : Int)) : Ok p := by
  have key : ∀ i, i < p.length → (∀ x, x ∈ idl p.length → x ∈ p.eraseIdx i) → False := fun i hi hs => by
    have := le_of_subset (nodup_idl p.length) hs
    rw [idl_length, List.length_eraseIdx, if_pos hi] at this
    omega
  refine ⟨h8, fun i hi => ?_, fun i j hij hj he => ?_⟩
  · rcases Classical.em (0 ≤ p.getD i 0 ∧ p.getD i 0 < p.length) with hh | hh
    · exact hh
    · refine (key i hi fun x hx => ?_).elim
      obtain ⟨h0, h1⟩ := mem_idl.1 hx
      obtain ⟨k, hk, e⟩ := h x.toNat (by omega)
      have e' : p.getD k 0 = x := by omega
      rw [← e']
      exact mem_eraseIdx_of hk (fun hki => hh (by rw [← hki, e']; exact ⟨h0, h1⟩))
  · refine key j hj fun x hx => ?_
    obtain ⟨h0, h1⟩ := mem_idl.1 hx
    obtain ⟨k, hk, e⟩ := h x.toNat (by omega)
    have e' : p.getD k 0 = x := by omega
    by_cases hkj : k = j
    · rw [← e', hkj, ← he]
      exact mem_eraseIdx_of (by omega) (by omega)
    · rw [← e']
      exact mem_eraseIdx_of hk hkj
/-- the program's word and the document's are one -/
theorem rokB_eq (p : List Int) : rokB p = okB p := by
  rw [Bool.eq_iff_iff, okB_iff]
  simp only [rokB, Bool.and_eq_true, decide_eq_true_eq, List.all_eq_true, List.mem_range]
  constructor
  · rintro ⟨h8, h⟩
    exact ok_of_onto h8 fun i hi => ⟨_, (place_yes (h i hi)).1, (place_yes (h i hi)).2.1⟩
  · intro h
    exact ⟨h.small, fun i hi => place_mem (h.onto i (by omega) (by omega))⟩

/-! the group -/
theorem mulL_getD (a b : List Int) (i : Nat) (h : i < a.length) : (mulL a b).getD i 0 = b.getD (a.getD i 0).toNat 0 := getD_map_range _ _ _ _ h
theorem mulL_length (a b : List Int) : (mulL a b).length = a.length := by simp [mulL]
theorem moveL_length (a b : List Int) : (moveL a b).length = a.length := by simp [moveL]
theorem invL_length (a : List Int) : (invL a).length = a.length := by simp [invL]
theorem moveL_getD (p l : List Int) (i : Nat) (h : i < p.length) : (moveL p l).getD i 0 = l.getD (place p i).toNat 0 := getD_map_range _ _ _ _ h
theorem invL_getD (p : List Int) (i : Nat) (h : i < p.length) : (invL p).getD i 0 = place p i := getD_map_range _ _ _ _ h
theorem idl_getD (n i : Nat) (h : i < n) : (idl n).getD i 0 = i := getD_map_range _ _ _ _ h
theorem ext {l m : List Int} (hl : l.length = m.length) (h : ∀ i, i < l.length → l.getD i 0 = m.getD i 0) : l = m := by
  apply List.ext_getElem hl
  intro i h1 h2
  have := h i h1
  rw [List.getD_eq_getElem?_getD, List.getElem?_eq_getElem h1, List.getD_eq_getElem?_getD, List.getElem?_eq_getElem h2] at this
  simpa using this
theorem ok_mulL {a b : List Int} (ha : Ok a) (hb : Ok b) (hl : a.length = b.length) : Ok (mulL a b) := by
  have hr : ∀ i, i < a.length → (a.getD i 0).toNat < b.length := fun i hi => by have := ha.range i hi; omega
  refine ⟨by rw [mulL_length]; exact ha.small, fun i hi => ?_, fun i j hij hj => ?_⟩
  · rw [mulL_length] at hi ⊢
    rw [mulL_getD a b i hi]
    have := hb.range _ (hr i hi)
    omega
  · rw [mulL_length] at hj
    rw [mulL_getD a b i (by omega), mulL_getD a b j hj]
    have h1 := ha.apart i j hij hj
    have h2 := ha.range i (by omega)
    have h3 := ha.range j hj
    rcases Nat.lt_or_gt_of_ne (show (a.getD i 0).toNat ≠ (a.getD j 0).toNat by omega) with h | h
    · exact hb.apart _ _ h (hr j hj)
    · exact (hb.apart _ _ h (hr i (by omega))).symm
theorem inv_of {a : List Int} (ha : Ok a) (i : Nat) (hi : i < a.length) : 0 ≤ place a i ∧ (place a i).toNat < a.length ∧ a.getD (place a i).toNat 0 = i := by
  have h := place_mem (ha.onto i (by omega) (by omega))
  exact ⟨h, (place_yes h).1, (place_yes h).2.1⟩
theorem ok_invL {a : List Int} (ha : Ok a) : Ok (invL a) := by
  refine ⟨by rw [invL_length]; exact ha.small, fun i hi => ?_, fun i j hij hj he => ?_⟩
  · rw [invL_length] at hi ⊢
    rw [invL_getD a i hi]
    have := inv_of ha i hi
    omega
  · rw [invL_length] at hj
    rw [invL_getD a i (by omega), invL_getD a j hj] at he
    have h1 := (inv_of ha i (by omega)).2.2
    have h2 := (inv_of ha j hj).2.2
    rw [he, h2] at h1
    omega
theorem ok_idl {n : Nat} (h : n ≤ 8) : Ok (idl n) := by
  refine ⟨by rw [idl_length]; exact h, fun i hi => ?_, fun i j hij hj => ?_⟩
  · rw [idl_length] at hi ⊢; rw [idl_getD n i hi]; omega
  · rw [idl_length] at hj; rw [idl_getD n i (by omega), idl_getD n j hj]; omega

theorem mul_of {a b : List Int} (ha : Ok a) (hb : Ok b) (hl : a.length = b.length) : mul a b = mulL a b := if_pos ⟨(okB_iff a).2 ha, (okB_iff b).2 hb, hl⟩
theorem inv_is {a : List Int} (ha : Ok a) : inv a = invL a := if_pos ((okB_iff a).2 ha)
theorem move_of {p l : List Int} (hp : Ok p) (hl : l.length = p.length) : move p l = moveL p l := if_pos ⟨(okB_iff p).2 hp, hl⟩
theorem group1 {a : List Int} (ha : Ok a) : mul a (inv a) = idl a.length := by
  rw [inv_is ha, mul_of ha (ok_invL ha) (invL_length a).symm]
  refine ext (by rw [mulL_length, idl_length]) fun i hi => ?_
  rw [mulL_length] at hi
  have hr := ha.range i hi
  rw [mulL_getD _ _ i hi, invL_getD a _ (by omega), idl_getD _ i hi, show ((a.getD i 0).toNat : Int) = a.getD i 0 by omega, place_self ha i hi]
theorem group2 {a : List Int} (ha : Ok a) : mul (inv a) a = idl a.length := by
  rw [inv_is ha, mul_of (ok_invL ha) ha (invL_length a)]
  refine ext (by rw [mulL_length, idl_length, invL_length]) fun i hi => ?_
  rw [mulL_length, invL_length] at hi
  rw [mulL_getD _ _ i (by rw [invL_length]; exact hi), invL_getD a i hi, (inv_of ha i hi).2.2, idl_getD _ i hi]
theorem group3 {a b c : List Int} (ha : Ok a) (hb : Ok b) (hc : Ok c) (h1 : a.length = b.length) (h2 : b.length = c.length) : mul (mul a b) c = mul a (mul b c) := by
  rw [mul_of ha hb h1, mul_of hb hc h2, mul_of (ok_mulL ha hb h1) hc (by rw [mulL_length]; omega), mul_of ha (ok_mulL hb hc h2) (by rw [mulL_length]; omega)]
  refine ext (by simp only [mulL_length]) fun i hi => ?_
  simp only [mulL_length] at hi
  have hr := ha.range i hi
  rw [mulL_getD _ _ i (by rw [mulL_length]; exact hi), mulL_getD _ _ i hi, mulL_getD _ _ i hi, mulL_getD _ _ _ (by omega)]
theorem place_mul {a b : List Int} (ha : Ok a) (hb : Ok b) (hl : a.length = b.length) (i : Nat) (hi : i < a.length) : place (mulL a b) i = place a (place b i) := by
  obtain ⟨h0, h1, h2⟩ := inv_of hb i (by omega)
  obtain ⟨g0, g1, g2⟩ := inv_of ha (place b i).toNat (by omega)
  rw [show ((place b i).toNat : Int) = place b i by omega] at g0 g1 g2
  have hm := ok_mulL ha hb hl
  have e : (mulL a b).getD (place a (place b i)).toNat 0 = i := by
    rw [mulL_getD _ _ _ g1, g2, h2]
  have := place_self hm (place a (place b i)).toNat (by rw [mulL_length]; exact g1)
  rw [e] at this
  omega
theorem group4 {a b l : List Int} (ha : Ok a) (hb : Ok b) (hl : a.length = b.length) (h1 : l.length = a.length) : move (mul a b) l = move b (move a l) := by
  rw [mul_of ha hb hl, move_of ha h1, move_of (ok_mulL ha hb hl) (by rw [mulL_length]; exact h1), move_of hb (by rw [moveL_length]; exact hl)]
  refine ext (by simp only [moveL_length, mulL_length]; exact hl) fun i hi => ?_
  rw [moveL_length, mulL_length] at hi
  have hb1 := inv_of hb i (by omega)
  rw [moveL_getD _ _ i (by rw [mulL_length]; exact hi), place_mul ha hb hl i hi, moveL_getD _ _ i (by omega), moveL_getD _ _ _ (by omega), show ((place b i).toNat : Int) = place b i by omega]
end Go.Proofs.Ytdjneckgckagdaa.Perm
