/- Ranks of permutations, in plain terms. No conditions, no program. -/
import Derived.Test.YtdjneckgckagdaaPermPlain
namespace Go.Proofs.Ytdjneckgckagdaa.Perm

def factN : Nat → Int
  | 0 => 1
  | n + 1 => factN n * ((n : Int) + 1)
theorem fact_pos : ∀ n, 1 ≤ factN n
  | 0 => by simp [factN]
  | n + 1 => by
    have h := fact_pos n
    have := Int.mul_le_mul h (show (1 : Int) ≤ (n : Int) + 1 by omega) (by omega) (by omega)
    simp only [factN]; omega
theorem fact_le : ∀ n, n ≤ 8 → factN n ≤ 40320
  | 0, _ | 1, _ | 2, _ | 3, _ | 4, _ | 5, _ | 6, _ | 7, _ | 8, _ => by decide
  | n + 9, h => by omega
/-- how many of those behind place k, up to so many, are less than what stands there -/
def lessP (p : List Int) (k : Nat) : Nat → Int
  | 0 => 0
  | m + 1 => lessP p k m + (if p.getD (k + 1 + m) 0 < p.getD k 0 then 1 else 0)
theorem less_nonneg (p : List Int) (k : Nat) : ∀ m, 0 ≤ lessP p k m ∧ lessP p k m ≤ m
  | 0 => by simp [lessP]
  | m + 1 => by have := less_nonneg p k m; simp only [lessP]; split <;> omega
def rankP (p : List Int) : Nat → Int
  | 0 => 0
  | k + 1 => rankP p k + lessP p k (p.length - 1 - k) * factN (p.length - 1 - k)
def rank (p : List Int) : Int := if okB p then rankP p p.length else -1
theorem rank_yes {p : List Int} (h : Ok p) : rank p = rankP p p.length := if_pos ((okB_iff p).2 h)
theorem rank_no {p : List Int} (h : okB p = false) : rank p = -1 := if_neg (by simp [h])
theorem term_bound {p : List Int} (h8 : p.length ≤ 8) (k : Nat) : 0 ≤ lessP p k (p.length - 1 - k) * factN (p.length - 1 - k) ∧ lessP p k (p.length - 1 - k) * factN (p.length - 1 - k) ≤ 322560 := by
  have h1 := less_nonneg p k (p.length - 1 - k)
  have h2 := fact_pos (p.length - 1 - k)
  have h3 := fact_le (p.length - 1 - k) (by omega)
  refine ⟨Int.mul_nonneg (by omega) (by omega), ?_⟩
  have := Int.mul_le_mul (show lessP p k (p.length - 1 - k) ≤ 8 by omega) h3 (by omega) (by omega)
  omega
theorem rankP_bound {p : List Int} (h8 : p.length ≤ 8) : ∀ k, 0 ≤ rankP p k ∧ rankP p k ≤ 322560 * k
  | 0 => by simp [rankP]
  | k + 1 => by
    have h := rankP_bound h8 k
    have := term_bound h8 k
    simp only [rankP]
    omega

/-! how often a permutation takes -/
def pw (p : List Int) : Nat → List Int
  | 0 => p
  | k + 1 => mulL (pw p k) p
/-- the least number from k on, of at most so many more, behind which all is where it was -/
def ordFrom (p : List Int) : Nat → Nat → Nat
  | 0, k => k
  | f + 1, k => if pw p k = idl p.length then k else ordFrom p f (k + 1)
def ord (p : List Int) : Int := if okB p then (ordFrom p 840 0 : Int) + 1 else 0
theorem ord_no {p : List Int} (h : okB p = false) : ord p = 0 := if_neg (by simp [h])
theorem ord_yes {p : List Int} (h : Ok p) : ord p = (ordFrom p 840 0 : Int) + 1 := if_pos ((okB_iff p).2 h)
theorem pw_ok {p : List Int} (h : Ok p) : ∀ k, Ok (pw p k) ∧ (pw p k).length = p.length
  | 0 => ⟨h, rfl⟩
  | k + 1 => by
    have ih := pw_ok h k
    exact ⟨ok_mulL ih.1 h ih.2, by simp only [pw]; rw [mulL_length]; exact ih.2⟩
/-- one step of p -/
def step (p : List Int) (i : Nat) : Nat := (p.getD i 0).toNat
def stepN (p : List Int) : Nat → Nat → Nat
  | 0, i => i
  | k + 1, i => step p (stepN p k i)
theorem step_lt {p : List Int} (h : Ok p) {i : Nat} (hi : i < p.length) : step p i < p.length := by
  have := h.range i hi
  unfold step
  omega
theorem stepN_lt {p : List Int} (h : Ok p) {i : Nat} (hi : i < p.length) : ∀ k, stepN p k i < p.length
  | 0 => hi
  | k + 1 => step_lt h (stepN_lt h hi k)
theorem step_inj {p : List Int} (h : Ok p) {i j : Nat} (hi : i < p.length) (hj : j < p.length) (he : step p i = step p j) : i = j := by
  have h1 := h.range i hi
  have h2 := h.range j hj
  unfold step at he
  have he' : p.getD i 0 = p.getD j 0 := by omega
  rcases Nat.lt_trichotomy i j with hl | hl | hl
  · exact absurd he' (h.apart i j hl hj)
  · exact hl
  · exact absurd he'.symm (h.apart j i hl hi)
theorem stepN_add (p : List Int) (i a : Nat) : ∀ b, stepN p (a + b) i = stepN p b (stepN p a i)
  | 0 => rfl
  | b + 1 => by rw [← Nat.add_assoc]; simp only [stepN]; rw [stepN_add p i a b]
theorem stepN_inj {p : List Int} (h : Ok p) : ∀ (k : Nat) {i j : Nat}, i < p.length → j < p.length → stepN p k i = stepN p k j → i = j
  | 0, _, _, _, _, he => he
  | k + 1, _, _, hi, hj, he => stepN_inj h k hi hj (step_inj h (stepN_lt h hi k) (stepN_lt h hj k) he)
theorem pw_step {p : List Int} (h : Ok p) : ∀ (k i : Nat), i < p.length → (pw p k).getD i 0 = (stepN p (k + 1) i : Int)
  | 0, i, hi => by
    have := h.range i hi
    simp only [pw, stepN, step]
    omega
  | k + 1, i, hi => by
    have ih := pw_step h k i hi
    simp only [pw]
    rw [mulL_getD _ _ i (by rw [(pw_ok h k).2]; exact hi), ih, Int.toNat_natCast]
    have := h.range _ (stepN_lt h hi (k + 1))
    simp only [stepN, step] at this ⊢
    omega
/-- each number comes back behind at most eight steps -/
theorem cycle {p : List Int} (h : Ok p) {i : Nat} (hi : i < p.length) : ∃ c, 1 ≤ c ∧ c ≤ 8 ∧ stepN p c i = i := by
  rcases Classical.em (((List.range 9).map fun k => stepN p k i).Nodup) with hd | hd
  · have := le_of_subset (m := List.range p.length) hd (fun x hx => by
      obtain ⟨k, _, rfl⟩ := List.mem_map.1 hx
      exact List.mem_range.2 (stepN_lt h hi k))
    simp at this
    have := h.small
    omega
  · rw [List.nodup_iff_pairwise_ne, List.pairwise_map] at hd
    have : ∃ a b, a < b ∧ b < 9 ∧ stepN p a i = stepN p b i := by
      apply Classical.byContradiction
      intro hno
      apply hd
      rw [List.pairwise_iff_getElem]
      intro a b ha hb hab he
      simp at ha hb he
      exact hno ⟨a, b, hab, hb, he⟩
    obtain ⟨a, b, hab, hb, he⟩ := this
    refine ⟨b - a, by omega, by omega, ?_⟩
    have e : stepN p a i = stepN p a (stepN p (b - a) i) := by
      rw [← stepN_add, show b - a + a = b by omega]
      exact he
    exact (stepN_inj h a hi (stepN_lt h hi _) e).symm
theorem stepN_mul {p : List Int} {i c : Nat} (h : stepN p c i = i) : ∀ m, stepN p (c * m) i = i
  | 0 => rfl
  | m + 1 => by rw [Nat.mul_succ, stepN_add, stepN_mul h m, h]
theorem pw_840 {p : List Int} (h : Ok p) : pw p 839 = idl p.length := by
  refine ext (by rw [(pw_ok h _).2, idl_length]) fun i hi => ?_
  rw [(pw_ok h _).2] at hi
  rw [pw_step h 839 i hi, idl_getD _ _ hi]
  obtain ⟨c, h1, h2, he⟩ := cycle h hi
  have : ∃ m, c * m = 840 := by
    have : c = 1 ∨ c = 2 ∨ c = 3 ∨ c = 4 ∨ c = 5 ∨ c = 6 ∨ c = 7 ∨ c = 8 := by omega
    rcases this with rfl | rfl | rfl | rfl | rfl | rfl | rfl | rfl
    · exact ⟨840, rfl⟩
    · exact ⟨420, rfl⟩
    · exact ⟨280, rfl⟩
    · exact ⟨210, rfl⟩
    · exact ⟨168, rfl⟩
    · exact ⟨140, rfl⟩
    · exact ⟨120, rfl⟩
    · exact ⟨105, rfl⟩
  obtain ⟨m, hm⟩ := this
  have := stepN_mul he m
  rw [hm] at this
  rw [this]
theorem ordFrom_stop {p : List Int} {f k : Nat} (h : pw p k = idl p.length) : ordFrom p f k = k := by
  cases f with
  | zero => rfl
  | succ f => unfold ordFrom; rw [if_pos h]
theorem ordFrom_go {p : List Int} {f k : Nat} (h : ¬ pw p k = idl p.length) : ordFrom p (f + 1) k = ordFrom p f (k + 1) := by
  rw [ordFrom, if_neg h]
/-- nothing moves: all is where it was -/
theorem moves_iff {p : List Int} : (∀ i, i < p.length → p.getD i 0 = i) ↔ p = idl p.length := by
  constructor
  · intro h
    exact ext (idl_length _).symm fun i hi => by rw [h i hi, idl_getD _ _ hi]
  · intro h i hi
    rw [h, idl_getD _ _ hi]
end Go.Proofs.Ytdjneckgckagdaa.Perm
