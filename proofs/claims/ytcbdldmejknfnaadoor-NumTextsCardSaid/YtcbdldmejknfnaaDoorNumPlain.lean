/- What layer num computes, in plain terms, and the plain laws on it. No conditions, no program. -/
import GoSem.Core.Value
namespace Go.Proofs.YtcbdldmejknfnaaDoor.Num

/-- the value of the first k digits -/
def rv (ds bs : List Int) : Nat → Int
  | 0 => 0
  | k + 1 => rv ds bs k * bs.getD k 0 + ds.getD k 0
/-- what is left of n when the last d digits are taken off -/
def qd (n : Int) (bs : List Int) : Nat → Int
  | 0 => n
  | d + 1 => qd n bs d / bs.getD (bs.length - 1 - d) 0
def Fit (ds bs : List Int) : Prop := ∀ i, i < bs.length → 1 ≤ bs.getD i 0 ∧ 0 ≤ ds.getD i 0 ∧ ds.getD i 0 < bs.getD i 0
def Pos (bs : List Int) : Prop := ∀ i, i < bs.length → 1 ≤ bs.getD i 0
open Classical in
noncomputable def rank (ds bs : List Int) : Int × Bool := if ds.length = bs.length ∧ Fit ds bs ∧ rv ds bs bs.length ≤ 1048576 then (rv ds bs bs.length, true) else (0, false)
def digits (n : Int) (bs : List Int) : List Int := (List.range bs.length).map fun i => qd n bs (bs.length - 1 - i) % bs.getD i 0
open Classical in
noncomputable def unrank (n : Int) (bs : List Int) : List Int × Bool := if 0 ≤ n ∧ n ≤ 1048576 ∧ Pos bs ∧ qd n bs bs.length ≤ 0 then (digits n bs, true) else ([], false)

theorem rv_nonneg {ds bs : List Int} (h : Fit ds bs) : ∀ k, k ≤ bs.length → 0 ≤ rv ds bs k
  | 0, _ => Int.le_refl _
  | k + 1, hk => by
    have ih := rv_nonneg h k (by omega)
    obtain ⟨h1, h2, _⟩ := h k (by omega)
    have := Int.mul_nonneg ih (show 0 ≤ bs.getD k 0 by omega)
    simp only [rv]; omega

theorem rv_step {ds bs : List Int} (h : Fit ds bs) (k : Nat) (hk : k < bs.length) : rv ds bs k ≤ rv ds bs (k + 1) := by
  have ih := rv_nonneg h k (by omega)
  obtain ⟨h1, h2, _⟩ := h k hk
  have := Int.mul_le_mul_of_nonneg_left h1 ih
  simp only [rv]; omega

theorem rv_mono {ds bs : List Int} (h : Fit ds bs) (k : Nat) : ∀ m, k + m ≤ bs.length → rv ds bs k ≤ rv ds bs (k + m)
  | 0, _ => Int.le_refl _
  | m + 1, hm => by
    have ih := rv_mono h k m (by omega)
    have := rv_step h (k + m) (by omega)
    rw [← Nat.add_assoc]; omega

theorem rank_yes {ds bs : List Int} (hl : ds.length = bs.length) (h : Fit ds bs) (hr : rv ds bs bs.length ≤ 1048576) : rank ds bs = (rv ds bs bs.length, true) := by
  unfold rank; rw [if_pos ⟨hl, h, hr⟩]
theorem rank_no_len {ds bs : List Int} (hl : ¬ ds.length = bs.length) : rank ds bs = (0, false) := by
  unfold rank; rw [if_neg (fun h => hl h.1)]
theorem rank_no_fit {ds bs : List Int} (k : Nat) (hk : k < bs.length) (h : bs.getD k 0 < 1 ∨ ds.getD k 0 < 0 ∨ bs.getD k 0 ≤ ds.getD k 0) : rank ds bs = (0, false) := by
  unfold rank; rw [if_neg (fun g => by have := g.2.1 k hk; omega)]
theorem rank_no_big {ds bs : List Int} (hf : Fit ds bs) (k : Nat) (hk : k ≤ bs.length) (h : 1048576 < rv ds bs k) : rank ds bs = (0, false) := by
  unfold rank
  rw [if_neg]
  rintro ⟨_, _, g⟩
  have := rv_mono hf k (bs.length - k) (by omega)
  rw [show k + (bs.length - k) = bs.length by omega] at this
  omega

theorem qd_nonneg {n : Int} {bs : List Int} (hp : Pos bs) (hn : 0 ≤ n) : ∀ d, d ≤ bs.length → 0 ≤ qd n bs d
  | 0, _ => hn
  | d + 1, hd => by
    have ih := qd_nonneg hp hn d (by omega)
    have := hp (bs.length - 1 - d) (by omega)
    simp only [qd]
    exact Int.ediv_nonneg ih (by omega)

theorem qd_le {n : Int} {bs : List Int} (hp : Pos bs) (hn : 0 ≤ n) : ∀ d, d ≤ bs.length → qd n bs d ≤ n
  | 0, _ => Int.le_refl _
  | d + 1, hd => by
    have ih := qd_le hp hn d (by omega)
    have h0 := qd_nonneg hp hn d (by omega)
    simp only [qd]
    exact Int.le_trans (Int.ediv_le_self _ h0) ih

theorem digits_length (n : Int) (bs : List Int) : (digits n bs).length = bs.length := by simp [digits]
theorem digits_getD (n : Int) (bs : List Int) (i : Nat) (h : i < bs.length) : (digits n bs).getD i 0 = qd n bs (bs.length - 1 - i) % bs.getD i 0 := by
  unfold digits
  rw [List.getD_eq_getElem?_getD, List.getElem?_map, List.getElem?_range h]
  rfl

/-- digits of a number, taken off the number that they make, are they -/
theorem qd_rv {ds bs : List Int} (hf : Fit ds bs) : ∀ d, d ≤ bs.length → qd (rv ds bs bs.length) bs d = rv ds bs (bs.length - d)
  | 0, _ => rfl
  | d + 1, hd => by
    have ih := qd_rv hf d (by omega)
    simp only [qd]
    rw [ih]
    obtain ⟨k, hk⟩ : ∃ k, bs.length - d = k + 1 := ⟨bs.length - d - 1, by omega⟩
    rw [hk, show bs.length - 1 - d = k by omega, show bs.length - (d + 1) = k by omega]
    obtain ⟨h1, h2, h3⟩ := hf k (by omega)
    simp only [rv]
    rw [Int.add_comm, Int.add_mul_ediv_right _ _ (by omega), Int.ediv_eq_zero_of_lt h2 h3]
    omega

theorem back1 {ds bs : List Int} (hl : ds.length = bs.length) (hf : Fit ds bs) : digits (rv ds bs bs.length) bs = ds := by
  apply List.ext_getElem?
  intro i
  by_cases h : i < bs.length
  · have e := digits_getD (rv ds bs bs.length) bs i h
    rw [qd_rv hf _ (by omega), show bs.length - (bs.length - 1 - i) = i + 1 by omega] at e
    obtain ⟨h1, h2, h3⟩ := hf i h
    simp only [rv] at e
    rw [Int.add_comm, Int.add_mul_emod_self_right, Int.emod_eq_of_lt h2 h3] at e
    rw [List.getElem?_eq_getElem (by rw [digits_length]; omega), List.getElem?_eq_getElem (by omega)]
    rw [List.getD_eq_getElem?_getD, List.getElem?_eq_getElem (by rw [digits_length]; omega), List.getD_eq_getElem?_getD, List.getElem?_eq_getElem (by omega)] at e
    simpa using e
  · rw [List.getElem?_eq_none (by rw [digits_length]; omega), List.getElem?_eq_none (by omega)]

theorem rv_digits {n : Int} {bs : List Int} (hp : Pos bs) (h0 : qd n bs bs.length = 0) : ∀ k, k ≤ bs.length → rv (digits n bs) bs k = qd n bs (bs.length - k)
  | 0, _ => by simp [rv, h0]
  | k + 1, hk => by
    have ih := rv_digits hp h0 k (by omega)
    simp only [rv]
    rw [ih, digits_getD n bs k (by omega), show bs.length - k = (bs.length - (k + 1)) + 1 by omega]
    simp only [qd]
    rw [show bs.length - 1 - (bs.length - (k + 1)) = k by omega, show bs.length - 1 - k = bs.length - (k + 1) by omega]
    rw [Int.mul_comm]
    exact Int.mul_ediv_add_emod _ _

theorem fit_digits {n : Int} {bs : List Int} (hp : Pos bs) : Fit (digits n bs) bs := by
  intro i hi
  have h1 := hp i hi
  refine ⟨h1, ?_, ?_⟩
  · rw [digits_getD n bs i hi]; exact Int.emod_nonneg _ (by omega)
  · rw [digits_getD n bs i hi]; exact Int.emod_lt_of_pos _ (by omega)

theorem rank_snd {ds bs : List Int} (h : (rank ds bs).2 = true) : ds.length = bs.length ∧ Fit ds bs ∧ rv ds bs bs.length ≤ 1048576 ∧ (rank ds bs).1 = rv ds bs bs.length := by
  unfold rank at h ⊢
  split at h
  · rename_i g; rw [if_pos g]; exact ⟨g.1, g.2.1, g.2.2, rfl⟩
  · simp at h
theorem unrank_snd {n : Int} {bs : List Int} (h : (unrank n bs).2 = true) : 0 ≤ n ∧ n ≤ 1048576 ∧ Pos bs ∧ qd n bs bs.length = 0 ∧ (unrank n bs).1 = digits n bs := by
  unfold unrank at h ⊢
  split at h
  · rename_i g; rw [if_pos g]; exact ⟨g.1, g.2.1, g.2.2.1, by have := qd_nonneg g.2.2.1 g.1 bs.length (Nat.le_refl _); omega, rfl⟩
  · simp at h
theorem unrank_yes {n : Int} {bs : List Int} (h0 : 0 ≤ n) (h1 : n ≤ 1048576) (hp : Pos bs) (hq : qd n bs bs.length ≤ 0) : unrank n bs = (digits n bs, true) := by
  unfold unrank; rw [if_pos ⟨h0, h1, hp, hq⟩]
theorem unrank_no {n : Int} {bs : List Int} (h : n < 0 ∨ 1048576 < n) : unrank n bs = ([], false) := by
  unfold unrank; rw [if_neg (fun g => by omega)]
theorem unrank_no_base {n : Int} {bs : List Int} (k : Nat) (hk : k < bs.length) (h : bs.getD k 0 < 1) : unrank n bs = ([], false) := by
  unfold unrank; rw [if_neg (fun g => by have := g.2.2.1 k hk; omega)]
theorem unrank_no_left {n : Int} {bs : List Int} (h : 0 < qd n bs bs.length) : unrank n bs = ([], false) := by
  unfold unrank; rw [if_neg (fun g => by omega)]

theorem back_ranks {ds bs : List Int} (h : (rank ds bs).2 = true) : unrank (rank ds bs).1 bs = (ds, true) ∧ 0 ≤ (rank ds bs).1 ∧ (rank ds bs).1 ≤ 1048576 := by
  obtain ⟨hl, hf, hr, e⟩ := rank_snd h
  have h0 := rv_nonneg hf bs.length (Nat.le_refl _)
  rw [e]
  refine ⟨?_, h0, hr⟩
  rw [unrank_yes h0 hr (fun i hi => (hf i hi).1) (by rw [qd_rv hf _ (Nat.le_refl _)]; simp [rv]), back1 hl hf]
theorem back_unranks {n : Int} {bs : List Int} (h : (unrank n bs).2 = true) : rank (unrank n bs).1 bs = (n, true) := by
  obtain ⟨h0, h1, hp, hq, e⟩ := unrank_snd h
  have hv := rv_digits hp hq bs.length (Nat.le_refl _)
  simp only [Nat.sub_self, qd] at hv
  rw [e, rank_yes (digits_length n bs) (fit_digits hp) (by rw [hv]; exact h1), hv]

/-- the first place where they differ decides -/
theorem rv_first {a b bs : List Int} (ha : Fit a bs) (hb : Fit b bs) (k : Nat) (he : rv a bs k = rv b bs k) (hk : k < bs.length) (hlt : a.getD k 0 < b.getD k 0) : ∀ m, k + 1 + m ≤ bs.length → rv a bs (k + 1 + m) < rv b bs (k + 1 + m)
  | 0, _ => by simp only [Nat.add_zero, rv]; rw [he]; omega
  | m + 1, hm => by
    have ih := rv_first ha hb k he hk hlt m (by omega)
    rw [← Nat.add_assoc]
    simp only [rv]
    obtain ⟨a1, a2, a3⟩ := ha (k + 1 + m) (by omega)
    obtain ⟨b1, b2, b3⟩ := hb (k + 1 + m) (by omega)
    have h1 : (rv a bs (k + 1 + m) + 1) * bs.getD (k + 1 + m) 0 ≤ rv b bs (k + 1 + m) * bs.getD (k + 1 + m) 0 := Int.mul_le_mul_of_nonneg_right (by omega) (by omega)
    rw [Int.add_mul] at h1
    omega
theorem rv_eq {a b bs : List Int} : ∀ k, (∀ i, i < k → a.getD i 0 = b.getD i 0) → rv a bs k = rv b bs k
  | 0, _ => rfl
  | k + 1, h => by simp only [rv]; rw [rv_eq k (fun i hi => h i (by omega)), h k (by omega)]

theorem order_lt {a b bs : List Int} (ha : (rank a bs).2 = true) (hb : (rank b bs).2 = true) (k : Nat) (hk : k < a.length) (he : ∀ i, i < k → a.getD i 0 = b.getD i 0) (hlt : a.getD k 0 < b.getD k 0) : (rank a bs).1 < (rank b bs).1 := by
  obtain ⟨l1, f1, _, e1⟩ := rank_snd ha
  obtain ⟨l2, f2, _, e2⟩ := rank_snd hb
  rw [e1, e2]
  have := rv_first f1 f2 k (rv_eq k he) (by omega) hlt (bs.length - (k + 1)) (by omega)
  rwa [show k + 1 + (bs.length - (k + 1)) = bs.length by omega] at this
theorem order_eq {a b bs : List Int} (ha : (rank a bs).2 = true) (hb : (rank b bs).2 = true) (he : ∀ i, i < a.length → a.getD i 0 = b.getD i 0) : (rank a bs).1 = (rank b bs).1 := by
  obtain ⟨l1, f1, _, e1⟩ := rank_snd ha
  obtain ⟨l2, f2, _, e2⟩ := rank_snd hb
  rw [e1, e2]
  exact rv_eq _ (fun i hi => he i (by omega))
end Go.Proofs.YtcbdldmejknfnaaDoor.Num
