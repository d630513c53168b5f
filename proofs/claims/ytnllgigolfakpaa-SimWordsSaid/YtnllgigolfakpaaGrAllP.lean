/- The greatest set from which all sets are met again and again: plain. No conditions. -/
import Derived.Test.YtnllgigolfakpaaGrBehind
namespace Go.Proofs.Ytnllgigolfakpaa

def condG (A : AU) (fl : List Nat) (i : Int) (p : Nat) : Prop := i < 0 ∨ (ndT A (fl.getD p 0)).inn.testBit i.toNat = true
def Ins (zs : List Bool) (p : Nat) : Prop := inZ zs p = true
/-- from each of Y a way leads on within Y, and to each set -/
def ClosedG (A : AU) (fl : List Nat) (es : List (List Nat)) (s : Int) (Y : Nat → Prop) : Prop := ∀ p, Y p → p < es.length ∧ ∀ i : Int, -1 ≤ i → i < s → ∃ q, Way (GE es) Y p q ∧ condG A fl i q
def GoodG (A : AU) (fl : List Nat) (es : List (List Nat)) (s : Int) (p : Nat) : Prop := ∃ Y, ClosedG A fl es s Y ∧ Y p
theorem inZ_lt {zs : List Bool} {p : Nat} (h : inZ zs p = true) : p < zs.length := by
  refine Nat.lt_of_not_le (fun hh => ?_)
  unfold inZ at h
  rw [List.getD_eq_getElem?_getD, List.getElem?_eq_none hh] at h
  simp at h
section
variable {A : AU} {fl : List Nat} {es : List (List Nat)} {s : Int} {zs nx xs : List Bool}
theorem wi_way (hl : zs.length = es.length) {v t : Nat} : Way (GE (wiL zs es)) All v t ↔ Way (GE es) (Ins zs) v t := by
  constructor
  · rintro ⟨n, hw⟩
    refine ⟨n, ?_⟩
    induction n generalizing v with
    | zero =>
      obtain ⟨_, h1, h2, h3⟩ := wi_edge.1 hw.2.1
      exact ⟨h1, h2, h3⟩
    | succ n ih =>
      obtain ⟨q, _, he, hw⟩ := hw
      obtain ⟨_, h1, h2, h3⟩ := wi_edge.1 he
      exact ⟨q, h1, h2, ih hw⟩
  · rintro ⟨n, hw⟩
    refine ⟨n, ?_⟩
    induction n generalizing v with
    | zero =>
      obtain ⟨h1, h2, h3⟩ := hw
      exact ⟨trivial, wi_edge.2 ⟨by rw [← hl]; exact inZ_lt h1, h1, h2, h3⟩, trivial⟩
    | succ n ih =>
      obtain ⟨q, h1, he, hw⟩ := hw
      exact ⟨q, trivial, wi_edge.2 ⟨by rw [← hl]; exact inZ_lt h1, h1, he, hw.fst⟩, ih hw⟩
/-- while the sets are gone through -/
structure AllInv (A : AU) (fl : List Nat) (es : List (List Nat)) (s : Int) (zs nx : List Bool) (i : Int) : Prop where
  len : nx.length = es.length
  sub : ∀ v, inZ nx v = true → inZ zs v = true
  met : ∀ j : Int, -1 ≤ j → j < i → ∀ v, inZ nx v = true → ∃ t, Way (GE es) (Ins zs) v t ∧ condG A fl j t
  all : ∀ Y, ClosedG A fl es s Y → ∀ p, Y p → inZ nx p = true
theorem AllInv.start (hl : zs.length = es.length) (h : ∀ Y, ClosedG A fl es s Y → ∀ p, Y p → inZ zs p = true) : AllInv A fl es s zs zs (-1) := ⟨hl, fun _ h => h, fun j h1 h2 => by omega, h⟩
theorem AllInv.step {i : Int} (h : AllInv A fl es s zs nx i) (hi : -1 ≤ i ∧ i < s) (hl : xs.length = es.length) (hx : ∀ v, v < es.length → (inZ xs v = true ↔ ∃ t, lieB A nx fl i t = true ∧ Way (GE (wiL nx es)) All v t)) : AllInv A fl es s zs xs (i + 1) := by
  have hx2 : ∀ v, v < es.length → (inZ xs v = true ↔ ∃ t, condG A fl i t ∧ Way (GE es) (Ins nx) v t) := fun v hv => by
    rw [hx v hv]
    constructor
    · rintro ⟨t, h1, h2⟩
      unfold lieB at h1
      rw [Bool.and_eq_true, Bool.or_eq_true, decide_eq_true_iff] at h1
      exact ⟨t, h1.2, (wi_way h.len).1 h2⟩
    · rintro ⟨t, h1, h2⟩
      refine ⟨t, ?_, (wi_way h.len).2 h2⟩
      unfold lieB
      rw [Bool.and_eq_true, Bool.or_eq_true, decide_eq_true_iff]
      exact ⟨h2.lst, h1⟩
  have hlt : ∀ v, inZ xs v = true → v < es.length := fun v hv => by rw [← hl]; exact inZ_lt hv
  have hsub : ∀ v, inZ xs v = true → inZ nx v = true := fun v hv => by
    obtain ⟨t, _, hw⟩ := (hx2 v (hlt v hv)).1 hv
    exact hw.fst
  refine ⟨hl, fun v hv => h.sub v (hsub v hv), fun j h1 h2 v hv => ?_, fun Y hY p hp => ?_⟩
  · by_cases hj : j < i
    · exact h.met j h1 hj v (hsub v hv)
    · obtain rfl : j = i := by omega
      obtain ⟨t, hc, hw⟩ := (hx2 v (hlt v hv)).1 hv
      exact ⟨t, hw.mono (fun p hp => h.sub p hp), hc⟩
  · obtain ⟨h1, h2⟩ := hY p hp
    obtain ⟨q, hw, hc⟩ := h2 i hi.1 hi.2
    exact (hx2 p h1).2 ⟨q, hc, hw.mono (fun r hr => h.all Y hY r hr)⟩
/-- where nothing is lost the set is the greatest -/
theorem AllInv.done (h : AllInv A fl es s zs nx s) (hz : zs.length = es.length) (he : ∀ v, v < es.length → inZ zs v = inZ nx v) {v : Nat} (_ : v < es.length) : inZ zs v = true ↔ GoodG A fl es s v := by
  have hlt : ∀ v, inZ zs v = true → v < es.length := fun v hv => by rw [← hz]; exact inZ_lt hv
  constructor
  · intro hvz
    refine ⟨Ins zs, fun p hp => ⟨hlt p hp, fun i h1 h2 => ?_⟩, hvz⟩
    have hp' : inZ zs p = true := hp
    exact h.met i h1 h2 p (by rw [← he p (hlt p hp)]; exact hp')
  · rintro ⟨Y, hY, hp⟩
    exact h.sub v (h.all Y hY v hp)
end
def cntB (n : Nat) (zs : List Bool) : Nat := ((List.range n).map fun v => if inZ zs v = true then 1 else 0).sum
theorem gsum_le {f g : Nat → Nat} (h : ∀ j, g j ≤ f j) : ∀ n, ((List.range n).map g).sum ≤ ((List.range n).map f).sum
  | 0 => Nat.le_refl _
  | n + 1 => by
    rw [List.range_succ, List.map_append, List.map_append, List.sum_append_nat, List.sum_append_nat]
    have := gsum_le h n
    have := h n
    simp only [List.map_cons, List.map_nil, List.sum_cons, List.sum_nil]
    omega
theorem gsum_lt {f g : Nat → Nat} (h : ∀ j, g j ≤ f j) {i : Nat} (hi : g i < f i) : ∀ {n}, i < n → ((List.range n).map g).sum < ((List.range n).map f).sum
  | n + 1, hn => by
    rw [List.range_succ, List.map_append, List.map_append, List.sum_append_nat, List.sum_append_nat]
    simp only [List.map_cons, List.map_nil, List.sum_cons, List.sum_nil]
    by_cases he : i = n
    · subst he
      have := gsum_le h i
      omega
    · have := gsum_lt h hi (show i < n by omega)
      have := h n
      omega
theorem cntB_lt {n : Nat} {zs xs : List Bool} (h : ∀ v, inZ xs v = true → inZ zs v = true) {v : Nat} (hv : v < n) (hne : inZ zs v ≠ inZ xs v) : cntB n xs < cntB n zs := by
  have h1 : ∀ v, (if inZ xs v = true then 1 else 0) ≤ (if inZ zs v = true then 1 else 0) := fun v => by
    by_cases hx : inZ xs v = true
    · rw [if_pos hx, if_pos (h v hx)]; exact Nat.le_refl _
    · rw [if_neg hx]; exact Nat.zero_le _
  refine gsum_lt h1 (i := v) ?_ hv
  have hx : ¬ inZ xs v = true := fun hx => hne (by rw [hx, h v hx])
  have hz : inZ zs v = true := by
    cases hzz : inZ zs v with
    | true => rfl
    | false =>
      cases hxx : inZ xs v with
      | true => exact absurd hxx hx
      | false => exact absurd (hzz.trans hxx.symm) hne
  rw [if_neg hx, if_pos hz]
  exact Nat.zero_lt_one
/-- is anything lost among the first -/
def lost (zs nx : List Bool) (k : Nat) : Bool := (List.range k).any fun v => inZ zs v != inZ nx v
theorem lost_succ (zs nx : List Bool) (k : Nat) : lost zs nx (k + 1) = (lost zs nx k || inZ zs k != inZ nx k) := by
  unfold lost
  rw [List.range_succ, List.any_append]
  simp
theorem lost_no {zs nx : List Bool} {n : Nat} (h : lost zs nx n = false) : ∀ v, v < n → inZ zs v = inZ nx v := fun v hv => by
  unfold lost at h
  rw [List.any_eq_false] at h
  have := h v (by simpa using hv)
  simpa using this
theorem lost_yes {zs nx : List Bool} {n : Nat} (h : lost zs nx n = true) : ∃ v, v < n ∧ inZ zs v ≠ inZ nx v := by
  unfold lost at h
  rw [List.any_eq_true] at h
  obtain ⟨v, hv, h⟩ := h
  exact ⟨v, by simpa using hv, by simpa using h⟩
def firstT (n k : Nat) : List Bool := (List.range n).map fun p => decide (p < k)
theorem firstT_start (n : Nat) : firstT n 0 = List.replicate n false := by
  apply List.ext_getElem
  · simp [firstT]
  · intro k h1 h2
    simp [firstT]
theorem firstT_set {n k : Nat} : (firstT n k).set k true = firstT n (k + 1) := by
  apply List.ext_getElem
  · simp [firstT]
  · intro p h1 h2
    rw [List.getElem_set]
    simp only [firstT, List.getElem_map, List.getElem_range]
    by_cases e : k = p
    · subst e
      simp
    · rw [if_neg e]
      congr 1
      apply propext
      omega
theorem firstT_all {n v : Nat} (h : v < n) : inZ (firstT n n) v = true := by simp [inZ, firstT, List.getD, h]
end Go.Proofs.Ytnllgigolfakpaa
