/- Which node can do what another one can: plain. No conditions. -/
import Derived.Test.YtnllgigolfakpaaAutoGood
namespace Go.Proofs.Ytnllgigolfakpaa

/-- a node by itself: it reads what the other one reads, and is of its sets -/
def aloB (s : Nat) (x y : AN) : Bool := (y.need &&& x.need == y.need) && ((y.ban &&& x.ban == y.ban) && ((x.inn &&& y.inn) &&& (2 ^ s - 1) == x.inn &&& (2 ^ s - 1)))
/-- it can go on as the other one does, by a relation -/
def folB (R : Nat → Nat → Bool) (x y : AN) : Bool := x.to.all fun t => y.to.any fun u => R t.toNat u.toNat
def ANY : AN := ⟨0, 0, 0, []⟩
def nd (A : AU) (i : Nat) : AN := A.nodes.getD i ANY
def sN (A : AU) : Nat := A.sets.toNat
/-- the relation is a simulation -/
def IsSim (A : AU) (R : Nat → Nat → Bool) : Prop := ∀ i k, i < A.nodes.length → k < A.nodes.length → R i k = true → aloB (sN A) (nd A i) (nd A k) = true ∧ folB R (nd A i) (nd A k) = true
/-- it is the greatest one -/
def Great (A : AU) (R : Nat → Nat → Bool) : Prop := IsSim A R ∧ ∀ S, IsSim A S → ∀ i k, i < A.nodes.length → k < A.nodes.length → S i k = true → R i k = true
def matL (n : Nat) (R : Nat → Nat → Bool) : List (List Bool) := (List.range n).map fun i => (List.range n).map fun k => R i k
theorem Great.same {A : AU} {R S : Nat → Nat → Bool} (h : Great A R) (k : Great A S) {i j : Nat} (hi : i < A.nodes.length) (hj : j < A.nodes.length) : R i j = S i j := by
  cases hr : R i j with
  | true => exact (k.2 R h.1 i j hi hj hr).symm
  | false =>
    cases hs : S i j with
    | false => rfl
    | true => rw [h.2 S k.1 i j hi hj hs] at hr; cases hr
theorem matL_congr {n : Nat} {R S : Nat → Nat → Bool} (h : ∀ i j, i < n → j < n → R i j = S i j) : matL n R = matL n S := by
  unfold matL
  refine List.map_congr_left fun i hi => List.map_congr_left fun k hk => h i k (by simpa using hi) (by simpa using hk)
/-- what the greatest simulation of an automaton is, as rows -/
def DirOf (A : AU) (L : List (List Bool)) : Prop := (chk A ≠ 0 ∧ L = []) ∨ (chk A = 0 ∧ ∃ R, Great A R ∧ L = matL A.nodes.length R)
theorem DirOf.same {A : AU} {L M : List (List Bool)} (h : DirOf A L) (k : DirOf A M) : L = M := by
  rcases h with ⟨h1, rfl⟩ | ⟨h1, R, hR, rfl⟩
  · rcases k with ⟨_, rfl⟩ | ⟨k1, _⟩
    · rfl
    · exact absurd k1 h1
  · rcases k with ⟨k1, _⟩ | ⟨_, S, hS, rfl⟩
    · exact absurd h1 k1
    · exact matL_congr fun i j hi hj => hR.same hS hi hj
theorem folB_mono {R S : Nat → Nat → Bool} {n : Nat} (h : ∀ i k, i < n → k < n → S i k = true → R i k = true) {x y : AN} (hx : ∀ t ∈ x.to, 0 ≤ t ∧ t < (n : Int)) (hy : ∀ t ∈ y.to, 0 ≤ t ∧ t < (n : Int)) (hf : folB S x y = true) : folB R x y = true := by
  unfold folB at hf ⊢
  rw [List.all_eq_true] at hf ⊢
  intro t ht
  have h1 := hf t ht
  rw [List.any_eq_true] at h1 ⊢
  obtain ⟨u, hu, h2⟩ := h1
  obtain ⟨a1, a2⟩ := hx t ht
  obtain ⟨b1, b2⟩ := hy u hu
  exact ⟨u, hu, h _ _ (by omega) (by omega) h2⟩
/-- above all simulations, as far as they go -/
def Above (A : AU) (R : Nat → Nat → Bool) : Prop := ∀ S, IsSim A S → ∀ i k, i < A.nodes.length → k < A.nodes.length → S i k = true → R i k = true
def upd (R : Nat → Nat → Bool) (i k : Nat) (b : Bool) : Nat → Nat → Bool := fun i' k' => if i' = i ∧ k' = k then b else R i' k'
theorem nd_get {A : AU} {i : Nat} (h : i < A.nodes.length) : nd A i = A.nodes[i] := by
  unfold nd
  rw [List.getD_eq_getElem?_getD, List.getElem?_eq_getElem h]
  rfl
theorem nd_to {A : AU} (hc : chk A = 0) {i : Nat} (h : i < A.nodes.length) : ∀ t ∈ (nd A i).to, 0 ≤ t ∧ t < (A.nodes.length : Int) := by
  rw [nd_get h]
  exact ((chk_good hc).2.2.2.2 _ (List.getElem_mem h)).1
theorem upd_same (R : Nat → Nat → Bool) (i k : Nat) (b : Bool) : upd R i k b i k = b := by
  show (if i = i ∧ k = k then b else R i k) = b
  rw [if_pos ⟨rfl, rfl⟩]
theorem upd_other (R : Nat → Nat → Bool) {i k i' k' : Nat} (b : Bool) (h : ¬ (i' = i ∧ k' = k)) : upd R i k b i' k' = R i' k' := by
  show (if i' = i ∧ k' = k then b else R i' k') = _
  rw [if_neg h]
/-- what cannot go on is taken out -/
theorem Above.out {A : AU} (hc : chk A = 0) {R : Nat → Nat → Bool} (h : Above A R) {i k : Nat} (hi : i < A.nodes.length) (hk : k < A.nodes.length) (hf : folB R (nd A i) (nd A k) = false) : Above A (upd R i k false) := by
  intro S hS i' k' hi' hk' hs
  by_cases he : i' = i ∧ k' = k
  · obtain ⟨rfl, rfl⟩ := he
    have h1 := (hS i' k' hi hk hs).2
    rw [folB_mono (h S hS) (nd_to hc hi) (nd_to hc hk) h1] at hf
    cases hf
  · rw [upd_other R false he]
    exact h S hS i' k' hi' hk' hs
theorem Above.start {A : AU} {R : Nat → Nat → Bool} (h : ∀ i k, i < A.nodes.length → k < A.nodes.length → R i k = aloB (sN A) (nd A i) (nd A k)) : Above A R := fun S hS i k hi hk hs => by
  rw [h i k hi hk]
  exact (hS i k hi hk hs).1
theorem Above.great {A : AU} {R : Nat → Nat → Bool} (h : Above A R) (hR : IsSim A R) : Great A R := ⟨hR, h⟩
/-- how many pairs are in -/
def cntR (n : Nat) (R : Nat → Nat → Bool) : Nat := ((List.range n).map fun i => ((List.range n).map fun k => if R i k then 1 else 0).sum).sum
theorem sum_upd {f g : Nat → Nat} {n i : Nat} (hi : i < n) (h1 : ∀ j, j ≠ i → g j = f j) (h2 : g i + 1 = f i) : ((List.range n).map g).sum + 1 = ((List.range n).map f).sum := by
  induction n with
  | zero => omega
  | succ n ih =>
    rw [List.range_succ, List.map_append, List.map_append, List.sum_append_nat, List.sum_append_nat]
    simp only [List.map_cons, List.map_nil, List.sum_cons, List.sum_nil]
    by_cases he : i = n
    · subst he
      have : (List.range i).map g = (List.range i).map f := List.map_congr_left fun j hj => h1 j (by have := List.mem_range.1 hj; omega)
      rw [this]
      omega
    · have := ih (by omega)
      rw [h1 n (by omega)]
      omega
theorem cnt_out {n : Nat} {R : Nat → Nat → Bool} {i k : Nat} (hi : i < n) (hk : k < n) (hr : R i k = true) : cntR n (upd R i k false) + 1 = cntR n R := by
  unfold cntR
  refine sum_upd hi (fun j hj => ?_) ?_
  · congr 1
    refine List.map_congr_left fun u _ => ?_
    rw [upd_other R false (by rintro ⟨h, _⟩; exact hj h)]
  · refine sum_upd hk (fun u hu => ?_) ?_
    · rw [upd_other R false (by rintro ⟨_, h⟩; exact hu h)]
    · rw [upd_same, hr]
      rfl
end Go.Proofs.Ytnllgigolfakpaa
