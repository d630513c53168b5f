/- The document's way to the greatest simulation: plain; rows of bools that grow. No conditions. -/
import Derived.Test.YtnllgigolfakpaaSimRCan
namespace Go.Proofs.Ytnllgigolfakpaa
open Go.RowKit

theorem fn_mat {n : Nat} {R : Nat → Nat → Bool} {i k : Nat} (hi : i < n) (hk : k < n) : fnOf (matL n R) i k = R i k := by
  unfold fnOf matL
  rw [List.getD_eq_getElem?_getD (l := (List.range n).map fun i => (List.range n).map fun k => R i k)]
  simp only [List.getElem?_map, List.getElem?_range hi, Option.map_some, Option.getD_some]
  rw [List.getD_eq_getElem?_getD]
  simp only [List.getElem?_map, List.getElem?_range hk, Option.map_some, Option.getD_some]
theorem sq_mat (n : Nat) (R : Nat → Nat → Bool) : Square n (matL n R) := by
  refine ⟨by simp [matL], fun l hl => ?_⟩
  obtain ⟨i, _, rfl⟩ := List.mem_map.1 hl
  simp
theorem mat_fn {n : Nat} {L : List (List Bool)} (h : Square n L) : matL n (fnOf L) = L := by
  unfold matL
  apply List.ext_getElem
  · simp [h.1]
  · intro i h1 h2
    simp only [List.getElem_map, List.getElem_range]
    have hl := h.2 _ (List.getElem_mem h2)
    apply List.ext_getElem
    · simp [hl]
    · intro k h3 h4
      simp only [List.getElem_map, List.getElem_range]
      unfold fnOf
      rw [List.getD_eq_getElem?_getD (l := L), List.getElem?_eq_getElem h2]
      simp only [Option.getD_some]
      rw [List.getD_eq_getElem?_getD, List.getElem?_eq_getElem h4]
      rfl
/-- one step -/
def stepR (A : AU) (R : Nat → Nat → Bool) (i k : Nat) : Bool := R i k && (aloB (sN A) (nd A i) (nd A k) && folB R (nd A i) (nd A k))
theorem stepR_above {A : AU} (hc : chk A = 0) {R : Nat → Nat → Bool} (h : Above A R) : Above A (stepR A R) := by
  intro S hS i k hi hk hs
  obtain ⟨a1, a2⟩ := hS i k hi hk hs
  unfold stepR
  rw [h S hS i k hi hk hs, a1, folB_mono (h S hS) (nd_to hc hi) (nd_to hc hk) a2]
  rfl
theorem stepR_end {A : AU} {R : Nat → Nat → Bool} (h : Above A R) (he : ∀ i k, i < A.nodes.length → k < A.nodes.length → stepR A R i k = R i k) : Great A R := by
  refine ⟨fun i k hi hk hr => ?_, h⟩
  have := he i k hi hk
  unfold stepR at this
  rw [hr, Bool.true_and, Bool.and_eq_true] at this
  exact this
theorem Above.congr {A : AU} {R S : Nat → Nat → Bool} (h : Above A R) (hs : ∀ i k, i < A.nodes.length → k < A.nodes.length → S i k = R i k) : Above A S := fun T hT i k hi hk ht => by
  rw [hs i k hi hk]
  exact h T hT i k hi hk ht
theorem Great.congr {A : AU} (hc : chk A = 0) {R S : Nat → Nat → Bool} (h : Great A R) (hs : ∀ i k, i < A.nodes.length → k < A.nodes.length → S i k = R i k) : Great A S := by
  refine ⟨fun i k hi hk hsk => ?_, Above.congr h.2 hs⟩
  rw [hs i k hi hk] at hsk
  obtain ⟨a1, a2⟩ := h.1 i k hi hk hsk
  exact ⟨a1, folB_mono (fun i k hi hk hr => by rw [hs i k hi hk]; exact hr) (nd_to hc hi) (nd_to hc hk) a2⟩
theorem sum_le {f g : Nat → Nat} (h : ∀ j, g j ≤ f j) : ∀ n, ((List.range n).map g).sum ≤ ((List.range n).map f).sum
  | 0 => Nat.le_refl _
  | n + 1 => by
    rw [List.range_succ, List.map_append, List.map_append, List.sum_append_nat, List.sum_append_nat]
    have := sum_le h n
    have := h n
    simp only [List.map_cons, List.map_nil, List.sum_cons, List.sum_nil]
    omega
theorem sum_lt {f g : Nat → Nat} (h : ∀ j, g j ≤ f j) {i : Nat} (hi : g i < f i) : ∀ {n}, i < n → ((List.range n).map g).sum < ((List.range n).map f).sum
  | n + 1, hn => by
    rw [List.range_succ, List.map_append, List.map_append, List.sum_append_nat, List.sum_append_nat]
    simp only [List.map_cons, List.map_nil, List.sum_cons, List.sum_nil]
    by_cases he : i = n
    · subst he
      have := sum_le h i
      omega
    · have := sum_lt h hi (show i < n by omega)
      have := h n
      omega
theorem cnt_lt {n : Nat} {R S : Nat → Nat → Bool} (h : ∀ i k, S i k = true → R i k = true) {i k : Nat} (hi : i < n) (hk : k < n) (hr : R i k = true) (hs : S i k = false) : cntR n S < cntR n R := by
  have h1 : ∀ i k, (if S i k = true then 1 else 0) ≤ (if R i k = true then 1 else 0) := fun i k => by
    by_cases hs : S i k = true
    · rw [if_pos hs, if_pos (h i k hs)]; exact Nat.le_refl _
    · rw [if_neg hs]; exact Nat.zero_le _
  unfold cntR
  refine sum_lt (fun j => sum_le (fun k => h1 j k) n) (sum_lt (fun k => h1 i k) ?_ hk) hi
  rw [hr, hs]
  simp
/-- does a step turn anything, in the first rows; in a row's beginning -/
def chgK (A : AU) (R : Nat → Nat → Bool) (i m : Nat) : Bool := (List.range m).any fun k => stepR A R i k != R i k
def chgI (A : AU) (R : Nat → Nat → Bool) (n m : Nat) : Bool := (List.range m).any fun i => chgK A R i n
theorem chgK_succ (A : AU) (R : Nat → Nat → Bool) (i m : Nat) : chgK A R i (m + 1) = (chgK A R i m || stepR A R i m != R i m) := by
  unfold chgK
  rw [List.range_succ, List.any_append]
  simp
theorem chgI_succ (A : AU) (R : Nat → Nat → Bool) (n m : Nat) : chgI A R n (m + 1) = (chgI A R n m || chgK A R m n) := by
  unfold chgI
  rw [List.range_succ, List.any_append]
  simp
theorem chg_no {A : AU} {R : Nat → Nat → Bool} (h : chgI A R A.nodes.length A.nodes.length = false) : ∀ i k, i < A.nodes.length → k < A.nodes.length → stepR A R i k = R i k := by
  intro i k hi hk
  unfold chgI at h
  rw [List.any_eq_false] at h
  have h1 := h i (by simpa using hi)
  unfold chgK at h1
  have h2 : ((List.range A.nodes.length).any fun k => stepR A R i k != R i k) = false := by simpa using h1
  rw [List.any_eq_false] at h2
  have h3 := h2 k (by simpa using hk)
  simpa using h3
theorem chg_yes {A : AU} {R : Nat → Nat → Bool} (h : chgI A R A.nodes.length A.nodes.length = true) : cntR A.nodes.length (stepR A R) < cntR A.nodes.length R := by
  unfold chgI at h
  rw [List.any_eq_true] at h
  obtain ⟨i, hi, h1⟩ := h
  unfold chgK at h1
  rw [List.any_eq_true] at h1
  obtain ⟨k, hk, h2⟩ := h1
  have hle : ∀ i k, stepR A R i k = true → R i k = true := fun i k hs => by
    unfold stepR at hs
    rw [Bool.and_eq_true] at hs
    exact hs.1
  have hi : i < A.nodes.length := by simpa using hi
  have hk : k < A.nodes.length := by simpa using hk
  have hne : stepR A R i k ≠ R i k := by simpa using h2
  cases hr : R i k with
  | true => exact cnt_lt hle hi hk hr (by rw [hr] at hne; simpa using hne)
  | false =>
    rw [hr] at hne
    have := hle i k (by simpa using hne)
    rw [hr] at this
    cases this
/-- the beginning of a row, and of the rows -/
def rowT (F : Nat → Nat → Bool) (i m : Nat) : List Bool := (List.range m).map fun k => F i k
def rowsT (F : Nat → Nat → Bool) (n m : Nat) : List (List Bool) := (List.range m).map fun i => rowT F i n
theorem rowT_succ (F : Nat → Nat → Bool) (i m : Nat) : rowT F i (m + 1) = rowT F i m ++ [F i m] := by simp [rowT, List.range_succ]
theorem rowsT_succ (F : Nat → Nat → Bool) (n m : Nat) : rowsT F n (m + 1) = rowsT F n m ++ [rowT F m n] := by simp [rowsT, List.range_succ]
theorem rowT_len (F : Nat → Nat → Bool) (i m : Nat) : (rowT F i m).length = m := by simp [rowT]
theorem rowsT_len (F : Nat → Nat → Bool) (n m : Nat) : (rowsT F n m).length = m := by simp [rowsT]
theorem rowsT_mat (F : Nat → Nat → Bool) (n : Nat) : rowsT F n n = matL n F := rfl

abbrev OBl (a : Option Addr) (n c : Nat) : Option Nat := (Value.slice a n c).ownBlock
/-- rows that the call makes, above all that stood at its start -/
structure RowsSt (wK wr : World) (L : List (List Bool)) (a : Option Addr) (c : Nat) (cells : List Value) : Prop where
  low : Below wK.heap.size wK wr
  own : OwnR wr wK.heap.size 32 1 a L.length c cells
  cs : CellsR wr (fun j => OBl a L.length c ≠ some j ∧ j < wr.heap.size) L cells
section
variable {wK wr w' w3 : World} {L : List (List Bool)} {a : Option Addr} {c : Nat} {cells : List Value}
theorem RowsSt.nil (wK : World) : RowsSt wK wK [] none 0 [] := ⟨Below.refl _ _, OwnR.nil _ _ _ _, rfl⟩
theorem RowsSt.below (h : RowsSt wK wr L a c cells) (hb : Below wr.heap.size wr w') : RowsSt wK w' L a c cells :=
  ⟨btrans h.low hb, h.own.keeps (S := fun _ => False) (Keeps.of_below hb) (fun _ _ h => h), h.cs.keep (fun j hj => hb.block j hj.2) (fun j hj => ⟨hj.1, Nat.lt_of_lt_of_le hj.2 hb.size⟩)⟩
theorem RowsSt.rows (h : RowsSt wK wr L a c cells) : RowsAt wr a L := h.cs.rows h.own
/-- a row that was made is put behind -/
theorem RowsSt.app {w2 wA : World} (h : RowsSt wK w2 L a c cells) {xs : List Bool} {ar : Option Addr} {cr : Nat} (hr : OwnR w' w2.heap.size TB 1 ar xs.length cr (xs.map .bool)) (hb : Below w2.heap.size w2 w') (hA : Below w'.heap.size w' wA) {a' : Option Addr} {c' : Nat}
    (ho : OwnR w3 wK.heap.size 32 1 a' (L.length + 1) c' (cells ++ [.slice ar xs.length cr])) (hg : wA.grownBy w3 (OBl a L.length c))
    (hat : OBl a' (L.length + 1) c' = OBl a L.length c ∨ ∃ z, w'.heap.size ≤ z ∧ OBl a' (L.length + 1) c' = some z) :
    RowsSt wK w3 (L ++ [xs]) a' c' (cells ++ [.slice ar xs.length cr]) := by
  have h2 := h.below hb
  have hk : Keeps w' w3 (fun j => OBl a L.length c = some j) := (Keeps.of_below (S := fun j => OBl a L.length c = some j) hA).trans (Keeps.of_grown (S := fun j => OBl a L.length c = some j) hg (fun j e => e)) (fun _ _ h => h)
  have hz := hk.size
  have hol : ∀ j, OBl a L.length c = some j → wK.heap.size ≤ j ∧ j < w2.heap.size := fun j hj => OwnR.lt h.own hj
  have hnew : ∀ j, OBl a' (L.length + 1) c' = some j → OBl a L.length c = some j ∨ w'.heap.size ≤ j := fun j hj => by
    rcases hat with h1 | ⟨z, h1, h2⟩
    · exact .inl (by rw [← h1]; exact hj)
    · rw [h2] at hj
      cases hj
      exact .inr h1
  have elen : (L ++ [xs]).length = L.length + 1 := by simp
  have hrl : ∀ ad : Addr, ar = some ad → w2.heap.size ≤ ad.block ∧ ad.block < w'.heap.size := fun ad had => OwnR.lt hr (by rw [had]; rfl)
  refine ⟨hk.below h2.low (fun j hj => (hol j hj).1), by rw [elen]; exact ho, ?_⟩
  rw [elen]
  refine CellsR.snoc ?_ ?_ (h2.cs.keep (fun j hj => ?_) (fun j hj => ⟨fun e => ?_, by omega⟩))
  · exact (own_bools hr).keep (fun ad had hlt => hk.block _ hlt (fun e => by have := hol _ e; have := (hrl ad had).1; omega))
  · intro ad had
    have h1 := hrl ad had
    refine ⟨fun e => ?_, by omega⟩
    rcases hnew _ e with h3 | h3
    · have := (hol _ h3).2; omega
    · omega
  · exact hk.block j hj.2 (fun e => hj.1 e)
  · rcases hnew _ e with h3 | h3
    · exact hj.1 h3
    · omega
end
end Go.Proofs.Ytnllgigolfakpaa
