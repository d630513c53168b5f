/- Rows of edges that a call puts one behind the other, and the bits of a source. Conditions: the bound on an append. -/
import Derived.Test.YtmlbjfaofppikaaPrOf
import Derived.Test.YtmlbjfaofppikaaMakeRow
namespace Go.Proofs.Ytmlbjfaofppikaa
open Go.RowKit

theorem OwnR.base {w : World} {b base e sz n cap : Nat} {a : Option Addr} {cells : List Value} (h : OwnR w base e sz a n cap cells) (hb : b ≤ base) : OwnR w b e sz a n cap cells := by
  unfold OwnR at h ⊢
  refine ⟨h.1, ?_⟩
  rcases h.2 with hv | ⟨g, cap', cur, hv, hg, r⟩
  · exact .inl hv
  · exact .inr ⟨g, cap', cur, hv, Nat.le_trans hb hg, r⟩
abbrev OB (a : Option Addr) (n c : Nat) : Option Nat := (Value.slice a n c).ownBlock
theorem infoEs : (Try.prog.info? TEs).map (fun i => (i.zero, i.size, i.bytes)) = some (some (.slice none 0 0), 1, 24) := by kernel_rfl
/-- a row, where it lies -/
abbrev ER := Option Addr × Nat × List PR
abbrev eob (s : ER) : Option Nat := OB s.1 s.2.2.length s.2.1
abbrev ecell (s : ER) : Value := .slice s.1 s.2.2.length s.2.1
def rowsOf (S : List ER) : List (List PR) := S.map fun s => s.2.2
theorem rowsOf_snoc (S : List ER) (s : ER) : rowsOf (S ++ [s]) = rowsOf S ++ [s.2.2] := by simp [rowsOf]
theorem rowsOf_len (S : List ER) : (rowsOf S).length = S.length := by simp [rowsOf]
structure EsOwn (w : World) (base : Nat) (a : Option Addr) (cap : Nat) (S : List ER) : Prop where
  own : OwnR w base TEs 1 a S.length cap (S.map ecell)
  rows : ∀ s ∈ S, OwnP w base TE s.1 s.2.2.length s.2.1 s.2.2
  ne : ∀ s ∈ S, ∀ j, eob s = some j → OB a S.length cap ≠ some j
/-- the blocks of rows -/
def EsBlk (a : Option Addr) (cap : Nat) (S : List ER) (j : Nat) : Prop := OB a S.length cap = some j ∨ ∃ s ∈ S, eob s = some j
section
variable {w w' : World} {base : Nat} {a : Option Addr} {cap : Nat} {S : List ER}
theorem EsOwn.nil (w : World) (base : Nat) : EsOwn w base none 0 [] := ⟨OwnR.nil _ _ _ _, by simp, by simp⟩
theorem EsOwn.blk (h : EsOwn w base a cap S) {j : Nat} (hj : EsBlk a cap S j) : base ≤ j ∧ j < w.heap.size := by
  rcases hj with hj | ⟨s, hs, hj⟩
  · exact OwnR.lt h.own hj
  · exact OwnR.lt (h.rows s hs) hj
theorem EsOwn.keeps {T : Nat → Prop} (h : EsOwn w base a cap S) (hk : Keeps w w' T) (hn : ∀ j, EsBlk a cap S j → ¬ T j) : EsOwn w' base a cap S :=
  ⟨OwnR.keeps h.own hk (fun j hj => hn j (.inl hj)), fun s hs => OwnR.keeps (h.rows s hs) hk (fun j hj => hn j (.inr ⟨s, hs, hj⟩)), h.ne⟩
theorem EsOwn.below (h : EsOwn w base a cap S) (hb : Below w.heap.size w w') : EsOwn w' base a cap S := h.keeps (T := fun _ => False) (Keeps.of_below hb) (fun _ _ h => h)
/-- one row more -/
theorem EsOwn.app (h : EsOwn w base a cap S) {s : ER} (hs : OwnP w base TE s.1 s.2.2.length s.2.1 s.2.2) (hne : ∀ j, eob s = some j → OB a S.length cap ≠ some j) {wA w3 : World} (hA : Below w.heap.size w wA) {a' : Option Addr} {cap' : Nat}
    (ho : OwnR w3 base TEs 1 a' (S.length + 1) cap' (S.map ecell ++ [ecell s])) (hg : wA.grownBy w3 (OB a S.length cap)) (hat : OB a' (S.length + 1) cap' = OB a S.length cap ∨ OB a' (S.length + 1) cap' = some wA.heap.size) : EsOwn w3 base a' cap' (S ++ [s]) := by
  have hk : Keeps w w3 (fun j => OB a S.length cap = some j) := (Keeps.of_below (S := fun j => OB a S.length cap = some j) hA).trans (Keeps.of_grown (S := fun j => OB a S.length cap = some j) hg (fun j e => e)) (fun _ _ h => h)
  have hl : (S ++ [s]).length = S.length + 1 := by simp
  have hz := hA.size
  refine ⟨?_, fun t ht => ?_, fun t ht j hj => ?_⟩
  · rw [hl, List.map_append]
    exact ho
  · rcases List.mem_append.1 ht with h1 | h1
    · exact OwnR.keeps (h.rows t h1) hk (fun j hj => h.ne t h1 j hj)
    · simp only [List.mem_singleton] at h1
      subst h1
      exact OwnR.keeps hs hk hne
  · rw [hl]
    rcases List.mem_append.1 ht with h1 | h1
    · rcases hat with h2 | h2
      · rw [h2]; exact h.ne t h1 j hj
      · rw [h2]
        have := (OwnR.lt (h.rows t h1) hj).2
        simp only [ne_eq, Option.some.injEq]
        omega
    · simp only [List.mem_singleton] at h1
      subst h1
      rcases hat with h2 | h2
      · rw [h2]; exact hne j hj
      · rw [h2]
        have := (OwnR.lt hs hj).2
        simp only [ne_eq, Option.some.injEq]
        omega
theorem EsOwn.edges (h : EsOwn w base a cap S) : EdgesAt w a (rowsOf S) := by
  intro h0
  rw [rowsOf_len] at h0
  obtain ⟨g, rfl, _, _⟩ := OwnR.addr h.own h0
  refine ⟨g, 0, rfl, fun i hi => ?_⟩
  rw [rowsOf_len] at hi
  have e : (rowsOf S)[i]'(by rw [rowsOf_len]; exact hi) = S[i].2.2 := by simp [rowsOf]
  have hr := h.rows _ (List.getElem_mem hi)
  refine ⟨S[i].1, S[i].2.1, ?_, ?_, ?_⟩
  · rw [e, Nat.zero_add, OwnR.cell h.own i (by omega), List.getElem?_map, List.getElem?_eq_getElem hi]
    rfl
  · rw [e]
    exact (OwnR.caps hr).1
  · rw [e]
    exact PairsAt.of_own hr
end

/-! the bits of nodes -/
def mixB (n : Nat) (sets : List (List Bool)) (k j : Nat) : List Nat := (List.range n).map fun i => if i < j then bitsN sets i (k + 1) else bitsN sets i k
theorem mixB_len (n : Nat) (sets : List (List Bool)) (k j : Nat) : (mixB n sets k j).length = n := by simp [mixB]
theorem mixB_zero (n : Nat) (sets : List (List Bool)) : mixB n sets 0 0 = List.replicate n 0 := by
  apply List.ext_getElem
  · simp [mixB]
  · intro i h1 h2
    simp [mixB, bitsN]
theorem mixB_next (n : Nat) (sets : List (List Bool)) (k : Nat) : mixB n sets k n = mixB n sets (k + 1) 0 := by
  apply List.ext_getElem
  · simp [mixB]
  · intro i h1 h2
    simp only [mixB_len] at h1
    simp [mixB, h1]
theorem mixB_end (n : Nat) (sets : List (List Bool)) : mixB n sets sets.length 0 = inbits n sets := by
  apply List.ext_getElem
  · simp [mixB, inbits]
  · intro i h1 h2
    simp [mixB, inbits]
theorem mixB_at (n : Nat) (sets : List (List Bool)) (k j : Nat) (hj : j < n) : (mixB n sets k j).getD j 0 = bitsN sets j k := by
  simp [mixB, List.getD, hj]
theorem mixB_no {n : Nat} {sets : List (List Bool)} {k j : Nat} (h : (sets.getD k []).getD j false = false) : mixB n sets k (j + 1) = mixB n sets k j := by
  apply List.ext_getElem
  · simp [mixB]
  · intro i h1 h2
    simp only [mixB, List.getElem_map, List.getElem_range]
    by_cases hi : i = j
    · subst hi
      rw [if_pos (by omega), if_neg (by omega), bitsN, h]
      rfl
    · by_cases hl : i < j
      · rw [if_pos (by omega), if_pos hl]
      · rw [if_neg (by omega), if_neg hl]
theorem mixB_yes {n : Nat} {sets : List (List Bool)} {k j : Nat} (h : (sets.getD k []).getD j false = true) : mixB n sets k (j + 1) = (mixB n sets k j).set j (bitsN sets j k ||| 2 ^ k) := by
  apply List.ext_getElem
  · simp [mixB]
  · intro i h1 h2
    rw [List.getElem_set]
    simp only [mixB, List.getElem_map, List.getElem_range]
    by_cases hi : j = i
    · subst hi
      rw [if_pos (by omega), if_pos rfl, bitsN, h]
      rfl
    · rw [if_neg hi]
      by_cases hl : i < j
      · rw [if_pos (by omega), if_pos hl]
      · rw [if_neg (by omega), if_neg hl]
def u64c (l : List Nat) : List Value := l.map fun n : Nat => .int .u64 n
theorem u64c_len (l : List Nat) : (u64c l).length = l.length := by simp [u64c]
theorem u64c_set (l : List Nat) (j x : Nat) : (u64c l).set j (.int .u64 x) = u64c (l.set j x) := by simp [u64c, List.map_set]
theorem u64c_at (l : List Nat) (j : Nat) (hj : j < l.length) : (u64c l)[j]? = some (.int .u64 (l.getD j 0 : Nat)) := by simp [u64c, List.getD, hj]
theorem nums_row {w : World} {B T : Nat} {l : List Nat} (h : RowAt w B T (u64c l)) : NumsAt .u64 w (some ⟨B, 0, none⟩) (natI l) := by
  intro _
  refine ⟨B, 0, rfl, fun i hi => ?_⟩
  rw [natI_len] at hi
  rw [Nat.zero_add, h.cell, u64c_at l i hi, natI_at]
/-- whether all of the first sets fit -/
def fitB (n : Nat) (sets : List (List Bool)) (k : Nat) : Bool := (sets.take k).all fun s => decide (s.length = n)
end Go.Proofs.Ytmlbjfaofppikaa
