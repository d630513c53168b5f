/- Nodes of an automaton that a call puts one behind the other, each with a list of its own. Conditions: the bound on an append. -/
import Derived.Test.YtmlbjfaofppikaaPrRows
namespace Go.Proofs.Ytmlbjfaofppikaa
open Go.RowKit

abbrev TN : Nat := 75
theorem infoN : (Try.prog.info? TN).map (fun i => (i.zero, i.size, i.bytes)) = some (some (.agg #[.int .u64 0, .int .u64 0, .int .u64 0, .slice none 0 0]), 4, 48) := by kernel_rfl
abbrev TyI : Nat := 3
/-- a node, and where its list lies -/
abbrev NR := Option Addr × Nat × AN
abbrev nob (s : NR) : Option Nat := OB s.1 s.2.2.to.length s.2.1
abbrev ncell (s : NR) : List Value := [.int .u64 s.2.2.need, .int .u64 s.2.2.ban, .int .u64 s.2.2.inn, .slice s.1 s.2.2.to.length s.2.1]
def nodesOf (S : List NR) : List AN := S.map fun s => s.2.2
def ncells (S : List NR) : List Value := S.flatMap ncell
theorem nodesOf_snoc (S : List NR) (s : NR) : nodesOf (S ++ [s]) = nodesOf S ++ [s.2.2] := by simp [nodesOf]
theorem nodesOf_len (S : List NR) : (nodesOf S).length = S.length := by simp [nodesOf]
theorem ncells_snoc (S : List NR) (s : NR) : ncells (S ++ [s]) = ncells S ++ ncell s := by simp [ncells]
theorem ncells_at : ∀ (S : List NR) (i : Nat) (hi : i < S.length), (ncells S)[i * 4]? = some (.int .u64 S[i].2.2.need) ∧ (ncells S)[i * 4 + 1]? = some (.int .u64 S[i].2.2.ban) ∧ (ncells S)[i * 4 + 2]? = some (.int .u64 S[i].2.2.inn) ∧ (ncells S)[i * 4 + 3]? = some (.slice S[i].1 S[i].2.2.to.length S[i].2.1)
  | s :: S, 0, _ => by simp [ncells]
  | s :: S, i + 1, hi => by
    have := ncells_at S i (by simpa using hi)
    simp only [ncells, List.flatMap_cons, List.getElem_cons_succ] at this ⊢
    rw [show (i + 1) * 4 = 4 + i * 4 by omega, show 4 + i * 4 + 1 = 4 + (i * 4 + 1) by omega, show 4 + i * 4 + 2 = 4 + (i * 4 + 2) by omega, show 4 + i * 4 + 3 = 4 + (i * 4 + 3) by omega]
    rw [List.getElem?_append_right (by simp), List.getElem?_append_right (by simp only [List.length_cons, List.length_nil]; omega), List.getElem?_append_right (by simp only [List.length_cons, List.length_nil]; omega), List.getElem?_append_right (by simp only [List.length_cons, List.length_nil]; omega)]
    simpa using this
structure NsOwn (w : World) (base : Nat) (a : Option Addr) (cap : Nat) (S : List NR) : Prop where
  own : OwnR w base TN 4 a S.length cap (ncells S)
  rows : ∀ s ∈ S, OwnN .i64 w base TyI s.1 s.2.2.to.length s.2.1 s.2.2.to
  ne : ∀ s ∈ S, ∀ j, nob s = some j → OB a S.length cap ≠ some j
def NsBlk (a : Option Addr) (cap : Nat) (S : List NR) (j : Nat) : Prop := OB a S.length cap = some j ∨ ∃ s ∈ S, nob s = some j
section
variable {w w' : World} {base : Nat} {a : Option Addr} {cap : Nat} {S : List NR}
theorem NsOwn.nil (w : World) (base : Nat) : NsOwn w base none 0 [] := ⟨OwnR.nil _ _ _ _, by simp, by simp⟩
theorem NsOwn.blk (h : NsOwn w base a cap S) {j : Nat} (hj : NsBlk a cap S j) : base ≤ j ∧ j < w.heap.size := by
  rcases hj with hj | ⟨s, hs, hj⟩
  · exact OwnR.lt h.own hj
  · exact (h.rows s hs).lt2 hj
theorem NsOwn.keeps {T : Nat → Prop} (h : NsOwn w base a cap S) (hk : Keeps w w' T) (hn : ∀ j, NsBlk a cap S j → ¬ T j) : NsOwn w' base a cap S :=
  ⟨OwnR.keeps h.own hk (fun j hj => hn j (.inl hj)), fun s hs => (h.rows s hs).keeps hk (fun j hj => hn j (.inr ⟨s, hs, hj⟩)), h.ne⟩
theorem NsOwn.below (h : NsOwn w base a cap S) (hb : Below w.heap.size w w') : NsOwn w' base a cap S := h.keeps (T := fun _ => False) (Keeps.of_below hb) (fun _ _ h => h)
theorem NsOwn.app (h : NsOwn w base a cap S) {s : NR} (hs : OwnN .i64 w base TyI s.1 s.2.2.to.length s.2.1 s.2.2.to) (hne : ∀ j, nob s = some j → OB a S.length cap ≠ some j) {wA w3 : World} (hA : Below w.heap.size w wA) {a' : Option Addr} {cap' : Nat}
    (ho : OwnR w3 base TN 4 a' (S.length + 1) cap' (ncells S ++ ncell s)) (hg : wA.grownBy w3 (OB a S.length cap)) (hat : OB a' (S.length + 1) cap' = OB a S.length cap ∨ OB a' (S.length + 1) cap' = some wA.heap.size) : NsOwn w3 base a' cap' (S ++ [s]) := by
  have hk : Keeps w w3 (fun j => OB a S.length cap = some j) := (Keeps.of_below (S := fun j => OB a S.length cap = some j) hA).trans (Keeps.of_grown (S := fun j => OB a S.length cap = some j) hg (fun j e => e)) (fun _ _ h => h)
  have hl : (S ++ [s]).length = S.length + 1 := by simp
  have hz := hA.size
  refine ⟨?_, fun t ht => ?_, fun t ht j hj => ?_⟩
  · rw [hl, ncells_snoc]
    exact ho
  · rcases List.mem_append.1 ht with h1 | h1
    · exact (h.rows t h1).keeps hk (fun j hj => h.ne t h1 j hj)
    · simp only [List.mem_singleton] at h1
      subst h1
      exact hs.keeps hk hne
  · rw [hl]
    rcases List.mem_append.1 ht with h1 | h1
    · rcases hat with h2 | h2
      · rw [h2]; exact h.ne t h1 j hj
      · rw [h2]
        have := ((h.rows t h1).lt2 hj).2
        simp only [ne_eq, Option.some.injEq]
        omega
    · simp only [List.mem_singleton] at h1
      subst h1
      rcases hat with h2 | h2
      · rw [h2]; exact hne j hj
      · rw [h2]
        have := (hs.lt2 hj).2
        simp only [ne_eq, Option.some.injEq]
        omega
theorem NsOwn.nodes (h : NsOwn w base a cap S) : NodesAt w a (nodesOf S) := by
  intro h0
  rw [nodesOf_len] at h0
  obtain ⟨g, rfl, _, _⟩ := OwnR.addr h.own h0
  refine ⟨g, 0, rfl, fun i hi => ?_⟩
  rw [nodesOf_len] at hi
  have e : (nodesOf S)[i]'(by rw [nodesOf_len]; exact hi) = S[i].2.2 := by simp [nodesOf]
  obtain ⟨k0, k1, k2, k3⟩ := ncells_at S i hi
  rw [e, Nat.zero_add]
  exact ⟨(OwnR.cell h.own _ (by omega)).trans k0, (OwnR.cell h.own _ (by omega)).trans k1, (OwnR.cell h.own _ (by omega)).trans k2, S[i].1, S[i].2.1, (OwnR.cell h.own _ (by omega)).trans k3, NumsAt.of_owns (h.rows _ (List.getElem_mem hi))⟩
end
theorem OwnN.base {k : IntKind} {w : World} {b base e n cap : Nat} {a : Option Addr} {xs : List Int} (h : OwnN k w base e a n cap xs) (hb : b ≤ base) : OwnN k w b e a n cap xs := OwnR.base (sz := 1) (cells := xs.map (Value.int k)) h hb
end Go.Proofs.Ytmlbjfaofppikaa
