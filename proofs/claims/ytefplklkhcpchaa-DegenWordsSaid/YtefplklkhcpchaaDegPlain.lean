/- What an automaton of one set is made of: plain. No conditions. -/
import Derived.Test.YtefplklkhcpchaaAutoChk
import Derived.Test.YtefplklkhcpchaaMem
namespace Go.Proofs.Ytefplklkhcpchaa

/-- a pair's number: what it has, or the next one -/
def numP (l : List PR) (p : PR) : List PR × Nat := if p ∈ l then (l, l.idxOf p) else (l ++ [p], l.length)
def putP (o : List Int) (n : Nat) : List Int := if (n : Int) ∈ o then o else o ++ [(n : Int)]
def rowStep (t : Int) (s : List PR × List Int) (q : Int) : List PR × List Int := ((numP s.1 (q, t)).1, putP s.2 (numP s.1 (q, t)).2)
def rowP (t : Int) (nodes : List Int) (s : List PR × List Int) : List PR × List Int := nodes.foldl (rowStep t) s
theorem rowP_snoc (t : Int) (nodes : List Int) (k : Nat) (hk : k < nodes.length) (s : List PR × List Int) : rowP t (nodes.take (k + 1)) s = rowStep t (rowP t (nodes.take k) s) nodes[k] := by
  unfold rowP
  rw [List.take_add_one, List.getElem?_eq_getElem hk, Option.toList_some, List.foldl_append]
  rfl
/-- is a node of a set -/
def bitN (n : Nat) (t : Int) : Bool := n / 2 ^ t.toNat % 2 == 1
def nodeAt (A : AU) (q : Int) : AN := A.nodes.getD q.toNat ⟨0, 0, 0, []⟩
def turnP (A : AU) (p : PR) : Int := if 0 < A.sets ∧ bitN (nodeAt A p.1).inn p.2 = true then (p.2 + 1) % A.sets else p.2
def inP (A : AU) (p : PR) : Nat := if A.sets = 0 ∨ (p.2 = 0 ∧ bitN (nodeAt A p.1).inn 0 = true) then 1 else 0
def nodeP (A : AU) (l : List PR) (p : PR) : List PR × AN :=
  ((rowP (turnP A p) (nodeAt A p.1).to (l, [])).1, ⟨(nodeAt A p.1).need, (nodeAt A p.1).ban, inP A p, (rowP (turnP A p) (nodeAt A p.1).to (l, [])).2⟩)
/-- from pair i on: none where there are too many -/
def loopP (A : AU) : Nat → Nat → List PR → List AN → Option (List AN)
  | 0, _, _, out => some out
  | f + 1, i, l, out =>
    if 256 < l.length then none
    else if i < l.length then loopP A f (i + 1) (nodeP A l (l.getD i (0, 0))).1 (out ++ [(nodeP A l (l.getD i (0, 0))).2])
    else some out
/-- the automaton of one set, or why there is none -/
def oneP (A : AU) : Int × AU :=
  if chk A ≠ 0 then (chk A, ⟨0, [], []⟩)
  else match loopP A 258 0 (rowP 0 A.init ([], [])).1 [] with
    | none => (11, ⟨0, [], []⟩)
    | some ns => (0, ⟨1, (rowP 0 A.init ([], [])).2, ns⟩)

theorem numP_mem (l : List PR) (p : PR) : p ∈ (numP l p).1 := by
  unfold numP
  by_cases h : p ∈ l
  · rw [if_pos h]; exact h
  · rw [if_neg h]; simp
theorem numP_nodup {l : List PR} (h : l.Nodup) (p : PR) : (numP l p).1.Nodup := by
  unfold numP
  by_cases hp : p ∈ l
  · rw [if_pos hp]; exact h
  · rw [if_neg hp]
    rw [List.nodup_append]
    refine ⟨h, by simp, fun a ha b hb => ?_⟩
    simp at hb
    subst hb
    exact fun e => hp (e ▸ ha)
theorem numP_pre (l : List PR) (p : PR) : ∃ r, (numP l p).1 = l ++ r ∧ ∀ x ∈ r, x = p := by
  unfold numP
  by_cases hp : p ∈ l
  · rw [if_pos hp]; exact ⟨[], by simp, by simp⟩
  · rw [if_neg hp]; exact ⟨[p], rfl, by simp⟩
theorem numP_len (l : List PR) (p : PR) : l.length ≤ (numP l p).1.length ∧ (numP l p).1.length ≤ l.length + 1 ∧ (numP l p).2 < (numP l p).1.length := by
  unfold numP
  by_cases hp : p ∈ l
  · rw [if_pos hp]; exact ⟨Nat.le_refl _, Nat.le_succ _, List.idxOf_lt_length_iff.2 hp⟩
  · rw [if_neg hp]; simp
end Go.Proofs.Ytefplklkhcpchaa
