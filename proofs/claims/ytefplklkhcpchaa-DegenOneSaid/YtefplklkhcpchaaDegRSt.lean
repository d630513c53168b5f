/- The state of the document's making of an automaton of one set. No conditions. -/
import Derived.Test.YtefplklkhcpchaaDegRef2
import Derived.Test.YtefplklkhcpchaaDegSt
namespace Go.Proofs.Ytefplklkhcpchaa
open Go.RowKit

/-- the document's state: the pairs, the box of what is made, its first numbers, its nodes; Z is a block that nothing of these is -/
structure RSt (w : World) (B X Z : Nat) (pa : Option Addr) (pc : Nat) (l : List PR) (a0 : Option Addr) (c0 : Nat) (ini : List Int) (ao : Option Addr) (co : Nat) (out : List AN) (cells : List Value) : Prop where
  pr : OwnP w B TQ pa l.length pc l
  box : RowAt w X TA [.int .i64 1, .slice a0 ini.length c0, .slice ao out.length co]
  hX : B ≤ X
  hXZ : X ≠ Z
  prC : ∀ j, OBlk pa l.length pc = some j → j ≠ X ∧ j ≠ Z
  fst : OwnN .i64 w B 3 a0 ini.length c0 ini
  iniC : ∀ j, OBlk a0 ini.length c0 = some j → (j ≠ X ∧ j ≠ Z) ∧ OBlk pa l.length pc ≠ some j ∧ OBlk ao out.length co ≠ some j
  own : OwnR w B TN 4 ao out.length co cells
  ownC : ∀ j, OBlk ao out.length co = some j → (j ≠ X ∧ j ≠ Z) ∧ OBlk pa l.length pc ≠ some j
  cs : CellsOf w (fun j => (j ≠ X ∧ j ≠ Z) ∧ OBlk pa l.length pc ≠ some j ∧ OBlk ao out.length co ≠ some j ∧ j < w.heap.size) out cells
  hZ : Z < w.heap.size
section
variable {w w' : World} {B X Z : Nat} {pa : Option Addr} {pc : Nat} {l : List PR} {a0 : Option Addr} {c0 : Nat} {ini : List Int} {ao : Option Addr} {co : Nat} {out : List AN} {cells : List Value}
theorem RSt.below (h : RSt w B X Z pa pc l a0 c0 ini ao co out cells) (hb : Below w.heap.size w w') : RSt w' B X Z pa pc l a0 c0 ini ao co out cells := by
  have hk : Keeps w w' (fun _ => False) := Keeps.of_below hb
  refine ⟨OwnR.keeps h.pr hk (fun _ _ h => h), h.box.below hb, h.hX, h.hXZ, h.prC, h.fst.keeps hk (fun _ _ h => h), h.iniC, h.own.keeps hk (fun _ _ h => h), h.ownC, h.cs.keep (fun j hj => hb.block j hj.2.2.2) (fun j hj => ⟨hj.1, hj.2.1, hj.2.2.1, by have := hb.size; omega⟩), by have := hb.size; have := h.hZ; omega⟩
/-- a pair is put behind -/
theorem RSt.pair (h : RSt w B X Z pa pc l a0 c0 ini ao co out cells) {p : PR} {wA w3 : World} (hA : Below w.heap.size w wA) {pa' : Option Addr} {pc' : Nat} (ho : OwnR w3 B TQ 2 pa' (l.length + 1) pc' (pcells l ++ [.int .i64 p.1, .int .i64 p.2])) (hg : wA.grownBy w3 (OBlk pa l.length pc))
    (hat : OBlk pa' (l.length + 1) pc' = OBlk pa l.length pc ∨ ∃ z, w.heap.size ≤ z ∧ OBlk pa' (l.length + 1) pc' = some z) :
    RSt w3 B X Z pa' pc' (l ++ [p]) a0 c0 ini ao co out cells := by
  have e : (l ++ [p]).length = l.length + 1 := by simp
  have hk : Keeps w w3 (fun j => OBlk pa l.length pc = some j) := (Keeps.of_below (S := fun j => OBlk pa l.length pc = some j) hA).trans (Keeps.of_grown (S := fun j => OBlk pa l.length pc = some j) hg (fun j e => e)) (fun _ _ h => h)
  have hz := hk.size
  have hn : ∀ j, OBlk pa' (l.length + 1) pc' = some j → OBlk pa l.length pc = some j ∨ w.heap.size ≤ j := by
    intro j hj
    rcases hat with h1 | ⟨z, h1, h2⟩
    · exact .inl (by rw [← h1]; exact hj)
    · rw [h2] at hj
      cases hj
      exact .inr h1
  have hXl := h.box.lt
  have hZl := h.hZ
  refine ⟨?_, h.box.keeps hk (fun hh => (h.prC X hh).1 rfl), h.hX, h.hXZ, ?_, h.fst.keeps hk (fun j hj hh => (h.iniC j hj).2.1 hh), ?_, h.own.keeps hk (fun j hj hh => (h.ownC j hj).2 hh), ?_, h.cs.keep (fun j hj => hk.block j hj.2.2.2 hj.2.1) ?_, by omega⟩
  · show OwnR _ _ _ _ _ _ _ _
    rw [e, pcells_snoc]
    exact ho
  · rw [e]
    intro j hj
    rcases hn j hj with h1 | h1
    · exact h.prC j h1
    · exact ⟨by omega, by omega⟩
  · rw [e]
    intro j hj
    obtain ⟨h1, h2, h3⟩ := h.iniC j hj
    refine ⟨h1, fun hh => ?_, h3⟩
    rcases hn j hh with h4 | h4
    · exact h2 h4
    · have := (h.fst.lt2 hj).2; omega
  · rw [e]
    intro j hj
    obtain ⟨h1, h2⟩ := h.ownC j hj
    refine ⟨h1, fun hh => ?_⟩
    rcases hn j hh with h4 | h4
    · exact h2 h4
    · have := (OwnR.lt h.own hj).2; omega
  · rw [e]
    intro j hj
    obtain ⟨h1, h2, h3, h5⟩ := hj
    refine ⟨h1, fun hh => ?_, h3, by omega⟩
    rcases hn j hh with h4 | h4
    · exact h2 h4
    · omega
/-- a first number is put -/
theorem RSt.first (h : RSt w B X Z pa pc l a0 c0 ini ao co [] cells) {ini' : List Int} {a0' : Option Addr} {c0' : Nat} {w3 : World} (ho : OwnN .i64 w3 B 3 a0' ini'.length c0' ini') (hk : Keeps w w3 (fun j => OBlk a0 ini.length c0 = some j))
    (hn : ∀ j, OBlk a0' ini'.length c0' = some j → OBlk a0 ini.length c0 = some j ∨ w.heap.size ≤ j) :
    RSt (w3.setCell ⟨X, 1, none⟩ (.slice a0' ini'.length c0')) B X Z pa pc l a0' c0' ini' ao co [] cells := by
  have hks : Keeps w3 (w3.setCell ⟨X, 1, none⟩ (.slice a0' ini'.length c0')) (fun j => j = X) := Keeps.set w3 X 1 _ rfl
  have hz := hk.size
  have hz2 := hks.size
  have hXl := h.box.lt
  have hZl := h.hZ
  have nX : OBlk a0 ini.length c0 ≠ some X := fun e => (h.iniC X e).1.1 rfl
  have hnX : ∀ j, OBlk a0' ini'.length c0' = some j → j ≠ X := by
    intro j hj e
    rcases hn j hj with h1 | h1
    · exact (h.iniC j h1).1.1 e
    · omega
  have hprl : ∀ j, OBlk pa l.length pc = some j → j < w.heap.size := fun j hj => (OwnR.lt h.pr hj).2
  have hownl : ∀ j, OBlk ao ([] : List AN).length co = some j → j < w.heap.size := fun j hj => (OwnR.lt h.own hj).2
  refine ⟨OwnR.keeps (OwnR.keeps h.pr hk (fun j hj hh => (h.iniC j hh).2.1 hj)) hks (fun j hj e => (h.prC j hj).1 e), (h.box.keeps hk nX).set 1 _, h.hX, h.hXZ, h.prC, ho.keeps hks hnX, ?_, OwnR.keeps (OwnR.keeps h.own hk (fun j hj hh => (h.iniC j hh).2.2 hj)) hks (fun j hj e => (h.ownC j hj).1.1 e), h.ownC, ?_, by omega⟩
  · intro j hj
    rcases hn j hj with h1 | h1
    · exact h.iniC j h1
    · exact ⟨⟨by omega, by omega⟩, fun hh => by have := hprl j hh; omega, fun hh => by have := hownl j hh; omega⟩
  · exact h.cs
end
end Go.Proofs.Ytefplklkhcpchaa
