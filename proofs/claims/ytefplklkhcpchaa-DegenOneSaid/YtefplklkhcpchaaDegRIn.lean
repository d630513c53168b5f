/- The state of the document's making of one node. No conditions. -/
import Derived.Test.YtefplklkhcpchaaDegRSt
namespace Go.Proofs.Ytefplklkhcpchaa
open Go.RowKit

theorem find_any_num (l : List PR) (p : PR) : (if p ∈ (numP l p).1 then ((numP l p).1.idxOf p : Int) else -1) = ((numP l p).2 : Int) := by
  by_cases h : p ∈ l
  · have := (find_num h).1
    rw [(find_num h).2]
    exact this
  · rw [(find_new h).2]
    exact (find_new h).1
/-- the state inside of a round: what stood at its start lies below K, the node's copy at K, the node that is made at K + 1, its list above -/
structure RIn (w : World) (B X Z K : Nat) (pa : Option Addr) (pc : Nat) (l : List PR) (a0 : Option Addr) (c0 : Nat) (ini : List Int) (ao : Option Addr) (co : Nat) (out : List AN) (cells : List Value) (r10 : List Value) (xn xb xi : Nat) (ap : Option Addr) (cp : Nat) (put : List Int) : Prop where
  pr : OwnP w B TQ pa l.length pc l
  prC : ∀ j, OBlk pa l.length pc = some j → (j ≠ X ∧ j ≠ Z) ∧ (j ≠ K ∧ j ≠ K + 1) ∧ OBlk ap put.length cp ≠ some j
  box : RowAt w X TA [.int .i64 1, .slice a0 ini.length c0, .slice ao out.length co]
  hX : B ≤ X
  hXZ : X ≠ Z
  hK : X < K ∧ Z < K
  fst : OwnN .i64 w B 3 a0 ini.length c0 ini
  fstC : ∀ j, OBlk a0 ini.length c0 = some j → (j ≠ X ∧ j ≠ Z) ∧ j < K ∧ OBlk pa l.length pc ≠ some j ∧ OBlk ao out.length co ≠ some j
  own : OwnR w B TN 4 ao out.length co cells
  ownC : ∀ j, OBlk ao out.length co = some j → (j ≠ X ∧ j ≠ Z) ∧ j < K ∧ OBlk pa l.length pc ≠ some j
  cs : CellsOf w (fun j => (j ≠ X ∧ j ≠ Z) ∧ OBlk pa l.length pc ≠ some j ∧ OBlk ao out.length co ≠ some j ∧ j < K) out cells
  n10 : RowAt w K TN r10
  n11 : RowAt w (K + 1) TN [.int .u64 xn, .int .u64 xb, .int .u64 xi, .slice ap put.length cp]
  to : OwnN .i64 w (K + 2) 3 ap put.length cp put
section
variable {w w' : World} {B X Z K : Nat} {pa : Option Addr} {pc : Nat} {l : List PR} {a0 : Option Addr} {c0 : Nat} {ini : List Int} {ao : Option Addr} {co : Nat} {out : List AN} {cells : List Value} {r10 : List Value} {xn xb xi : Nat} {ap : Option Addr} {cp : Nat} {put : List Int}
/-- at the start of a round -/
theorem RIn.start (h : RSt w B X Z pa pc l a0 c0 ini ao co out cells) (hb : Below w.heap.size w w') (h10 : RowAt w' w.heap.size TN r10) (h11 : RowAt w' (w.heap.size + 1) TN [.int .u64 xn, .int .u64 xb, .int .u64 xi, .slice none 0 0]) :
    RIn w' B X Z w.heap.size pa pc l a0 c0 ini ao co out cells r10 xn xb xi none 0 [] := by
  have h2 := h.below hb
  refine ⟨h2.pr, ?_, h2.box, h.hX, h.hXZ, ⟨h.box.lt, h.hZ⟩, h2.fst, ?_, h2.own, ?_, h.cs.keep (fun j hj => hb.block j hj.2.2.2) (fun j hj => hj), h10, h11, OwnN.nil _ _ _ _⟩
  · intro j hj
    have := (OwnR.lt h.pr hj).2
    exact ⟨h.prC j hj, ⟨by omega, by omega⟩, by simp [OBlk, Value.ownBlock]⟩
  · intro j hj
    obtain ⟨h3, h4, h5⟩ := h.iniC j hj
    exact ⟨h3, (h.fst.lt2 hj).2, h4, h5⟩
  · intro j hj
    obtain ⟨h3, h4⟩ := h.ownC j hj
    exact ⟨h3, (OwnR.lt h.own hj).2, h4⟩
theorem RIn.below (h : RIn w B X Z K pa pc l a0 c0 ini ao co out cells r10 xn xb xi ap cp put) (hb : Below w.heap.size w w') : RIn w' B X Z K pa pc l a0 c0 ini ao co out cells r10 xn xb xi ap cp put := by
  have hk : Keeps w w' (fun _ => False) := Keeps.of_below hb
  have h10 := h.n10.lt
  exact ⟨OwnR.keeps h.pr hk (fun _ _ h => h), h.prC, h.box.below hb, h.hX, h.hXZ, h.hK, h.fst.keeps hk (fun _ _ h => h), h.fstC, h.own.keeps hk (fun _ _ h => h), h.ownC, h.cs.keep (fun j hj => hb.block j (by have := hj.2.2.2; omega)) (fun j hj => hj), h.n10.below hb, h.n11.below hb, h.to.keeps hk (fun _ _ h => h)⟩
/-- a pair is put behind -/
theorem RIn.pair (h : RIn w B X Z K pa pc l a0 c0 ini ao co out cells r10 xn xb xi ap cp put) {p : PR} {wA w3 : World} (hA : Below w.heap.size w wA) {pa' : Option Addr} {pc' : Nat} (ho : OwnR w3 B TQ 2 pa' (l.length + 1) pc' (pcells l ++ [.int .i64 p.1, .int .i64 p.2])) (hg : wA.grownBy w3 (OBlk pa l.length pc))
    (hat : OBlk pa' (l.length + 1) pc' = OBlk pa l.length pc ∨ ∃ z, w.heap.size ≤ z ∧ OBlk pa' (l.length + 1) pc' = some z) :
    RIn w3 B X Z K pa' pc' (l ++ [p]) a0 c0 ini ao co out cells r10 xn xb xi ap cp put := by
  have e : (l ++ [p]).length = l.length + 1 := by simp
  have hk : Keeps w w3 (fun j => OBlk pa l.length pc = some j) := (Keeps.of_below (S := fun j => OBlk pa l.length pc = some j) hA).trans (Keeps.of_grown (S := fun j => OBlk pa l.length pc = some j) hg (fun j e => e)) (fun _ _ h => h)
  have hz := hk.size
  have hn : ∀ j, OBlk pa' (l.length + 1) pc' = some j → OBlk pa l.length pc = some j ∨ w.heap.size ≤ j := by
    intro j hj
    rcases hat with h1 | ⟨z, h1, h2⟩
    · exact .inl (by rw [← h1]; exact hj)
    · rw [h2] at hj
      cases hj
      exact .inr h1
  have hKl := h.n11.lt
  obtain ⟨hXK, hZK⟩ := h.hK
  have hpl : ∀ j, OBlk ap put.length cp = some j → K + 2 ≤ j ∧ j < w.heap.size := fun j hj => h.to.lt2 hj
  have nK : OBlk pa l.length pc ≠ some K := fun hh => (h.prC _ hh).2.1.1 rfl
  have nK1 : OBlk pa l.length pc ≠ some (K + 1) := fun hh => (h.prC _ hh).2.1.2 rfl
  refine ⟨?_, ?_, h.box.keeps hk (fun hh => (h.prC X hh).1.1 rfl), h.hX, h.hXZ, h.hK, h.fst.keeps hk (fun j hj hh => (h.fstC j hj).2.2.1 hh), ?_, h.own.keeps hk (fun j hj hh => (h.ownC j hj).2.2 hh), ?_, h.cs.keep (fun j hj => hk.block j (by have := hj.2.2.2; omega) hj.2.1) ?_, h.n10.keeps hk nK, h.n11.keeps hk nK1, h.to.keeps hk (fun j hj hh => (h.prC j hh).2.2 hj)⟩
  · show OwnR _ _ _ _ _ _ _ _
    rw [e, pcells_snoc]
    exact ho
  · rw [e]
    intro j hj
    rcases hn j hj with h1 | h1
    · exact h.prC j h1
    · exact ⟨⟨by omega, by omega⟩, ⟨by omega, by omega⟩, fun hh => by have := hpl j hh; omega⟩
  · rw [e]
    intro j hj
    obtain ⟨h1, h2, h3, h4⟩ := h.fstC j hj
    refine ⟨h1, h2, fun hh => ?_, h4⟩
    rcases hn j hh with h5 | h5
    · exact h3 h5
    · omega
  · rw [e]
    intro j hj
    obtain ⟨h1, h2, h3⟩ := h.ownC j hj
    refine ⟨h1, h2, fun hh => ?_⟩
    rcases hn j hh with h5 | h5
    · exact h3 h5
    · omega
  · rw [e]
    intro j hj
    obtain ⟨h1, h2, h3, h4⟩ := hj
    refine ⟨h1, fun hh => ?_, h3, h4⟩
    rcases hn j hh with h5 | h5
    · exact h2 h5
    · omega
/-- a number is put into the node's list -/
theorem RIn.put' (h : RIn w B X Z K pa pc l a0 c0 ini ao co out cells r10 xn xb xi ap cp put) {put2 : List Int} {ap2 : Option Addr} {cp2 : Nat} {w3 : World} (ho : OwnN .i64 w3 (K + 2) 3 ap2 put2.length cp2 put2) (hk : Keeps w w3 (fun j => OBlk ap put.length cp = some j))
    (hn : ∀ j, OBlk ap2 put2.length cp2 = some j → OBlk ap put.length cp = some j ∨ w.heap.size ≤ j) :
    RIn (w3.setCell ⟨K + 1, 3, none⟩ (.slice ap2 put2.length cp2)) B X Z K pa pc l a0 c0 ini ao co out cells r10 xn xb xi ap2 cp2 put2 := by
  have hks : Keeps w3 (w3.setCell ⟨K + 1, 3, none⟩ (.slice ap2 put2.length cp2)) (fun j => j = K + 1) := Keeps.set w3 (K + 1) 3 _ rfl
  have hz := hk.size
  have hKl := h.n11.lt
  obtain ⟨hXK, hZK⟩ := h.hK
  have hpl : ∀ j, OBlk ap put.length cp = some j → K + 2 ≤ j := fun j hj => (h.to.lt2 hj).1
  have hpl2 : ∀ j, OBlk ap2 put2.length cp2 = some j → K + 2 ≤ j := fun j hj => (ho.lt2 hj).1
  have lowK : ∀ j, j < K → ¬ OBlk ap put.length cp = some j := fun j hj hh => by have := hpl j hh; omega
  refine ⟨OwnR.keeps (OwnR.keeps h.pr hk (fun j hj hh => (h.prC j hj).2.2 hh)) hks (fun j hj e => (h.prC j hj).2.1.2 e), ?_, (h.box.keeps hk (lowK _ hXK)).kset (by omega) 3 _, h.hX, h.hXZ, h.hK, OwnR.keeps (OwnR.keeps h.fst hk (fun j hj => lowK _ (h.fstC j hj).2.1)) hks (fun j hj e => by have := (h.fstC j hj).2.1; omega), h.fstC, OwnR.keeps (OwnR.keeps h.own hk (fun j hj => lowK _ (h.ownC j hj).2.1)) hks (fun j hj e => by have := (h.ownC j hj).2.1; omega), h.ownC, ?_, (h.n10.keeps hk (fun hh => by have := hpl _ hh; omega)).kset (by omega) 3 _, (h.n11.keeps hk (fun hh => by have := hpl _ hh; omega)).set 3 _, ho.keeps hks (fun j hj e => by have := hpl2 j hj; omega)⟩
  · intro j hj
    obtain ⟨h1, h2, h3⟩ := h.prC j hj
    refine ⟨h1, h2, fun hh => ?_⟩
    rcases hn j hh with h4 | h4
    · exact h3 h4
    · have := (OwnR.lt h.pr hj).2; omega
  · refine h.cs.keep (fun j hj => ?_) (fun j hj => hj)
    have hj4 := hj.2.2.2
    rw [Below.heap_setCell _ _ _ _ (by show j ≠ K + 1; omega), hk.block j (by omega) (lowK _ hj4)]
/-- the node is put behind the others -/
theorem RIn.done (h : RIn w B X Z K pa pc l a0 c0 ini ao co out cells r10 xn xb xi ap cp put) {wA w3 : World} (hA : Below w.heap.size w wA) {ao' : Option Addr} {co' : Nat} (ho : OwnR w3 B TN 4 ao' (out.length + 1) co' (cells ++ [.int .u64 xn, .int .u64 xb, .int .u64 xi, .slice ap put.length cp])) (hg : wA.grownBy w3 (OBlk ao out.length co))
    (hat : OBlk ao' (out.length + 1) co' = OBlk ao out.length co ∨ ∃ z, w.heap.size ≤ z ∧ OBlk ao' (out.length + 1) co' = some z) :
    RSt (w3.setCell ⟨X, 2, none⟩ (.slice ao' (out.length + 1) co')) B X Z pa pc l a0 c0 ini ao' co' (out ++ [⟨xn, xb, xi, put⟩]) (cells ++ [.int .u64 xn, .int .u64 xb, .int .u64 xi, .slice ap put.length cp]) := by
  have e : (out ++ [(⟨xn, xb, xi, put⟩ : AN)]).length = out.length + 1 := by simp
  have hk : Keeps w w3 (fun j => OBlk ao out.length co = some j) := (Keeps.of_below (S := fun j => OBlk ao out.length co = some j) hA).trans (Keeps.of_grown (S := fun j => OBlk ao out.length co = some j) hg (fun j e => e)) (fun _ _ h => h)
  have hks : Keeps w3 (w3.setCell ⟨X, 2, none⟩ (.slice ao' (out.length + 1) co')) (fun j => j = X) := Keeps.set w3 X 2 _ rfl
  have hz := hk.size
  have hz2 := hks.size
  have hKl := h.n11.lt
  obtain ⟨hXK, hZK⟩ := h.hK
  have hn : ∀ j, OBlk ao' (out.length + 1) co' = some j → OBlk ao out.length co = some j ∨ w.heap.size ≤ j := by
    intro j hj
    rcases hat with h1 | ⟨z, h1, h2⟩
    · exact .inl (by rw [← h1]; exact hj)
    · rw [h2] at hj
      cases hj
      exact .inr h1
  have hpl : ∀ j, OBlk ap put.length cp = some j → K + 2 ≤ j ∧ j < w.heap.size := fun j hj => h.to.lt2 hj
  have nX : OBlk ao out.length co ≠ some X := fun hh => (h.ownC _ hh).1.1 rfl
  have keep : ∀ j, j < w.heap.size → j ≠ X → OBlk ao out.length co ≠ some j → (w3.setCell ⟨X, 2, none⟩ (.slice ao' (out.length + 1) co')).heap[j]? = w.heap[j]? := by
    intro j h1 h2 h3
    rw [hks.block j (by omega) h2, hk.block j h1 h3]
  refine ⟨OwnR.keeps (OwnR.keeps h.pr hk (fun j hj hh => (h.ownC j hh).2.2 hj)) hks (fun j hj e => (h.prC j hj).1.1 e), ?_, h.hX, h.hXZ, fun j hj => (h.prC j hj).1, OwnR.keeps (OwnR.keeps h.fst hk (fun j hj hh => (h.fstC j hj).2.2.2 hh)) hks (fun j hj e => (h.fstC j hj).1.1 e), ?_, ?_, ?_, ?_, by omega⟩
  · rw [e]
    exact (h.box.keeps hk nX).set 2 _
  · rw [e]
    intro j hj
    obtain ⟨h1, h2, h3, h4⟩ := h.fstC j hj
    refine ⟨h1, h3, fun hh => ?_⟩
    rcases hn j hh with h5 | h5
    · exact h4 h5
    · omega
  · rw [e]
    refine OwnR.keeps ho hks (fun j hj ej => ?_)
    subst ej
    rcases hn _ hj with h5 | h5
    · exact nX h5
    · omega
  · rw [e]
    intro j hj
    rcases hn j hj with h5 | h5
    · exact ⟨(h.ownC j h5).1, (h.ownC j h5).2.2⟩
    · exact ⟨⟨by omega, by omega⟩, fun hh => by have := (OwnR.lt h.pr hh).2; omega⟩
  · rw [e]
    refine CellsOf.snoc ?_ ?_ (h.cs.keep (fun j hj => keep j (by have := hj.2.2.2; omega) hj.1.1 hj.2.2.1) (fun j hj => ?_))
    · refine (NumsAt.of_owns h.to).keep (fun ad had _ => ?_)
      have h1 := hpl ad.block (by rw [had]; rfl)
      exact keep _ h1.2 (by omega) (fun hh => by have := (h.ownC _ hh).2.1; omega)
    · intro ad had
      have hb := (show OBlk ap put.length cp = some ad.block by rw [had]; rfl)
      have h1 := hpl ad.block hb
      refine ⟨⟨by omega, by omega⟩, fun hh => (h.prC _ hh).2.2 hb, fun hh => ?_, by omega⟩
      rcases hn _ hh with h5 | h5
      · have := (h.ownC _ h5).2.1; omega
      · omega
    · obtain ⟨h1, h2, h3, h4⟩ := hj
      refine ⟨h1, h2, fun hh => ?_, by omega⟩
      rcases hn _ hh with h5 | h5
      · exact h3 h5
      · omega
end
end Go.Proofs.Ytefplklkhcpchaa
