/- The state of the making of an automaton. No conditions. -/
import Derived.Test.YtefplklkhcpchaaDegOne
namespace Go.Proofs.Ytefplklkhcpchaa
open Go.RowKit

abbrev TA : Nat := 25
/-- the cells of nodes, their lists in blocks of a kind -/
def CellsOf (w : World) (C : Nat → Prop) : List AN → List Value → Prop
  | [], cells => cells = []
  | x :: xs, cells => ∃ at_ c rest, cells = .int .u64 x.need :: .int .u64 x.ban :: .int .u64 x.inn :: .slice at_ x.to.length c :: rest ∧ NumsAt .i64 w at_ x.to ∧ (∀ ad : Addr, at_ = some ad → C ad.block) ∧ CellsOf w C xs rest
theorem CellsOf.keep {w w' : World} {C C' : Nat → Prop} (hk : ∀ j, C j → w'.heap[j]? = w.heap[j]?) (hC : ∀ j, C j → C' j) : ∀ {xs : List AN} {cells : List Value}, CellsOf w C xs cells → CellsOf w' C' xs cells
  | [], _, h => h
  | _ :: _, _, ⟨at_, c, rest, h1, h2, h3, h4⟩ => ⟨at_, c, rest, h1, h2.keep (fun ad had _ => hk _ (h3 ad had)), fun ad had => hC _ (h3 ad had), CellsOf.keep hk hC h4⟩
theorem CellsOf.snoc {w : World} {C : Nat → Prop} {y : AN} {at_ : Option Addr} {c : Nat} (h1 : NumsAt .i64 w at_ y.to) (h2 : ∀ ad : Addr, at_ = some ad → C ad.block) : ∀ {xs : List AN} {cells : List Value}, CellsOf w C xs cells → CellsOf w C (xs ++ [y]) (cells ++ [.int .u64 y.need, .int .u64 y.ban, .int .u64 y.inn, .slice at_ y.to.length c])
  | [], cells, h => by
    have h' : cells = [] := h
    subst h'
    exact ⟨at_, c, [], rfl, h1, h2, rfl⟩
  | x :: xs, cells, ⟨a', c', rest, h3, h4, h5, h6⟩ => by
    subst h3
    exact ⟨a', c', _, rfl, h4, h5, CellsOf.snoc h1 h2 h6⟩
theorem CellsOf.at {w : World} {C : Nat → Prop} : ∀ {xs : List AN} {cells : List Value}, CellsOf w C xs cells → ∀ i (hi : i < xs.length), ∃ at_ c, cells[i * 4]? = some (.int .u64 xs[i].need) ∧ cells[i * 4 + 1]? = some (.int .u64 xs[i].ban) ∧ cells[i * 4 + 2]? = some (.int .u64 xs[i].inn) ∧ cells[i * 4 + 3]? = some (.slice at_ xs[i].to.length c) ∧ NumsAt .i64 w at_ xs[i].to
  | x :: xs, _, ⟨a', c', rest, rfl, h4, h5, h6⟩, 0, _ => ⟨a', c', rfl, rfl, rfl, rfl, h4⟩
  | x :: xs, _, ⟨a', c', rest, rfl, h4, h5, h6⟩, i + 1, hi => by
    obtain ⟨at_, c, k0, k1, k2, k3, k4⟩ := h6.at i (by simpa using hi)
    refine ⟨at_, c, ?_, ?_, ?_, ?_, by simpa using k4⟩
    · rw [show (i + 1) * 4 = i * 4 + 1 + 1 + 1 + 1 by omega]; simpa using k0
    · rw [show (i + 1) * 4 + 1 = i * 4 + 1 + 1 + 1 + 1 + 1 by omega]; simpa using k1
    · rw [show (i + 1) * 4 + 2 = i * 4 + 2 + 1 + 1 + 1 + 1 by omega]; simpa using k2
    · rw [show (i + 1) * 4 + 3 = i * 4 + 3 + 1 + 1 + 1 + 1 by omega]; simpa using k3
/-- such nodes lie in memory -/
theorem CellsOf.nodes {w : World} {C : Nat → Prop} {B e : Nat} {a : Option Addr} {cap : Nat} {xs : List AN} {cells : List Value} (h : CellsOf w C xs cells) (ho : OwnR w B e 4 a xs.length cap cells) : NodesAt w a xs := by
  intro h0
  obtain ⟨g, rfl, _, _⟩ := ho.addr h0
  refine ⟨g, 0, rfl, fun i hi => ?_⟩
  obtain ⟨at_, c, k0, k1, k2, k3, k4⟩ := h.at i hi
  have hz : 0 + i * 4 = i * 4 := by omega
  rw [hz]
  exact ⟨by rw [ho.cell _ (by omega)]; exact k0, by rw [ho.cell _ (by omega)]; exact k1, by rw [ho.cell _ (by omega)]; exact k2, at_, c, by rw [ho.cell _ (by omega)]; exact k3, k4⟩

/-- the state between two rounds -/
structure OneSt (w : World) (B M mb X Z : Nat) (pa : Option Addr) (pc : Nat) (s : Int) (ai : Option Addr) (ni ci : Nat) (an : Option Addr) (nn cn : Nat) (l : List PR) (a0 : Option Addr) (c0 : Nat) (ini : List Int) (ao : Option Addr) (co : Nat) (out : List AN) (cells : List Value) : Prop where
  maker : MK w B M mb pa pc s ai ni ci an nn cn l
  box : RowAt w X TA [.int .i64 1, .slice a0 ini.length c0, .slice ao out.length co]
  hX : B ≤ X
  hXc : ¬ Hot M mb (.slice pa l.length pc) X
  ini : NumsAt .i64 w a0 ini
  iniC : ∀ ad : Addr, a0 = some ad → ¬ Hot M mb (.slice pa l.length pc) ad.block ∧ (ad.block ≠ X ∧ ad.block ≠ Z) ∧ (Value.slice ao out.length co).ownBlock ≠ some ad.block ∧ ad.block < w.heap.size
  own : OwnR w B TN 4 ao out.length co cells
  ownC : ∀ j, (Value.slice ao out.length co).ownBlock = some j → ¬ Hot M mb (.slice pa l.length pc) j ∧ (j ≠ X ∧ j ≠ Z)
  cs : CellsOf w (fun j => ¬ Hot M mb (.slice pa l.length pc) j ∧ (j ≠ X ∧ j ≠ Z) ∧ (Value.slice ao out.length co).ownBlock ≠ some j ∧ j < w.heap.size) out cells
  hZ : Z < w.heap.size

/-- one more node -/
theorem OneSt.step {w w2 wA w3 : World} {B M mb X Z : Nat} {pa : Option Addr} {pc : Nat} {s : Int} {ai : Option Addr} {ni ci : Nat} {an : Option Addr} {nn cn : Nat} {l : List PR} {a0 : Option Addr} {c0 : Nat} {ini : List Int} {ao : Option Addr} {co : Nat} {out : List AN} {cells : List Value}
    (h : OneSt w B M mb X Z pa pc s ai ni ci an nn cn l a0 c0 ini ao co out cells) {l2 : List PR} {y : AN} {pa2 : Option Addr} {pc2 : Nat} {ay : Option Addr} {cy : Nat}
    (hoy : OwnN .i64 w2 B 3 ay y.to.length cy y.to) (hM2 : MK w2 B M mb pa2 pc2 s ai ni ci an nn cn l2) (hK2 : Keeps w w2 (Hot M mb (.slice pa l.length pc)))
    (hf2 : ∀ j, (Value.slice pa2 l2.length pc2).ownBlock = some j → (Value.slice pa l.length pc).ownBlock = some j ∨ w.heap.size ≤ j)
    (hc2 : ∀ j, (Value.slice ay y.to.length cy).ownBlock = some j → w.heap.size ≤ j ∧ ¬ Hot M mb (.slice pa2 l2.length pc2) j)
    (hA : Below w2.heap.size w2 wA) {ao' : Option Addr} {co' : Nat} (ho3 : OwnR w3 B TN 4 ao' (out.length + 1) co' (cells ++ [.int .u64 y.need, .int .u64 y.ban, .int .u64 y.inn, .slice ay y.to.length cy])) (hg3 : wA.grownBy w3 (Value.slice ao out.length co).ownBlock)
    (hat : (Value.slice ao' (out.length + 1) co').ownBlock = (Value.slice ao out.length co).ownBlock ∨ ∃ z, w2.heap.size ≤ z ∧ (Value.slice ao' (out.length + 1) co').ownBlock = some z) :
    OneSt (w3.setCell ⟨X, 2, none⟩ (.slice ao' (out.length + 1) co')) B M mb X Z pa2 pc2 s ai ni ci an nn cn l2 a0 c0 ini ao' co' (out ++ [y]) (cells ++ [.int .u64 y.need, .int .u64 y.ban, .int .u64 y.inn, .slice ay y.to.length cy]) := by
  have e : (out ++ [y]).length = out.length + 1 := by simp
  have hXl := h.box.lt
  -- what was cold stays cold
  have cold : ∀ j, j < w.heap.size → ¬ Hot M mb (.slice pa l.length pc) j → ¬ Hot M mb (.slice pa2 l2.length pc2) j := by
    intro j hj hn hh
    rcases hh with h1 | h1 | h1
    · exact hn (.inl h1)
    · exact hn (.inr (.inl h1))
    · rcases hf2 j h1 with h2 | h2
      · exact hn (.inr (.inr h2))
      · omega
  have hz2 := hK2.size
  have hzA := hA.size
  have hg3s := hg3.size
  have ho_lt : ∀ j, (Value.slice ao out.length co).ownBlock = some j → j < w.heap.size := fun j hj => (OwnR.lt h.own hj).2
  -- from w to w3: all but the maker's and the row's
  have keep3 : ∀ j, j < w.heap.size → ¬ Hot M mb (.slice pa l.length pc) j → (Value.slice ao out.length co).ownBlock ≠ some j → w3.heap[j]? = w.heap[j]? := by
    intro j hj h1 h2
    rw [hg3.block j (by omega) (fun e => h2 e.symm), hA.block j (by omega), hK2.block j hj h1]
  have keep23 : ∀ j, j < w2.heap.size → (Value.slice ao out.length co).ownBlock ≠ some j → w3.heap[j]? = w2.heap[j]? := by
    intro j hj h2
    rw [hg3.block j (by omega) (fun e => h2 e.symm), hA.block j (by omega)]
  have keepS : ∀ j, j ≠ X → (w3.setCell ⟨X, 2, none⟩ (.slice ao' (out.length + 1) co')).heap[j]? = w3.heap[j]? := fun j hj => Below.heap_setCell _ _ _ _ (by simpa using hj)
  have sizeS : (w3.setCell ⟨X, 2, none⟩ (.slice ao' (out.length + 1) co')).heap.size = w3.heap.size := by simp [World.setCell]
  have hXo : (Value.slice ao out.length co).ownBlock ≠ some X := fun e => (h.ownC X e).2.1 rfl
  have newC : ∀ j, (Value.slice ao' (out.length + 1) co').ownBlock = some j → (Value.slice ao out.length co).ownBlock = some j ∨ w2.heap.size ≤ j := by
    intro j hj
    rcases hat with h1 | ⟨z, h1, h2⟩
    · exact .inl (by rw [← h1]; exact hj)
    · rw [h2] at hj
      cases hj
      exact .inr h1
  have hot2_lt : ∀ j, Hot M mb (.slice pa2 l2.length pc2) j → j < w2.heap.size := fun j hj => (hM2.hotB hj).2
  have hot2o : ∀ j, Hot M mb (.slice pa2 l2.length pc2) j → (Value.slice ao out.length co).ownBlock ≠ some j := fun j hj e => cold j (ho_lt j e) (h.ownC j e).1 hj
  have hXc2 : ¬ Hot M mb (.slice pa2 l2.length pc2) X := cold X hXl h.hXc
  constructor
  · refine hM2.keeps (S := fun j => (Value.slice ao out.length co).ownBlock = some j ∨ j = X) ⟨?_, ?_, ?_, ?_, ?_⟩ (fun j hj hs => ?_)
    · exact hg3.os.trans hA.os
    · exact hg3.tape.trans hA.tape
    · exact hg3.output.trans hA.output
    · rw [sizeS]; omega
    · intro j hj hs
      rw [keepS j (fun e => hs (.inr e)), keep23 j hj (fun e => hs (.inl e))]
    · rcases hs with h1 | h1
      · exact hot2o j hj h1
      · subst h1; exact hXc2 hj
  · rw [e]
    exact (h.box.keep (keep3 X hXl h.hXc hXo)).set 2 _
  · exact h.hX
  · exact hXc2
  · exact h.ini.keep (fun ad had _ => by
      obtain ⟨h1, h2, h3, h4⟩ := h.iniC ad had
      rw [keepS _ h2.1, keep3 _ h4 h1 h3])
  · intro ad had
    obtain ⟨h1, h2, h3, h4⟩ := h.iniC ad had
    refine ⟨cold _ h4 h1, h2, ?_, by rw [sizeS]; omega⟩
    rw [e]
    intro e2
    rcases newC _ e2 with h5 | h5
    · exact h3 h5
    · omega
  · rw [e]
    exact OwnR.keeps (S := fun j => j = X) ho3 (Keeps.set w3 X 2 _ rfl) (fun j hj ej => by
      subst ej
      rcases newC _ hj with h5 | h5
      · exact hXo h5
      · omega)
  · intro j hj
    rw [e] at hj
    rcases newC _ hj with h5 | h5
    · exact ⟨cold j (ho_lt j h5) (h.ownC j h5).1, (h.ownC j h5).2⟩
    · have := h.hZ
      exact ⟨fun hh => by have := hot2_lt j hh; omega, by omega, by omega⟩
  · rw [e]
    refine CellsOf.snoc ?_ ?_ (h.cs.keep (fun j hj => ?_) (fun j hj => ?_))
    · exact (NumsAt.of_owns hoy).keep (fun ad had hlt => by
        have hc := hc2 ad.block (by rw [had]; rfl)
        rw [keepS _ (by omega), keep23 _ hlt (fun e => by have := ho_lt _ e; omega)])
    · intro ad had
      have hc := hc2 ad.block (by rw [had]; rfl)
      have hl := (hoy.lt2 (j := ad.block) (by rw [had]; rfl)).2
      have := h.hZ
      refine ⟨hc.2, ⟨by omega, by omega⟩, fun e2 => ?_, by rw [sizeS]; omega⟩
      rcases newC _ e2 with h5 | h5
      · have := ho_lt _ h5; omega
      · omega
    · obtain ⟨h1, h2, h3, h4⟩ := hj
      rw [keepS _ h2.1, keep3 _ h4 h1 h3]
    · obtain ⟨h1, h2, h3, h4⟩ := hj
      refine ⟨cold _ h4 h1, h2, fun e2 => ?_, by rw [sizeS]; omega⟩
      rcases newC _ e2 with h5 | h5
      · exact h3 h5
      · omega
  · have := h.hZ
    rw [sizeS]; omega
end Go.Proofs.Ytefplklkhcpchaa
