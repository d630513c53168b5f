/- What the operations of a law's region give: a source, a product, a search, a box. No conditions. -/
import Derived.Test.YtfcpfcgcfaacnaaNdSrc
import Derived.Test.YtfcpfcgcfaacnaaNdWorks
namespace Go.Proofs.Ytfcpfcgcfaacnaa
set_option linter.unusedVariables false
open Go.RowKit

inductive OpK where
  | fix (u : Value)
  | src
  | new
  | found (bn bd : Int)
  | box
def opV (B : World) (G : GR) (sets : List (List Bool)) (A : AU) (k : OpK) (v : Value) (w : World) : Prop :=
  match k with
  | .fix u => v = u
  | .src => SrcV w G sets v
  | .new => NewV w G sets A v
  | .found bn bd => FoundNew B.heap.size w v (resP G sets A bn bd)
  | .box => ∃ g, v = .pointer (some ⟨g, 0, none⟩) ∧ B.heap.size ≤ g ∧ RowAt w g TFd zfound
theorem opV_keep (B : World) (G : GR) (sets : List (List Bool)) (A : AU) (k : OpK) (v : Value) (w w' : World) (h : opV B G sets A k v w) (hb : Below w.heap.size w w') : opV B G sets A k v w' := by
  cases k with
  | fix u => exact h
  | src => exact SrcV.below h hb
  | new => exact NewV.below h hb
  | found bn bd => exact FoundNew.below h hb
  | box =>
    obtain ⟨g, h1, h2, h3⟩ := h
    exact ⟨g, h1, h2, h3.below hb⟩
def opN (k : OpK) (w : World) (v : Value) : Prop :=
  match k with
  | .box => v = .pointer (some ⟨w.heap.size, 0, none⟩)
  | .found _ _ => ∀ b, blkOf v b → w.heap.size ≤ b
  | _ => True
def opD (k k' : OpK) (v u : Value) : Prop :=
  match k, k' with
  | .box, .box => v ≠ u
  | .found _ _, .box => ∀ b, blkOf v b → u ≠ .pointer (some ⟨b, 0, none⟩)
  | _, _ => True
theorem opD_of (B : World) (G : GR) (sets : List (List Bool)) (A : AU) (k k' : OpK) (v u : Value) (w : World) (hn : opN k w v) (hv : opV B G sets A k' u w) : opD k k' v u ∧ opD k' k u v := by
  cases k with
  | fix _ => exact ⟨by cases k' <;> trivial, by cases k' <;> trivial⟩
  | src => exact ⟨by cases k' <;> trivial, by cases k' <;> trivial⟩
  | new => exact ⟨by cases k' <;> trivial, by cases k' <;> trivial⟩
  | found bn bd =>
    cases k' with
    | box =>
      refine ⟨fun b hb e => ?_, trivial⟩
      obtain ⟨g, h1, h2, h3⟩ := hv
      rw [h1] at e
      simp only [Value.pointer.injEq, Option.some.injEq, Addr.mk.injEq] at e
      have := hn b hb
      have := h3.lt
      omega
    | _ => exact ⟨trivial, trivial⟩
  | box =>
    have hn' : v = .pointer (some ⟨w.heap.size, 0, none⟩) := hn
    cases k' with
    | box =>
      obtain ⟨g, h1, h2, h3⟩ := hv
      have hne : v ≠ u := fun e => by
        rw [hn', h1] at e
        simp only [Value.pointer.injEq, Option.some.injEq, Addr.mk.injEq] at e
        have := h3.lt
        omega
      exact ⟨hne, fun e => hne e.symm⟩
    | found bn bd =>
      refine ⟨trivial, fun b hb e => ?_⟩
      have := (FoundNew.blk hv hb).2
      rw [hn'] at e
      simp only [Value.pointer.injEq, Option.some.injEq, Addr.mk.injEq] at e
      omega
    | _ => exact ⟨trivial, trivial⟩
theorem FoundNew.weak {base base' : Nat} {w : World} {v : Value} {f : NF} (h : FoundNew base w v f) (hb : base' ≤ base) : FoundNew base' w v f := by
  obtain ⟨sa, sc, la, lc, h1, h2, h3⟩ := h
  exact ⟨sa, sc, la, lc, h1, ⟨h2.1, fun ad had => Nat.le_trans hb (h2.2 ad had)⟩, ⟨h3.1, fun ad had => Nat.le_trans hb (h3.2 ad had)⟩⟩
def opL (ks : List OpK) (i : Nat) : OpK := ks.getD i (.fix undef)
section
variable {P : Program} {ops : Array Oper} {Q : Exit → Act → World → Prop}
theorem wp_region_ops {id : Nat} {a0 : Act} {w : World} (hm : P.follows .mixedOrders = true) (B : World) (G : GR) (sets : List (List Bool)) (A : AU) (T : Nat) (ks : List OpK) (hf : freeB .any ops T a0.tmps.size = true) (hw : waitB .any ops T = true) (hT : decide (T ≤ ops.size) = true) (hR : Below B.heap.size B w)
    (step : ∀ i, i < T → FreeS P .any ops T Q (fun w => Below B.heap.size B w) (fun w w' => Below w.heap.size w w') (fun i v w => opV B G sets A (opL ks i) v w) (fun i w v => opN (opL ks i) w v) a0 i)
    (last : ∀ a w, a.defers = a0.defers → a.tmps.size = a0.tmps.size → (∀ k, (∀ i, i < T → (ops[i]?).bind (·.dst) ≠ some k) → a.tmps.getD k undef = a0.tmps.getD k undef) →
      Below B.heap.size B w → (∀ i d, i < T → (ops[i]?).bind (·.dst) = some d → opV B G sets A (opL ks i) (a.tmps.getD d undef) w) → (∀ i j d d', i < T → j < T → i ≠ j → (ops[i]?).bind (·.dst) = some d → (ops[j]?).bind (·.dst) = some d' → opD (opL ks i) (opL ks j) (a.tmps.getD d undef) (a.tmps.getD d' undef)) → wpAny P .any ops Q (ops.size - T) (firstL ops T) a w) :
    (Code.region id ops true).wp P Q a0 w :=
  wp_region_free hm T (fun w => Below B.heap.size B w) (fun w w' => Below w.heap.size w w') (fun i v w => opV B G sets A (opL ks i) v w) (fun i w v => opN (opL ks i) w v) (fun i j v u => opD (opL ks i) (opL ks j) v u)
    (fun i j v u w _ h1 h2 => opD_of B G sets A _ _ v u w h1 h2) (fun i v w w' h hb => opV_keep B G sets A _ v w w' h hb) hf hw hT hR.drew step last
end
end Go.Proofs.Ytfcpfcgcfaacnaa
