/- What a whole product reads as. No conditions. -/
import Derived.Test.YtfcpfcgcfaacnaaPrRWhole
import Derived.Test.YtfcpfcgcfaacnaaPrSomeP
namespace Go.Proofs.Ytfcpfcgcfaacnaa
open Go.RowKit

/-- what a whole product reads as -/
def Reads (w : World) (X : WX) (init : List Int) (s : WR) : Prop := NumsAt .i64 w X.ia init ∧ EdgesAt w X.ea s.es ∧ NumsAt .u64 w X.la (natI s.labs) ∧ PpsAt w X.qa s.l ∧ TruthsAt w X.ba s.ins
/-- it reads so, whatever becomes of blocks below B -/
def ReadsB (B : Nat) (w : World) (X : WX) (init : List Int) (s : WR) : Prop := ∀ w2, Keeps w w2 (fun j => j < B) → Reads w2 X init s
theorem ReadsB.keeps {B B' : Nat} {w w' : World} {X : WX} {init : List Int} {s : WR} (h : ReadsB B w X init s) (hk : Keeps w w' (fun j => j < B)) (hB : B' ≤ B) : ReadsB B' w' X init s :=
  fun w2 hk2 => h w2 (hk.trans hk2 (fun j _ hj => by omega))
theorem ReadsB.below {B : Nat} {w w' : World} {X : WX} {init : List Int} {s : WR} (h : ReadsB B w X init s) (hb : Below w.heap.size w w') : ReadsB B w' X init s := h.keeps (Keeps.of_below hb) (Nat.le_refl _)
theorem ReadsB.at {B : Nat} {w : World} {X : WX} {init : List Int} {s : WR} (h : ReadsB B w X init s) : Reads w X init s := h w (Keeps.refl _ _)
theorem Whole4.x {err : Int} {init : List Int} {s : WR} {w w' : World} {e : Ending} (h : Whole4 err init s w e w') : ∃ X : WX, e = .returned (.tuple #[.agg #[.slice X.ia init.length X.ic, .slice X.ea s.es.length X.ec, .slice X.la s.labs.length X.lc], .slice X.qa s.l.length X.qc, .slice X.ba s.ins.length X.bc, .int .i64 err]) ∧ ReadsB w.heap.size w' X init s ∧ Below w.heap.size w w' := by
  obtain ⟨ia, ic, ea, ec, la, lc, qa, qc, ba, bc, h1, h2, h3⟩ := h
  exact ⟨⟨ia, ic, ea, ec, la, lc, qa, qc, ba, bc, none, 0⟩, h1, h2, h3⟩
structure Box2 (W : World) (X : RX) (G : GR) (A : AU) (w : World) : Prop where
  below : Below W.heap.size W w
  rg : RowAt w W.heap.size TG (gcells X G)
  ra : RowAt w (W.heap.size + 1) TA (acells X A)
theorem Box2.next {W : World} {X : RX} {G : GR} {A : AU} {w w' : World} (h : Box2 W X G A w) (hb : Below w.heap.size w w') : Box2 W X G A w' := ⟨btrans h.below hb, h.rg.below hb, h.ra.below hb⟩
theorem Box2.start (W : World) (X : RX) (G : GR) (A : AU) : Box2 W X G A ((W.alloc (.cells (gcells X G).toArray TG)).alloc (.cells (acells X A).toArray TA)) :=
  ⟨balloc (balloc (Below.refl _ _) _) _, (RowAt.new (gcells X G).toArray rfl).alloc _, RowAt.new (acells X A).toArray (by simp)⟩
theorem set3_keeps {w : World} {z n : Nat} (hz : z < n) (a b c : Value) : Keeps w (((w.setCell ⟨z, 0, none⟩ a).setCell ⟨z, 1, none⟩ b).setCell ⟨z, 2, none⟩ c) (fun j => j < n) :=
  ((Keeps.set (S := fun j => j < n) w z 0 a hz).trans (Keeps.set (S := fun j => j < n) _ z 1 b hz) (fun _ _ h => h)).trans (Keeps.set (S := fun j => j < n) _ z 2 c hz) (fun _ _ h => h)
theorem set3_below {w3 w5 : World} {z : Nat} {a b c : Value} (h : Below w3.heap.size w3 w5) (hz : w3.heap.size ≤ z) : Below w3.heap.size w3 (((w5.setCell ⟨z, 0, none⟩ a).setCell ⟨z, 1, none⟩ b).setCell ⟨z, 2, none⟩ c) := bsetN (bsetN (bsetN h hz) hz) hz
theorem law_a {w3 w4 w5 : World} {o : Obj} {Y : WX} {init : List Int} {s : WR} {a b c : Value} (h : ReadsB (w4.alloc o).heap.size w5 Y init s) (hs : w3.heap.size ≤ w4.heap.size) : ReadsB w3.heap.size (((w5.setCell ⟨w4.heap.size, 0, none⟩ a).setCell ⟨w4.heap.size, 1, none⟩ b).setCell ⟨w4.heap.size, 2, none⟩ c) Y init s :=
  h.keeps (set3_keeps (by simp) a b c) (by simp; omega)
theorem law_b {w3 w5 : World} {z : Nat} {a b c : Value} (h : Below w3.heap.size w3 w5) (hz : w3.heap.size ≤ z) : Below w3.heap.size w3 (((w5.setCell ⟨z, 0, none⟩ a).setCell ⟨z, 1, none⟩ b).setCell ⟨z, 2, none⟩ c) := bsetN (bsetN (bsetN h hz) hz) hz
theorem law_c {w3 w4 w5 : World} {o : Obj} {Y : WX} {init : List Int} {s : WR} {a b c : Value} (h : ReadsB w4.heap.size w5 Y init s) (hk : Below (w3.alloc o).heap.size (w3.alloc o) w4) : ReadsB w3.heap.size (((w5.setCell ⟨w3.heap.size, 0, none⟩ a).setCell ⟨w3.heap.size, 1, none⟩ b).setCell ⟨w3.heap.size, 2, none⟩ c) Y init s := by
  have h1 := hk.size
  have h2 : (w3.alloc o).heap.size = w3.heap.size + 1 := by simp
  exact h.keeps (set3_keeps (by omega) a b c) (by omega)
abbrev gzc : Obj := .cells #[.slice none 0 0, .slice none 0 0, .slice none 0 0] TG
end Go.Proofs.Ytfcpfcgcfaacnaa
