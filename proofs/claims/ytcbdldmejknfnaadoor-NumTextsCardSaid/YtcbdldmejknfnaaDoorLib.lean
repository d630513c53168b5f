/- General lemmas on worlds: lists of integers in memory, and what stays when memory grows. No conditions. -/
import Derived.Test.YtcbdldmejknfnaaDoorChecked
import Derived.WalkKit
import Derived.ProofKit
import Derived.OpenShut
import Derived.Deep.QuietTactic
import Derived.BigQuiet
import Derived.WalkLawsBesides
import Derived.WalkSpells
import Derived.Lib.Hide
import Derived.StillTailTactics
namespace Go.Proofs.YtcbdldmejknfnaaDoor
open Go.RowKit Go.ChangeShapes Go.WideShapes Go.ChangeAt

/-- integers read at an address, cell by cell -/
def IntsAt (w : World) (a : Option Addr) (xs : List Int) : Prop :=
  0 < xs.length → ∃ b off, a = some ⟨b, off, none⟩ ∧ ∀ i, i < xs.length → w.cell? ⟨b, off + i, none⟩ = some (.int .i64 (xs.getD i 0))

theorem bcell {W w1 : World} (hb : Below W.heap.size W w1) {a : Addr} {v : Value} (h : W.cell? a = some v) : w1.cell? a = some v :=
  (hb.cell (p := a) (World.block_lt_of_cell? W a h)).trans h

theorem IntsAt.below {w w' : World} {a : Option Addr} {xs : List Int} (h : IntsAt w a xs) (hb : Below w.heap.size w w') : IntsAt w' a xs := by
  intro h0
  obtain ⟨b, off, ha, hc⟩ := h h0
  exact ⟨b, off, ha, fun i hi => bcell hb (hc i hi)⟩

theorem IntsAt.at {w : World} {a : Option Addr} {xs : List Int} (h : IntsAt w a xs) (k : Nat) (hk : k < xs.length) :
    ∃ b off x, a = some ⟨b, off, none⟩ ∧ w.cell? ⟨b, off + k, none⟩ = some (.int .i64 x) ∧ Hid (x = xs.getD k 0) := by
  obtain ⟨b, off, ha, hc⟩ := h (by omega)
  exact ⟨b, off, _, ha, hc k hk, rfl⟩

theorem IntsAt.atb {w wr : World} {a : Option Addr} {xs : List Int} (h : IntsAt w a xs) (hb : Below w.heap.size w wr) (k : Nat) (hk : k < xs.length) :
    ∃ b off x, a = some ⟨b, off, none⟩ ∧ b < w.heap.size ∧ wr.cell? ⟨b, off + k, none⟩ = some (.int .i64 x) ∧ Hid (x = xs.getD k 0) := by
  obtain ⟨b, off, x, ha, hc, hx⟩ := h.at k hk
  exact ⟨b, off, x, ha, World.block_lt_of_cell? w _ hc, bcell hb hc, hx⟩
theorem IntsAt.alloc {w : World} {a : Option Addr} {xs : List Int} (h : IntsAt w a xs) (o : Obj) : IntsAt (w.alloc o) a xs := h.below ((Below.refl _ _).alloc (Nat.le_refl _) o)
theorem IntsAt.drewN {w : World} {a : Option Addr} {xs : List Int} (h : IntsAt w a xs) (n : Nat) : IntsAt (w.drewN n) a xs := h
theorem ints_new1 {w : World} {n T : Nat} (hn : n = w.heap.size) (x : Int) : IntsAt (w.alloc (.cells #[.int .i64 x] T)) (some ⟨n, 0, none⟩) [x] := by
  intro _
  refine ⟨n, 0, rfl, fun i hi => ?_⟩
  match i, hi with
  | 0, _ => rw [World.cell?_alloc_at _ _ _ _ hn]; rfl
theorem ints_new2 {w : World} {n T : Nat} (hn : n = w.heap.size) (x y : Int) : IntsAt (w.alloc (.cells #[.int .i64 x, .int .i64 y] T)) (some ⟨n, 0, none⟩) [x, y] := by
  intro _
  refine ⟨n, 0, rfl, fun i hi => ?_⟩
  match i, hi with
  | 0, _ => rw [World.cell?_alloc_at _ _ _ _ hn]; rfl
  | 1, _ => rw [World.cell?_alloc_at _ _ _ _ hn]; rfl
/-- a number that a row owns, under a name of its own -/
theorem ownsInt_at {w : World} {base e g n cap : Nat} {xs : List Int} (h : w.ownsRow base e 1 (.slice (some ⟨g, 0, none⟩) n cap) n (xs.map (Value.int .i64))) (k : Nat) (hk : k < xs.length) :
    ∃ y, w.cell? ⟨g, k, none⟩ = some (.int .i64 y) ∧ Hid (y = xs.getD k 0) := by
  have hl := h.1
  simp at hl
  refine ⟨xs.getD k 0, ?_, rfl⟩
  rw [h.cellAt k (by omega)]
  simp [List.getD, List.getElem?_eq_getElem hk]
theorem ownsInt_set {w : World} {base e g n cap : Nat} {xs : List Int} (h : w.ownsRow base e 1 (.slice (some ⟨g, 0, none⟩) n cap) n (xs.map (Value.int .i64))) (k : Nat) (y : Int) :
    (w.setCell ⟨g, k, none⟩ (.int .i64 y)).ownsRow base e 1 (.slice (some ⟨g, 0, none⟩) n cap) n ((xs.set k y).map (Value.int .i64)) := by
  rw [List.map_set]
  exact (h.stored k _).1

theorem ret_bool {a b : Bool} (h : a = b) : Ending.returned (.bool a) = .returned (.bool b) := by rw [h]
theorem ret_int {k : IntKind} {a b : Int} (h : a = b) : Ending.returned (.int k a) = .returned (.int k b) := by rw [h]

/-- nothing but draws -/
def Quiet (w w' : World) : Prop := ∃ n, w' = w.drewN n
theorem Quiet.refl (w : World) : Quiet w w := ⟨0, rfl⟩
theorem Quiet.one (w : World) (n : Nat) : Quiet w (w.drewN n) := ⟨n, rfl⟩
theorem Quiet.two (w : World) (n m : Nat) : Quiet w ((w.drewN n).drewN m) := ⟨n + m, by simp [World.drewN, Nat.add_assoc]⟩
theorem Quiet.below {w w' : World} (h : Quiet w w') (B : Nat) : Below B w w' := by
  obtain ⟨n, rfl⟩ := h
  exact ⟨rfl, rfl, rfl, Nat.le_refl _, fun _ _ => rfl⟩

theorem IntsAt.nil (w : World) (a : Option Addr) : IntsAt w a [] := fun h => by simp at h

theorem bdrewN {B : Nat} {a w : World} (h : Below B a w) (n : Nat) : Below B a (w.drewN n) := ⟨h.os, h.tape, h.output, h.size, h.block⟩

theorem balloc {w w1 : World} (h : Below w.heap.size w w1) (o : Obj) : Below w.heap.size w (w1.alloc o) := h.alloc h.size o
theorem btrans {w w1 w2 : World} (h : Below w.heap.size w w1) (k : Below w1.heap.size w1 w2) : Below w.heap.size w w2 := h.trans (k.mono h.size)

/-- what a call owns reads as a list of integers -/
theorem IntsAt.of_owns {w : World} {base e g n cap : Nat} {xs : List Int} (h : w.ownsRow base e 1 (.slice (some ⟨g, 0, none⟩) n cap) n (xs.map (Value.int .i64))) : IntsAt w (some ⟨g, 0, none⟩) xs := by
  intro _
  have hl := h.1
  simp at hl
  refine ⟨g, 0, rfl, fun i hi => ?_⟩
  rw [Nat.zero_add, h.cellAt i (by omega)]
  simp [List.getD, List.getElem?_eq_getElem hi]

theorem IntsAt.of_owns' {w : World} {base e n : Nat} {a : Option Addr} {cap : Nat} {xs : List Int} (h : w.ownsRow base e 1 (.slice a n cap) n (xs.map (Value.int .i64))) : IntsAt w a xs := by
  rcases h.2 with ⟨hv, hn⟩ | ⟨g, cap', cur, hv, _⟩
  · have hl := h.1
    simp [hn] at hl
    subst hl
    exact IntsAt.nil _ _
  · simp at hv
    obtain ⟨rfl, rfl⟩ := hv
    exact IntsAt.of_owns h

end Go.Proofs.YtcbdldmejknfnaaDoor
