/- The chapter's example. No conditions. -/
import Derived.Test.YtnllgigolfakpaaSimIs
import Derived.Test.YtnllgigolfakpaaSimDir
import Derived.Test.YtnllgigolfakpaaSimEq
namespace Go.Proofs.Ytnllgigolfakpaa
open Go.RowKit

def exT : AU := ⟨1, [0, 1], [⟨1, 0, 1, [0]⟩, ⟨0, 0, 1, [1]⟩]⟩
theorem exTok : AuOk exT := ⟨by decide, by intro x hx; simp [exT] at hx; rcases hx with rfl | rfl <;> decide, by decide, by decide, by
  intro x hx
  simp [exT] at hx
  rcases hx with rfl | rfl
  · refine ⟨by decide, by decide, by decide, by decide, ?_⟩; intro t ht; simp at ht; subst ht; decide
  · refine ⟨by decide, by decide, by decide, by decide, ?_⟩; intro t ht; simp at ht; subst ht; decide⟩
theorem exTc : chk exT = 0 := by decide
/-- the example's greatest simulation -/
def exR : Nat → Nat → Bool := fun i k => !(i == 1 && k == 0)
theorem two_lt {i : Nat} (h : i < exT.nodes.length) : i = 0 ∨ i = 1 := by
  have : exT.nodes.length = 2 := rfl
  omega
theorem exSim : IsSim exT exR := by
  intro i k hi hk
  rcases two_lt hi with rfl | rfl <;> rcases two_lt hk with rfl | rfl <;> decide
theorem exGreat : Great exT exR := ⟨exSim, fun S hS i k hi hk hs => by
  rcases two_lt hi with rfl | rfl <;> rcases two_lt hk with rfl | rfl
  · rfl
  · rfl
  · have := (hS 1 0 hi hk hs).1
    exact absurd this (by decide)
  · rfl⟩
theorem exDir {L : List (List Bool)} (h : DirOf exT L) : L = [[true, true], [false, true]] := by
  have h2 : DirOf exT [[true, true], [false, true]] := .inr ⟨exTc, exR, exGreat, by decide⟩
  exact h.same h2
theorem exIs : IsP exT [[true, true], [false, true]] := ⟨exTc, rfl, by decide, by
  intro i k hi hk
  rcases two_lt hi with rfl | rfl <;> rcases two_lt hk with rfl | rfl <;> decide⟩
theorem exNot : ¬ IsP exT [[true, true], [true, true]] := fun h => by
  have := (h.2.2.2 1 0 (by decide) (by decide) (by decide)).1
  exact absurd this (by decide)
theorem exNil : ¬ IsP exT [] := fun h => absurd h.2.1 (by decide)

def GivesTwo (w : World) (e : Ending) (w' : World) : Prop := ∃ ai ci an cn, e = .returned (.agg #[.int .i64 1, .slice ai 2 ci, .slice an 2 cn]) ∧ AuAt w' ai 2 an 2 exT ∧ Below w.heap.size w w'
set_option maxHeartbeats 2000000 in
theorem two_any (w : World) : Calls Try.prog 19 #[] w (GivesTwo w) := by
  obtain ⟨w5, hw5⟩ : ∃ w5, w5 = (((((w.alloc (.cells #[.int .i64 1, .slice (some ⟨w.heap.size + 1, 0, none⟩) 2 2, .slice (some ⟨w.heap.size + 1 + 1 + 1 + 1, 0, none⟩) 2 2] AUT)).alloc (.cells #[.int .i64 0, .int .i64 1] 3)).alloc (.cells #[.int .i64 0] 3)).alloc (.cells #[.int .i64 1] 3)).alloc (.cells #[.int .u64 1, .int .u64 0, .int .u64 1, .slice (some ⟨w.heap.size + 1 + 1, 0, none⟩) 1 1, .int .u64 0, .int .u64 0, .int .u64 1, .slice (some ⟨w.heap.size + 1 + 1 + 1, 0, none⟩) 1 1] TNd)) := ⟨_, rfl⟩
  have hb : Below w.heap.size w w5 := by rw [hw5]; exact balloc (balloc (balloc (balloc (balloc (Below.refl _ _) _) _) _) _) _
  have r0 : RowAt w5 w.heap.size AUT [.int .i64 1, .slice (some ⟨w.heap.size + 1, 0, none⟩) 2 2, .slice (some ⟨w.heap.size + 1 + 1 + 1 + 1, 0, none⟩) 2 2] := by
    rw [hw5]
    exact ((((RowAt.new (w := w) #[.int .i64 1, .slice (some ⟨w.heap.size + 1, 0, none⟩) 2 2, .slice (some ⟨w.heap.size + 1 + 1 + 1 + 1, 0, none⟩) 2 2] rfl).alloc _).alloc _).alloc _).alloc _
  have n1 : NumsAt .i64 w5 (some ⟨w.heap.size + 1, 0, none⟩) [0, 1] := by
    rw [hw5]
    exact (((nums_new (by simp) #[.int .i64 0, .int .i64 1] [0, 1] rfl).alloc _).alloc _).alloc _
  have n2 : NumsAt .i64 w5 (some ⟨w.heap.size + 1 + 1, 0, none⟩) [0] := by
    rw [hw5]
    exact ((nums_new (by simp) #[.int .i64 0] [0] rfl).alloc _).alloc _
  have n3 : NumsAt .i64 w5 (some ⟨w.heap.size + 1 + 1 + 1, 0, none⟩) [1] := by
    rw [hw5]
    exact (nums_new (by simp) #[.int .i64 1] [1] rfl).alloc _
  have r4 : RowAt w5 (w.heap.size + 1 + 1 + 1 + 1) TNd [.int .u64 1, .int .u64 0, .int .u64 1, .slice (some ⟨w.heap.size + 1 + 1, 0, none⟩) 1 1, .int .u64 0, .int .u64 0, .int .u64 1, .slice (some ⟨w.heap.size + 1 + 1 + 1, 0, none⟩) 1 1] := by
    rw [hw5]
    exact RowAt.new #[.int .u64 1, .int .u64 0, .int .u64 1, .slice (some ⟨w.heap.size + 1 + 1, 0, none⟩) 1 1, .int .u64 0, .int .u64 0, .int .u64 1, .slice (some ⟨w.heap.size + 1 + 1 + 1, 0, none⟩) 1 1] (by simp)
  have hA : AuAt w5 (some ⟨w.heap.size + 1, 0, none⟩) 2 (some ⟨w.heap.size + 1 + 1 + 1 + 1, 0, none⟩) 2 exT := by
    refine ⟨rfl, rfl, n1, fun _ => ⟨w.heap.size + 1 + 1 + 1 + 1, 0, rfl, fun i hi => ?_⟩⟩
    rcases two_lt hi with rfl | rfl
    · exact ⟨r4.cell 0, r4.cell 1, r4.cell 2, _, 1, r4.cell 3, n2⟩
    · exact ⟨r4.cell 4, r4.cell 5, r4.cell 6, _, 1, r4.cell 7, n3⟩
  have e0 : w5.cell? ⟨w.heap.size, 0, none⟩ = some (.int .i64 1) := r0.cell 0
  have e1 : w5.cell? ⟨w.heap.size, 1, none⟩ = some (.slice (some ⟨w.heap.size + 1, 0, none⟩) 2 2) := r0.cell 1
  have e2 : w5.cell? ⟨w.heap.size, 2, none⟩ = some (.slice (some ⟨w.heap.size + 1 + 1 + 1 + 1, 0, none⟩) 2 2) := r0.cell 2
  replace hw5 := Lib.hid hw5
  replace hA := Lib.hid hA
  clear r0 n1 n2 n3 r4
  go_enter Try.func19, Try.ntmps19
  go_wp2
  rw [← hw5.out]
  exact bodyPost_ret (v := .agg #[.int .i64 1, .slice (some ⟨w.heap.size + 1, 0, none⟩) 2 2, .slice (some ⟨w.heap.size + 1 + 1 + 1 + 1, 0, none⟩) 2 2]) (by simp [results, Try.results19, go_sem, e0, e1, e2]) rfl ⟨_, 2, _, 2, rfl, hA.out, hb⟩
theorem bools_new {w : World} {n T : Nat} (hn : n = w.heap.size) (cs : Array Value) (xs : List Bool) (h : cs.toList = xs.map .bool) : BoolsAt (w.alloc (.cells cs T)) (some ⟨n, 0, none⟩) xs := by
  intro _
  refine ⟨n, 0, rfl, fun i hi => ?_⟩
  rw [World.cell?_alloc_at _ _ _ _ hn, ← Array.getElem?_toList, h]
  simp [List.getD, List.getElem?_eq_getElem hi]
/-- two rows of two, freshly made -/
theorem rows_new (w : World) (a b c d : Bool) : RowsAt (((w.alloc (.cells #[.bool a, .bool b] TB)).alloc (.cells #[.bool c, .bool d] TB)).alloc (.cells #[.slice (some ⟨w.heap.size, 0, none⟩) 2 2, .slice (some ⟨w.heap.size + 1, 0, none⟩) 2 2] 32)) (some ⟨w.heap.size + 1 + 1, 0, none⟩) [[a, b], [c, d]] := by
  have b1 : BoolsAt (((w.alloc (.cells #[.bool a, .bool b] TB)).alloc (.cells #[.bool c, .bool d] TB)).alloc (.cells #[.slice (some ⟨w.heap.size, 0, none⟩) 2 2, .slice (some ⟨w.heap.size + 1, 0, none⟩) 2 2] 32)) (some ⟨w.heap.size, 0, none⟩) [a, b] := ((bools_new rfl #[.bool a, .bool b] [a, b] rfl).below (balloc (Below.refl _ _) _)).below (balloc (Below.refl _ _) _)
  have b2 : BoolsAt (((w.alloc (.cells #[.bool a, .bool b] TB)).alloc (.cells #[.bool c, .bool d] TB)).alloc (.cells #[.slice (some ⟨w.heap.size, 0, none⟩) 2 2, .slice (some ⟨w.heap.size + 1, 0, none⟩) 2 2] 32)) (some ⟨w.heap.size + 1, 0, none⟩) [c, d] := (bools_new (by simp) #[.bool c, .bool d] [c, d] rfl).below (balloc (Below.refl _ _) _)
  have r : RowAt (((w.alloc (.cells #[.bool a, .bool b] TB)).alloc (.cells #[.bool c, .bool d] TB)).alloc (.cells #[.slice (some ⟨w.heap.size, 0, none⟩) 2 2, .slice (some ⟨w.heap.size + 1, 0, none⟩) 2 2] 32)) (w.heap.size + 1 + 1) 32 [.slice (some ⟨w.heap.size, 0, none⟩) 2 2, .slice (some ⟨w.heap.size + 1, 0, none⟩) 2 2] := RowAt.new #[.slice (some ⟨w.heap.size, 0, none⟩) 2 2, .slice (some ⟨w.heap.size + 1, 0, none⟩) 2 2] (by simp)
  intro _
  refine ⟨_, 0, rfl, fun i hi => ?_⟩
  have hi2 : i = 0 ∨ i = 1 := by simp at hi; omega
  rcases hi2 with rfl | rfl
  · exact ⟨_, 2, r.cell 0, b1⟩
  · exact ⟨_, 2, r.cell 1, b2⟩
end Go.Proofs.Ytnllgigolfakpaa
