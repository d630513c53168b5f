/- An automaton that begins at a node. No conditions. -/
import Derived.Test.YtnllgigolfakpaaSimLaws
namespace Go.Proofs.Ytnllgigolfakpaa
open Go.RowKit

set_option maxHeartbeats 1000000 in
theorem from_any (w : World) (ai an : Option Addr) (ni ci nn cn : Nat) (s : Int) (k : Nat) :
    Calls Try.prog 18 #[.agg #[.int .i64 s, .slice ai ni ci, .slice an nn cn], .int .i64 (k : Int)] w fun e w' => ∃ g, e = .returned (.agg #[.int .i64 s, .slice (some ⟨g, 0, none⟩) 1 1, .slice an nn cn]) ∧ NumsAt .i64 w' (some ⟨g, 0, none⟩) [(k : Int)] ∧ Below w.heap.size w w' := by
  have hb3 : Below w.heap.size w (((w.alloc (.cells #[.int .i64 s, .slice ai ni ci, .slice an nn cn] AUT)).alloc (.cells #[.int .i64 s, .slice (some ⟨w.heap.size + 1 + 1, 0, none⟩) 1 1, .slice an nn cn] AUT)).alloc (.cells #[.int .i64 (k : Int)] 3)) := balloc (balloc (balloc (Below.refl _ _) _) _) _
  have r2 : RowAt (((w.alloc (.cells #[.int .i64 s, .slice ai ni ci, .slice an nn cn] AUT)).alloc (.cells #[.int .i64 s, .slice (some ⟨w.heap.size + 1 + 1, 0, none⟩) 1 1, .slice an nn cn] AUT)).alloc (.cells #[.int .i64 (k : Int)] 3)) (w.heap.size + 1) AUT [.int .i64 s, .slice (some ⟨w.heap.size + 1 + 1, 0, none⟩) 1 1, .slice an nn cn] := (RowAt.new #[.int .i64 s, .slice (some ⟨w.heap.size + 1 + 1, 0, none⟩) 1 1, .slice an nn cn] (by simp)).alloc _
  have n3 : NumsAt .i64 (((w.alloc (.cells #[.int .i64 s, .slice ai ni ci, .slice an nn cn] AUT)).alloc (.cells #[.int .i64 s, .slice (some ⟨w.heap.size + 1 + 1, 0, none⟩) 1 1, .slice an nn cn] AUT)).alloc (.cells #[.int .i64 (k : Int)] 3)) (some ⟨w.heap.size + 1 + 1, 0, none⟩) [(k : Int)] := nums_new (by simp) #[.int .i64 (k : Int)] [(k : Int)] rfl
  have d0 := r2.cell 0
  have d1 := r2.cell 1
  have d2 := r2.cell 2
  simp only [List.getElem?_cons_zero, List.getElem?_cons_succ] at d0 d1 d2
  replace r2 := Lib.hid r2
  replace n3 := Lib.hid n3
  replace hb3 := Lib.hid hb3
  go_enter Try.func18, Try.ntmps18
  go_wp2
  exact bodyPost_ret (v := .agg #[.int .i64 s, .slice (some ⟨w.heap.size + 1 + 1, 0, none⟩) 1 1, .slice an nn cn]) (by simp [results, Try.results18, go_sem, d0, d1, d2]) rfl ⟨_, rfl, n3.out, hb3.out⟩
end Go.Proofs.Ytnllgigolfakpaa
