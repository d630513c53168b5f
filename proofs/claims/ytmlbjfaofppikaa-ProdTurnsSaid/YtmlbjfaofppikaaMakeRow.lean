/- 'make([]T, n)', known whole, for an element of one cell. Conditions: the bound on a make. -/
import Derived.Test.YtmlbjfaofppikaaMem
namespace Go.Proofs.Ytmlbjfaofppikaa
open Go.RowKit

theorem wp_makeRow {P : Program} {w : World} {ops : Array Oper} {rest : List Oper} {o : Oper} {act : Act} {Q : Exit → Act → World → Prop} (hgd : o.guard = none) (l c : Operand) (t e : TypeId) (z : Value) (by_ : Nat) (hop : o.op = Op.makeSlice t l c) (ht : P.underlying t = some (.slice e))
    (hi : (P.info? e).map (fun i => (i.zero, i.size, i.bytes)) = some (some z, 1, by_)) (hz : z.cells = #[z])
    (n : Nat) (hl : act.eval l = .int .i64 n) (hc : act.eval c = .int .i64 n) (hbytes : by_ * n ≤ 281474976710656) (hby : 0 < by_)
    (h : ∀ w', RowAt w' w.heap.size e (List.replicate n z) → Below w.heap.size w w' → w.heap.size < w'.heap.size → wpList P ops Q rest (act.put o.dst (.slice (some ⟨w.heap.size, 0, none⟩) n n)) w') :
    wpList P ops Q (o :: rest) act w := by
  obtain ⟨i, h1, h2, h3, h4⟩ := info_parts hi
  refine wpList_make_full w hgd l c t hop w.heap.size e i z 1 ht h1 h2 h3 .i64 .i64 n n n hl hc rfl rfl (by rw [h4]; exact hbytes) ?_ (Nat.le_refl _) ?_
  · unfold maxLen
    have : 1 * n ≤ by_ * n := Nat.mul_le_mul_right _ hby
    omega
  · intro w' hown hg
    have hb : Below w.heap.size w w' := bgrown (Below.refl _ _) hg (by intro k hk; cases hk)
    rcases hown.2 with ⟨hv, _⟩ | ⟨g, cap, cur, hv, _, hg2, hnc, _, hcs, htk⟩
    · cases hv
    · cases hv
      refine h w' ?_ hb (Array.getElem?_eq_some_iff.1 hg2).1
      have hm : (madeCells z.cells n).toList = List.replicate n z := by rw [hz, toList_madeCells_one]
      rw [Nat.mul_one] at htk hcs
      rw [List.take_of_length_le (by simp [hcs])] at htk
      rw [hm] at htk
      unfold RowAt
      rw [hg2, ← htk]
end Go.Proofs.Ytmlbjfaofppikaa
