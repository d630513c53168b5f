/- The state while the greatest simulation is found. No conditions. -/
import Derived.Test.YtnllgigolfakpaaSimFol
import Derived.Test.YtnllgigolfakpaaSimRows
import Derived.Test.YtnllgigolfakpaaSimAlone
import Derived.ScopeJumps
namespace Go.Proofs.Ytnllgigolfakpaa
open Go.RowKit

/-- a scope that the run jumps back in, walked once from the label on -/
theorem wp_scope_once {P : Program} {a : Act} {w : World} {Q : Exit → Act → World → Prop} {c rest : Code} (l : Nat) (J : Act → World → Prop) (μ : Act → World → Nat) (hf : findLabel c l = some (Code.skip.seq rest))
    (pass : ∀ a w, J a w → rest.wp P (Exit.jump l (fun a' w' => J a' w' ∧ μ a' w' < μ a w) Q) a w)
    (first : (∀ a w, J a w → rest.wp P (Exit.jump l J Q) a w) → c.wp P (Exit.jump l J Q) a w) : (Code.scope c).wp P Q a w :=
  wp_scope_jumps l J μ hf (first fun a w h => Code.wp_mono (fun e a' w' hq => by
    cases e with
    | goto l' => exact ⟨hq.1, hq.2.1⟩
    | normal => exact hq
    | exit id => exact hq
    | ret => exact hq
    | panic ch => exact hq
    | outgrown => exact hq) (pass a w h)) fun a w h => by
      apply wp_seq
      apply wp_skip
      exact pass a w h

structure DirSt (W wr : World) (g : Nat) (A : AU) (ai an : Option Addr) (ci cn : Nat) (R : Nat → Nat → Bool) : Prop where
  mat : MatAt wr g A.nodes.length R
  row : RowAt wr W.heap.size AUT [.int .i64 A.sets, .slice ai A.init.length ci, .slice an A.nodes.length cn]
  low : Below W.heap.size W wr
  ab : Above A R
  alo : ∀ i k, i < A.nodes.length → k < A.nodes.length → R i k = true → aloB (sN A) (nd A i) (nd A k) = true
  hg : W.heap.size < g
section
variable {W wr w' : World} {g : Nat} {A : AU} {ai an : Option Addr} {ci cn : Nat} {R : Nat → Nat → Bool}
theorem DirSt.below (h : DirSt W wr g A ai an ci cn R) (hb : Below wr.heap.size wr w') : DirSt W w' g A ai an ci cn R :=
  ⟨h.mat.below hb, h.row.below hb, btrans h.low hb, h.ab, h.alo, h.hg⟩
theorem DirSt.keeps {S : Nat → Prop} (h : DirSt W wr g A ai an ci cn R) (hk : Keeps wr w' S) (hS : ∀ j, S j → g < j) : DirSt W w' g A ai an ci cn R := by
  have hg := h.hg
  exact ⟨h.mat.keep (hk.block g h.mat.lt (fun e => by have := hS g e; omega)), h.row.keeps hk (fun e => by have := hS _ e; omega), hk.below h.low (fun j hj => by have := hS j hj; omega), h.ab, h.alo, h.hg⟩
theorem DirSt.out (h : DirSt W wr g A ai an ci cn R) (hc : chk A = 0) {i k : Nat} (hi : i < A.nodes.length) (hk : k < A.nodes.length) (hk2 : k < 256) (hf : folB R (nd A i) (nd A k) = false) : DirSt W (wr.setCell ⟨g, i * 256 + k, none⟩ (.bool false)) g A ai an ci cn (upd R i k false) := by
  refine ⟨h.mat.set hi hk2 false, h.row.other (by have := h.hg; omega) _ _, h.low.setCell (by have := h.hg; exact Nat.le_of_lt this) _, h.ab.out hc hi hk hf, fun i' k' hi' hk' hr => ?_, h.hg⟩
  by_cases he : i' = i ∧ k' = k
  · obtain ⟨rfl, rfl⟩ := he
    rw [upd_same] at hr
    cases hr
  · rw [upd_other R false he] at hr
    exact h.alo i' k' hi' hk' hr
end
theorem infoRow : (Try.prog.info? TRow).map (fun i => (i.zero, i.size, i.bytes)) = some (some (.agg (Array.replicate 256 (.bool false))), 256, 256) := by kernel_rfl
/-- 'make([]row, n)' -/
theorem wp_makeM {w : World} {ops : Array Oper} {rest : List Oper} {o : Oper} {act : Act} {Q : Exit → Act → World → Prop} (hgd : o.guard = none) (l c : Operand) (hop : o.op = Op.makeSlice 46 l c) (n : Nat) (hl : act.eval l = .int .i64 n) (hc : act.eval c = .int .i64 n) (hn : n ≤ 256)
    (h : ∀ w', MatAt w' w.heap.size n (fun _ _ => false) → w.grownBy w' none → w.heap.size < w'.heap.size → wpList Try.prog ops Q rest (act.put o.dst (.slice (some ⟨w.heap.size, 0, none⟩) n n)) w') :
    wpList Try.prog ops Q (o :: rest) act w := by
  obtain ⟨i, h1, h2, h3, h4⟩ := info_parts infoRow
  refine wpList_make_full w hgd l c 46 hop w.heap.size TRow i _ 256 Try.underlying46 h1 h2 h3 .i64 .i64 n n n hl hc rfl rfl (by rw [h4]; omega) (by unfold maxLen; omega) (Nat.le_refl _) ?_
  intro w' hown hg
  have hz : ∀ j, j < n * 256 → (madeCells (Value.agg (Array.replicate 256 (.bool false))).cells (n * 256)).toList[j]? = some (.bool false) := fun j hj => by
    have e : (Value.agg (Array.replicate 256 (.bool false))).cells = Array.replicate 256 (.bool false) := rfl
    rw [e, Array.getElem?_toList]
    have h5 : j % 256 < 256 := Nat.mod_lt _ (by omega)
    simp [madeCells, Array.getElem?_map, hj, h5]
  rcases hown.2 with ⟨hv, _⟩ | ⟨g, cap, cur, hv, _, hg2, hnc, _, hcs, htk⟩
  · cases hv
  · cases hv
    refine h w' ⟨cur, hg2, by rw [hcs], fun i k hi hk => ?_⟩ hg (Array.getElem?_eq_some_iff.1 hg2).1
    have hj : i * 256 + k < n * 256 := by omega
    have h6 := hz _ hj
    rw [← htk, List.getElem?_take] at h6
    have hl : (madeCells (Value.agg (Array.replicate 256 (.bool false))).cells (n * 256)).toList.length = n * 256 := by simp [madeCells]
    first
      | (rw [if_pos (by omega), Array.getElem?_toList] at h6; exact h6)
      | (rw [← Array.getElem?_toList]; simpa using h6)
def blkOf : Value → Nat
  | .slice (some a) _ _ => a.block
  | _ => 0
def readR (w : World) (g : Nat) (i k : Nat) : Bool := match w.cell? ⟨g, i * 256 + k, none⟩ with
  | some (.bool b) => b
  | _ => false
theorem cnt_congr {n : Nat} {R S : Nat → Nat → Bool} (h : ∀ i k, i < n → k < n → R i k = S i k) : cntR n R = cntR n S := by
  unfold cntR
  congr 1
  refine List.map_congr_left fun i hi => ?_
  congr 1
  refine List.map_congr_left fun k hk => ?_
  rw [h i k (by simpa using hi) (by simpa using hk)]
theorem read_mat {w : World} {g n : Nat} {R : Nat → Nat → Bool} (h : MatAt w g n R) (hn : n ≤ 256) : cntR n (readR w g) = cntR n R :=
  cnt_congr fun i k hi hk => by
    unfold readR
    rw [h.cell hi (show k < 256 by omega)]
/-- how many pairs are in, by the frame and the memory -/
def Dmu (n : Nat) (a : Act) (w : World) : Nat := cntR n (readR w (blkOf (a.tmps.getD 4 undef)))
/-- rows and where they lie -/
def GivesDir (w : World) (A : AU) (e : Ending) (w' : World) : Prop := ∃ a c L, e = .returned (.slice a L.length c) ∧ DirOf A L ∧ RowsAt w' a L ∧ Below w.heap.size w w'
end Go.Proofs.Ytnllgigolfakpaa
