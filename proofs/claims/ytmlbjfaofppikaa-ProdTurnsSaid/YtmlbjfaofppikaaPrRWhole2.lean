/- The document's Whole, all of it. Conditions: a small graph, and the bounds of an argument. -/
import Derived.Test.YtmlbjfaofppikaaPrRWhole
namespace Go.Proofs.Ytmlbjfaofppikaa
open Go.RowKit

set_option maxRecDepth 20000 in
set_option maxHeartbeats 4000000 in
theorem rwhole_no (w : World) (X : RX) (G : GR) (sets : List (List Bool)) (A : AU) (m : Int) (L : LawIn w X G sets A) (hn : newB G sets A = false) :
    Calls Try.prog 24 #[gv X G, .slice X.as_ sets.length X.cs, av X A, .int .i64 m] w (Whole4 2 [] ⟨[], [], [], []⟩ w) := by
  obtain ⟨ai, ae, al, as_, bi, bn, ci, ce, cl, cs, di, dn⟩ := X
  obtain ⟨w3, hw3⟩ : ∃ w3, w3 = ((w.alloc (.cells #[.slice ai G.init.length ci, .slice ae G.edges.length ce, .slice al G.labels.length cl] TG)).alloc (.cells #[.int .i64 A.sets, .slice bi A.init.length di, .slice bn A.nodes.length dn] TA)).alloc (.cells #[.slice none 0 0, .slice none 0 0, .slice none 0 0] TG) := ⟨_, rfl⟩
  have hb3 : Below w.heap.size w w3 := by rw [hw3]; exact balloc (balloc (balloc (Below.refl _ _) _) _) _
  have rg : RowAt w3 w.heap.size TG [.slice ai G.init.length ci, .slice ae G.edges.length ce, .slice al G.labels.length cl] := by rw [hw3]; exact ((RowAt.new #[_, _, _] rfl).alloc _).alloc _
  have ra : RowAt w3 (w.heap.size + 1) TA [.int .i64 A.sets, .slice bi A.init.length di, .slice bn A.nodes.length dn] := by rw [hw3]; exact (RowAt.new #[_, _, _] (by simp)).alloc _
  have rr : RowAt w3 (w.heap.size + 1 + 1) TG gz := by rw [hw3]; exact RowAt.new #[_, _, _] (by simp)
  have RN : Hid (Calls Try.prog 11 #[.agg #[.slice ai G.init.length ci, .slice ae G.edges.length ce, .slice al G.labels.length cl], .slice as_ sets.length cs, .agg #[.int .i64 A.sets, .slice bi A.init.length di, .slice bn A.nodes.length dn]] w3 fun e w' => e = .returned (.tuple #[.agg #[.slice none 0 0, .slice none 0 0, .slice none 0 0, .slice none 0 0, .int .i64 0, .slice none 0 0, .slice none 0 0], .bool false]) ∧ Below w3.heap.size w3 w') := by
    have := rnew_any w3 ⟨ai, ae, al, as_, bi, bn, ci, ce, cl, cs, di, dn⟩ G sets A (L.g.below hb3) L.ok (L.s.below hb3) (L.au.below hb3) L.aok
    rw [hn] at this
    exact this
  have g0 : w3.cell? ⟨w.heap.size, 0, none⟩ = some (.slice ai G.init.length ci) := rg.cell 0
  have g1 : w3.cell? ⟨w.heap.size, 1, none⟩ = some (.slice ae G.edges.length ce) := rg.cell 1
  have g2 : w3.cell? ⟨w.heap.size, 2, none⟩ = some (.slice al G.labels.length cl) := rg.cell 2
  have a0 : w3.cell? ⟨w.heap.size + 1, 0, none⟩ = some (.int .i64 A.sets) := ra.cell 0
  have a1 : w3.cell? ⟨w.heap.size + 1, 1, none⟩ = some (.slice bi A.init.length di) := ra.cell 1
  have a2 : w3.cell? ⟨w.heap.size + 1, 2, none⟩ = some (.slice bn A.nodes.length dn) := ra.cell 2
  have HW := Lib.hid hw3
  replace hb3 := Lib.hid hb3
  replace rr := Lib.hid rr
  clear L hn hw3 rg ra
  go_enter Try.func24, Try.ntmps24
  go_wp2_with fail
  rw [← HW.out]
  clear HW
  refine RN.out.mono ?_
  rintro e w4 ⟨rfl, hb4⟩
  have hb5 : Below w4.heap.size w4 (w4.alloc (.cells #[.slice none 0 0, .slice none 0 0, .slice none 0 0, .slice none 0 0, .int .i64 0, .slice none 0 0, .slice none 0 0] TRP)) := balloc (Below.refl _ _) _
  have rr4 := Lib.hid (rr.out.below (btrans hb4 hb5))
  have hbz := Lib.hid (btrans hb3.out (btrans hb4 hb5))
  clear g0 g1 g2 a0 a1 a2 RN rr hb3 hb4 hb5
  have c0 := rr4.out.cell 0
  have c1 := rr4.out.cell 1
  have c2 := rr4.out.cell 2
  have f0 := rr4.out.free 0
  have f1 := rr4.out.free 1
  have f2 := rr4.out.free 2
  simp only [List.getElem?_cons_zero, List.getElem?_cons_succ] at c0 c1 c2
  go_wp2
  refine bodyPost_ret (v := .tuple #[.agg #[.slice none 0 0, .slice none 0 0, .slice none 0 0], .slice none 0 0, .slice none 0 0, .int .i64 2]) (by simp [results, Try.results24, go_sem, c0, c1, c2]) rfl (whole_err 2 ?_)
  exact bsetN (bsetN (bsetN hbz.out (by omega)) (by omega)) (by omega)
theorem rwhole_any (w : World) (X : RX) (G : GR) (sets : List (List Bool)) (A : AU) (m : Int) (L : LawIn w X G sets A) (lt : Lt G sets A) :
    Calls Try.prog 24 #[gv X G, .slice X.as_ sets.length X.cs, av X A, .int .i64 m] w (Whole4 (wholeP G sets A m).1 (wholeP G sets A m).2.1 (wholeP G sets A m).2.2 w) := by
  cases hn : newB G sets A with
  | false =>
    have h := rwhole_no w X G sets A m L hn
    have e : wholeP G sets A m = (2, [], ⟨[], [], [], []⟩) := by unfold wholeP; rw [hn]; rfl
    rw [e]
    exact h
  | true =>
    have h := rwhole_yes w X G sets A m L lt hn _ rfl
    have e : wholeP G sets A m = match (if most' m < ((firstP G A).length : Int) then none else wholeL G sets A (most' m) 65540 0 ⟨firstP G A, [], [], []⟩) with
      | none => (11, [], ⟨[], [], [], []⟩)
      | some s => (0, upTo (firstP G A).length, s) := by
      unfold wholeP
      rw [hn, if_pos rfl]
      by_cases hm : m < 0
      · have hmm : most' m < ((firstP G A).length : Int) := by unfold most'; split <;> omega
        rw [if_pos hm, if_pos hmm]
      · rw [if_neg hm]
        by_cases hmm : most' m < ((firstP G A).length : Int)
        · rw [if_pos hmm]
          have h0 : 0 ≤ most' m := by unfold most'; split <;> omega
          rw [wholeL_more (s := ⟨firstP G A, [], [], []⟩) (by show 0 < (firstP G A).length; omega) hmm]
        · rw [if_neg hmm]
          cases wholeL G sets A (most' m) 65540 0 ⟨firstP G A, [], [], []⟩ <;> rfl
    rw [e]
    refine h.mono fun e' w' hh => ?_
    rcases hh with ⟨h1, h2⟩ | ⟨s, h1, h2⟩
    · rw [h1]; exact h2
    · rw [h1]; exact h2
end Go.Proofs.Ytmlbjfaofppikaa
