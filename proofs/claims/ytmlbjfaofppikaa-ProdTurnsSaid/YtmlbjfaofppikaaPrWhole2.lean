/- The program's Whole, of whatever source. Conditions: a small graph, and the bounds of an argument. -/
import Derived.Test.YtmlbjfaofppikaaPrWhole
namespace Go.Proofs.Ytmlbjfaofppikaa
open Go.RowKit

/-- what Graph gave -/
def SrcV (w : World) (G : GR) (sets : List (List Bool)) (v : Value) : Prop :=
  (srcB G sets = true ∧ ∃ f, v = .iface TFp (.pointer (some ⟨f, 0, none⟩)) ∧ FxAt w f G (inbits G.edges.length sets) sets.length) ∨ (srcB G sets = false ∧ v = .nilIface)
theorem SrcMade.v {G : GR} {sets : List (List Bool)} {w w' : World} {e : Ending} (h : SrcMade G sets w e w') : ∃ v, e = .returned v ∧ SrcV w' G sets v := by
  rcases h.2 with ⟨h1, f, h2, h3⟩ | ⟨h1, h2⟩
  · exact ⟨_, h2, .inl ⟨h1, f, rfl, h3⟩⟩
  · exact ⟨_, h2, .inr ⟨h1, rfl⟩⟩
theorem SrcV.below {w w' : World} {G : GR} {sets : List (List Bool)} {v : Value} (h : SrcV w G sets v) (hb : Below w.heap.size w w') : SrcV w' G sets v := by
  rcases h with ⟨h1, f, h2, h3⟩ | h
  · exact .inl ⟨h1, f, h2, h3.below hb⟩
  · exact .inr h
/-- New, of whatever source -/
theorem new_v (w : World) (ai an : Option Addr) (ci cn : Nat) (G : GR) (sets : List (List Bool)) (A : AU) (v : Value) (hv : SrcV w G sets v) (ok : GOk G) (hA : AuAt w ai A.init.length an A.nodes.length A) (aok : AuOk A) :
    Calls Try.prog 13 #[v, auv ai an ci cn A] w (NewMade G sets A w) := by
  rcases hv with ⟨h1, f, rfl, hF⟩ | ⟨h1, rfl⟩
  · exact new_any w ai an ci cn f G sets A hF h1 ok hA aok
  · refine (new_nil w ai an ci cn A).mono ?_
    rintro e w' ⟨rfl, hb⟩
    exact ⟨hb, .inr ⟨by unfold newB; rw [h1]; rfl, rfl⟩⟩
set_option maxRecDepth 20000 in
set_option maxHeartbeats 4000000 in
theorem whole_no (w : World) (ai an : Option Addr) (ci cn : Nat) (G : GR) (sets : List (List Bool)) (A : AU) (m : Int) (v : Value) (hv : SrcV w G sets v) (ok : GOk G) (hA : AuAt w ai A.init.length an A.nodes.length A) (aok : AuOk A) (hn : newB G sets A = false) :
    Calls Try.prog 23 #[v, .agg #[.int .i64 A.sets, .slice ai A.init.length ci, .slice an A.nodes.length cn], .int .i64 m] w (Whole4 2 [] ⟨[], [], [], []⟩ w) := by
  obtain ⟨w2, hw2⟩ : ∃ w2, w2 = (w.alloc (.cells #[.int .i64 A.sets, .slice ai A.init.length ci, .slice an A.nodes.length cn] TA)).alloc (.cells #[.slice none 0 0, .slice none 0 0, .slice none 0 0] TG) := ⟨_, rfl⟩
  have hb2 : Below w.heap.size w w2 := by rw [hw2]; exact balloc (balloc (Below.refl _ _) _) _
  have ra : RowAt w2 w.heap.size TA [.int .i64 A.sets, .slice ai A.init.length ci, .slice an A.nodes.length cn] := by rw [hw2]; exact (RowAt.new #[_, _, _] rfl).alloc _
  have rr : RowAt w2 (w.heap.size + 1) TG gz := by rw [hw2]; exact RowAt.new #[_, _, _] (by simp)
  have NW : Hid (Calls Try.prog 13 #[v, .agg #[.int .i64 A.sets, .slice ai A.init.length ci, .slice an A.nodes.length cn]] w2 (NewMade G sets A w2)) := new_v w2 ai an ci cn G sets A v (hv.below hb2) ok (hA.below hb2) aok
  have a0 : w2.cell? ⟨w.heap.size, 0, none⟩ = some (.int .i64 A.sets) := ra.cell 0
  have a1 : w2.cell? ⟨w.heap.size, 1, none⟩ = some (.slice ai A.init.length ci) := ra.cell 1
  have a2 : w2.cell? ⟨w.heap.size, 2, none⟩ = some (.slice an A.nodes.length cn) := ra.cell 2
  replace hb2 := Lib.hid hb2
  replace rr := Lib.hid rr
  have HW := Lib.hid hw2
  replace hn := Lib.hid hn
  clear hv ok hA aok hw2 ra
  go_enter Try.func23, Try.ntmps23
  go_wp2_with fail
  rw [← HW.out]
  clear HW
  refine NW.out.mono ?_
  rintro e w3 ⟨hb3, h3⟩
  replace h3 := Lib.hid h3
  obtain rfl : e = .returned (.pointer none) := by
    rcases h3.out with ⟨h1, _⟩ | ⟨_, h1⟩
    · rw [hn.out] at h1; cases h1
    · exact h1
  have hbz := Lib.hid (btrans hb2.out hb3)
  have rr4 := Lib.hid (rr.out.below hb3)
  have c0 : w3.cell? ⟨w.heap.size + 1, 0, none⟩ = some (.slice none 0 0) := rr4.out.cell 0
  have c1 : w3.cell? ⟨w.heap.size + 1, 1, none⟩ = some (.slice none 0 0) := rr4.out.cell 1
  have c2 : w3.cell? ⟨w.heap.size + 1, 2, none⟩ = some (.slice none 0 0) := rr4.out.cell 2
  have f0 := rr4.out.free 0
  have f1 := rr4.out.free 1
  have f2 := rr4.out.free 2
  clear h3 a0 a1 a2 NW hb3 rr
  go_wp2
  refine bodyPost_ret (v := .tuple #[.agg #[.slice none 0 0, .slice none 0 0, .slice none 0 0], .slice none 0 0, .slice none 0 0, .int .i64 2]) (by simp [results, Try.results23, go_sem, c0, c1, c2]) rfl (whole_err 2 ?_)
  exact bsetN (bsetN (bsetN hbz.out (by omega)) (by omega)) (by omega)
set_option maxRecDepth 20000 in
set_option maxHeartbeats 4000000 in
theorem whole_neg (w : World) (ai an : Option Addr) (ci cn : Nat) (G : GR) (sets : List (List Bool)) (A : AU) (m : Int) (v : Value) (hv : SrcV w G sets v) (ok : GOk G) (hA : AuAt w ai A.init.length an A.nodes.length A) (aok : AuOk A) (hn : newB G sets A = true) (hm : m < 0) :
    Calls Try.prog 23 #[v, .agg #[.int .i64 A.sets, .slice ai A.init.length ci, .slice an A.nodes.length cn], .int .i64 m] w (Whole4 11 [] ⟨[], [], [], []⟩ w) := by
  obtain ⟨w2, hw2⟩ : ∃ w2, w2 = (w.alloc (.cells #[.int .i64 A.sets, .slice ai A.init.length ci, .slice an A.nodes.length cn] TA)).alloc (.cells #[.slice none 0 0, .slice none 0 0, .slice none 0 0] TG) := ⟨_, rfl⟩
  have hb2 : Below w.heap.size w w2 := by rw [hw2]; exact balloc (balloc (Below.refl _ _) _) _
  have ra : RowAt w2 w.heap.size TA [.int .i64 A.sets, .slice ai A.init.length ci, .slice an A.nodes.length cn] := by rw [hw2]; exact (RowAt.new #[_, _, _] rfl).alloc _
  have rr : RowAt w2 (w.heap.size + 1) TG gz := by rw [hw2]; exact RowAt.new #[_, _, _] (by simp)
  have NW : Hid (Calls Try.prog 13 #[v, .agg #[.int .i64 A.sets, .slice ai A.init.length ci, .slice an A.nodes.length cn]] w2 (NewMade G sets A w2)) := new_v w2 ai an ci cn G sets A v (hv.below hb2) ok (hA.below hb2) aok
  have a0 : w2.cell? ⟨w.heap.size, 0, none⟩ = some (.int .i64 A.sets) := ra.cell 0
  have a1 : w2.cell? ⟨w.heap.size, 1, none⟩ = some (.slice ai A.init.length ci) := ra.cell 1
  have a2 : w2.cell? ⟨w.heap.size, 2, none⟩ = some (.slice an A.nodes.length cn) := ra.cell 2
  have hmm := @run_makeMap Try.prog
  have hmd : decide (m < 0) = true := by simpa using hm
  replace hb2 := Lib.hid hb2
  replace rr := Lib.hid rr
  have HW := Lib.hid hw2
  replace hn := Lib.hid hn
  clear hv ok hA aok hw2 ra hm
  go_enter Try.func23, Try.ntmps23
  go_wp2_with fail
  rw [← HW.out]
  clear HW
  refine NW.out.mono ?_
  rintro e w3 ⟨hb3, h3⟩
  replace h3 := Lib.hid h3
  obtain ⟨p, rfl⟩ : ∃ p, e = .returned (.pointer (some ⟨p, 0, none⟩)) := by
    rcases h3.out with ⟨_, p, h1, _⟩ | ⟨h1, _⟩
    · exact ⟨p, h1⟩
    · rw [hn.out] at h1; cases h1
  have hb4 : Below w3.heap.size w3 ((w3.alloc (.cells #[.slice none 0 0, .slice none 0 0, .slice none 0 0] TG)).alloc (.map #[] 0)) := balloc (balloc (Below.refl _ _) _) _
  have hbz := Lib.hid (btrans (btrans hb2.out hb3) hb4)
  have rr4 := Lib.hid ((rr.out.below hb3).below hb4)
  clear h3 a0 a1 a2 NW hb3 rr
  generalize hw4 : ((w3.alloc (.cells #[.slice none 0 0, .slice none 0 0, .slice none 0 0] TG)).alloc (.map #[] 0)) = w4 at hbz rr4 hb4
  have c0 : w4.cell? ⟨w.heap.size + 1, 0, none⟩ = some (.slice none 0 0) := rr4.out.cell 0
  have c1 : w4.cell? ⟨w.heap.size + 1, 1, none⟩ = some (.slice none 0 0) := rr4.out.cell 1
  have c2 : w4.cell? ⟨w.heap.size + 1, 2, none⟩ = some (.slice none 0 0) := rr4.out.cell 2
  have f0 := rr4.out.free 0
  have f1 := rr4.out.free 1
  have f2 := rr4.out.free 2
  subst hw4
  clear hb4
  go_wp2
  refine bodyPost_ret (v := .tuple #[.agg #[.slice none 0 0, .slice none 0 0, .slice none 0 0], .slice none 0 0, .slice none 0 0, .int .i64 11]) (by simp [results, Try.results23, go_sem, c0, c1, c2]) rfl (whole_err 11 ?_)
  exact bsetN (bsetN (bsetN hbz.out (by omega)) (by omega)) (by omega)
theorem newB_split {G : GR} {sets : List (List Bool)} {A : AU} (h : newB G sets A = true) : srcB G sets = true ∧ chk A = 0 := by
  unfold newB at h
  rw [Bool.and_eq_true] at h
  exact ⟨h.1, of_decide_eq_true h.2⟩
/-- Whole -/
theorem whole_any (w : World) (ai an : Option Addr) (ci cn : Nat) (G : GR) (sets : List (List Bool)) (A : AU) (m : Int) (v : Value) (hv : SrcV w G sets v) (ok : GOk G) (hA : AuAt w ai A.init.length an A.nodes.length A) (aok : AuOk A) (lt : Lt G sets A) :
    Calls Try.prog 23 #[v, .agg #[.int .i64 A.sets, .slice ai A.init.length ci, .slice an A.nodes.length cn], .int .i64 m] w (Whole4 (wholeP G sets A m).1 (wholeP G sets A m).2.1 (wholeP G sets A m).2.2 w) := by
  cases hn : newB G sets A with
  | false =>
    have h := whole_no w ai an ci cn G sets A m v hv ok hA aok hn
    have e : wholeP G sets A m = (2, [], ⟨[], [], [], []⟩) := by unfold wholeP; rw [hn]; rfl
    rw [e]
    exact h
  | true =>
    obtain ⟨hs, hc⟩ := newB_split hn
    by_cases hm : m < 0
    · have h := whole_neg w ai an ci cn G sets A m v hv ok hA aok hn hm
      have e : wholeP G sets A m = (11, [], ⟨[], [], [], []⟩) := by unfold wholeP; rw [hn, if_pos rfl, if_pos hm]
      rw [e]
      exact h
    · rcases hv with ⟨_, f, rfl, hF⟩ | ⟨h1, _⟩
      · have h := whole_yes w ai an ci cn f G sets A m hF hs ok hA aok lt hc (by omega) _ rfl
        have e : wholeP G sets A m = match wholeL G sets A (most' m) 65540 0 ⟨firstP G A, [], [], []⟩ with
          | none => (11, [], ⟨[], [], [], []⟩)
          | some s => (0, upTo (firstP G A).length, s) := by unfold wholeP; rw [hn, if_pos rfl, if_neg hm]; cases wholeL G sets A (most' m) 65540 0 ⟨firstP G A, [], [], []⟩ <;> rfl
        rw [e]
        refine h.mono fun e w' hh => ?_
        rcases hh with ⟨h1, h2⟩ | ⟨s, h1, h2⟩
        · rw [h1]; exact h2
        · rw [h1]; exact h2
      · rw [hs] at h1; cases h1
end Go.Proofs.Ytmlbjfaofppikaa
