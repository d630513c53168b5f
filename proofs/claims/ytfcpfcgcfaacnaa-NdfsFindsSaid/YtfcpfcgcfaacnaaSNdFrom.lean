/- The outer search. Conditions: a search in memory, the bounds. -/
import Derived.Test.YtfcpfcgcfaacnaaSNdFromP
namespace Go.Proofs.Ytfcpfcgcfaacnaa
open Go.RowKit
theorem frame87 (arr : Array Value) (h : arr.size = 87) : ∃ q : Nat → Value, arr = #[q 0, q 1, q 2, q 3, q 4, q 5, q 6, q 7, q 8, q 9, q 10, q 11, q 12, q 13, q 14, q 15, q 16, q 17, q 18, q 19, q 20, q 21, q 22, q 23, q 24, q 25, q 26, q 27, q 28, q 29, q 30, q 31, q 32, q 33, q 34, q 35, q 36, q 37, q 38, q 39, q 40, q 41, q 42, q 43, q 44, q 45, q 46, q 47, q 48, q 49, q 50, q 51, q 52, q 53, q 54, q 55, q 56, q 57, q 58, q 59, q 60, q 61, q 62, q 63, q 64, q 65, q 66, q 67, q 68, q 69, q 70, q 71, q 72, q 73, q 74, q 75, q 76, q 77, q 78, q 79, q 80, q 81, q 82, q 83, q 84, q 85, q 86] := by
 refine ⟨fun i => arr.toList.getD i undef, ?_⟩
 have h1 := list_get (l := arr.toList) (n := 87) (by simpa using h)
 apply Array.ext'
 exact h1
theorem SrOk.ptr {W w : World} {p sB : Nat} {Z : Zn} {b : NB} {nx : PP → List PP} {s : NS} {st : List (PP × Nat)} {k : Nat} (h : SrOk W p sB Z b nx s st k w) : w.cell? ⟨sB, 0, none⟩ = some (.pointer (some ⟨p, 0, none⟩)) := by
 obtain ⟨X, S0, S1, _, _, _, h4⟩ := h
 exact h4.row.cell 0
def fromF (b : NB) (nx : PP → List PP) (inq : PP → Bool) (s : NS) (x : PP) : NS × Option NF :=
 match comeP b s x with
 | (s1, some e) => (s1, some e)
 | (s1, none) => outerF b nx inq FO s1
theorem fromF_some {b : NB} {nx : PP → List PP} {inq : PP → Bool} {s s1 : NS} {x : PP} {e : NF} (h : comeP b s x = (s1, some e)) : fromF b nx inq s x = (s1, some e) := by
 unfold fromF
 rw [h]
theorem fromF_none {b : NB} {nx : PP → List PP} {inq : PP → Bool} {s s1 : NS} {x : PP} (h : comeP b s x = (s1, none)) : fromF b nx inq s x = outerF b nx inq FO s1 := by
 unfold fromF
 rw [h]
def FJ (K : KP) (W : World) (p sB : Nat) (b : NB) (nx : PP → List PP) (inq : PP → Bool) (vp : PP → Prop) (C E : Nat) (res : NS × Option NF) (n : Nat) (a : Act) (w : World) : Prop :=
 ∃ (m : Nat) (s : NS), n = m + 1 ∧ a.defers = [] ∧ a.tmps.size = 87 ∧ a.tmps.getD 0 undef = .pointer (some ⟨sB, 0, none⟩) ∧ a.tmps.getD 4 undef = .bool false ∧ SrOk W p sB ⟨0, 0, W, K⟩ b nx s [] s.nodes w ∧ outerF b nx inq n s = res ∧ muO C s < n ∧ NInv b nx vp s ∧ s.edges + n * (FI + 2) ≤ E
theorem FJ.of {K : KP} {W : World} {p sB : Nat} {b : NB} {nx : PP → List PP} {inq : PP → Bool} {vp : PP → Prop} {C E : Nat} {res : NS × Option NF} {n : Nat} {a : Act} {w : World} (s : NS) (h1 : a.defers = []) (h2 : a.tmps.size = 87) (h3 : a.tmps.getD 0 undef = .pointer (some ⟨sB, 0, none⟩)) (h4 : a.tmps.getD 4 undef = .bool false) (hO : SrOk W p sB ⟨0, 0, W, K⟩ b nx s [] s.nodes w) (hr : outerF b nx inq n s = res) (hm : muO C s < n) (hI : NInv b nx vp s) (hE : s.edges + n * (FI + 2) ≤ E) : FJ K W p sB b nx inq vp C E res n a w := by
 obtain ⟨m, rfl⟩ : ∃ m, n = m + 1 := ⟨n - 1, by omega⟩
 exact ⟨m, s, rfl, h1, h2, h3, h4, hO, hr, hm, hI, hE⟩
theorem adv_outer {W w : World} {p sB g : Nat} {Z : Zn} {b : NB} {nx : PP → List PP} {s : NS} {r : List (PP × Nat)} {X : SX} {S0 S1 : List SpR} {an : Option Addr} {cn k : Nat} {u : PP} (ho : s.ot = (u, k) :: r) (h1 : S0.map (·.1) = r.reverse) (h2 : S1.map (·.1) = ([] : List (PP × Nat)).reverse) (h3 : X.pn ≤ s.nodes) (hkp : ∀ a c S, Z.kp.f a c S)
  (h4 : SrAt W sB Z nx X (S0 ++ [((u, k), an, cn)]) S1 (way s.ot) s.reached s.marked (srun p b s X (S0 ++ [((u, k), an, cn)]).length S1.length) w) (hg : X.a0 = some ⟨g, 0, none⟩) {w' : World}
  (hb : Below w.heap.size ((w.setCell ⟨sB, 6, none⟩ (.int .i64 ((s.edges + 1 : Nat) : Int))).setCell ⟨g, S0.length * 5 + 4, none⟩ (.int .i64 ((k + 1 : Nat) : Int))) w') : SrOk W p sB Z b nx (atS (edgeS s) ((u, k + 1) :: r)) [] s.nodes w' := by
 have h5 := (h4.set 6 (.int .i64 ((s.edges + 1 : Nat) : Int))).step0 hg
 refine ⟨X, S0 ++ [((u, k + 1), an, cn)], S1, by rw [List.map_append, h1]; simp [atS], h2, ⟨h3, hkp _ _ _⟩, ?_⟩
 have e : ((w.setCell ⟨sB, 6, none⟩ (.int .i64 ((s.edges + 1 : Nat) : Int))).setCell ⟨g, S0.length * 5 + 4, none⟩ (.int .i64 ((k + 1 : Nat) : Int))).heap.size = w.heap.size := by simp
 have h6 := h5.below (by rw [e]; exact hb)
 have e2 : (srun p b s X (S0 ++ [((u, k), an, cn)]).length S1.length).set 6 (.int .i64 ((s.edges + 1 : Nat) : Int)) = srun p b (atS (edgeS s) ((u, k + 1) :: r)) X (S0 ++ [((u, k + 1), an, cn)]).length S1.length := by
  simp only [List.length_append, List.length_cons, List.length_nil]
  rfl
 rw [e2] at h6
 have e3 : way (atS (edgeS s) ((u, k + 1) :: r)).ot = way s.ot := by
  show way ((u, k + 1) :: r) = _
  rw [ho, way_cons, way_cons]
 rw [e3]
 exact h6
theorem cut_outer {W w : World} {p sB : Nat} {Z : Zn} {b : NB} {nx : PP → List PP} {s : NS} {r : List (PP × Nat)} {X : SX} {S0 S1 : List SpR} {an : Option Addr} {cn k : Nat} {u : PP} {n1 : Nat} (h1 : S0.map (·.1) = r.reverse) (h2 : S1.map (·.1) = ([] : List (PP × Nat)).reverse) (h3 : X.pn ≤ s.nodes) (hkp : ∀ a c S, Z.kp.f a c S)
  (h4 : SrAt W sB Z nx X (S0 ++ [((u, k), an, cn)]) S1 (way r) s.reached s.marked (srun p b s X (S0 ++ [((u, k), an, cn)]).length S1.length) w) (hn : n1 = S0.length) : SrOk W p sB Z b nx (atS s r) [] s.nodes (w.setCell ⟨sB, 10, none⟩ (.slice X.a0 n1 X.c0)) := by
 refine ⟨X, S0, S1, h1, h2, ⟨h3, hkp _ _ _⟩, ?_⟩
 subst hn
 exact h4.cut0.set 10 (.slice X.a0 S0.length X.c0)
structure TopAt (K : KP) (W : World) (p sB : Nat) (b : NB) (nx : PP → List PP) (s : NS) (r : List (PP × Nat)) (x : PP) (k g m : Nat) (w : World) : Prop where
 at_ : ∃ X S0 S1 an cn, S0.map (·.1) = r.reverse ∧ S1.map (·.1) = ([] : List (PP × Nat)).reverse ∧ X.pn ≤ s.nodes ∧ X.a0 = some ⟨g, 0, none⟩ ∧ m = S0.length ∧ SrAt W sB ⟨0, 0, W, K⟩ nx X (S0 ++ [((x, k), an, cn)]) S1 (way s.ot) s.reached s.marked (srun p b s X (S0 ++ [((x, k), an, cn)]).length S1.length) w
theorem TopAt.below {K : KP} {W w w' : World} {p sB : Nat} {b : NB} {nx : PP → List PP} {s : NS} {r : List (PP × Nat)} {x : PP} {k g m : Nat} (h : TopAt K W p sB b nx s r x k g m w) (hb : Below w.heap.size w w') : TopAt K W p sB b nx s r x k g m w' := by
 obtain ⟨X, S0, S1, an, cn, h1, h2, h3, h4, h5, h6⟩ := h.at_
 exact ⟨X, S0, S1, an, cn, h1, h2, h3, h4, h5, h6.below hb⟩
theorem TopAt.again {K : KP} {W w : World} {p sB : Nat} {b : NB} {nx : PP → List PP} {s : NS} {r : List (PP × Nat)} {x : PP} {k g m : Nat} {a0 : Option Addr} {c0 : Nat} {S : List SpR} {an : Option Addr} {cn : Nat} (h : SrOk W p sB ⟨0, 0, W, K.keep (fun a c S' => a = a0 ∧ c = c0 ∧ S' = S ++ [((x, k), an, cn)])⟩ b nx s [] s.nodes w) (ho : s.ot = (x, k) :: r) (hg : a0 = some ⟨g, 0, none⟩) (hm : m = S.length) : TopAt K W p sB b nx s r x k g m w := by
 obtain ⟨X, S0, S1, h1, h2, ⟨h3, ha, hc, rfl⟩, h4⟩ := h
 subst hg
 refine ⟨X, S, S1, an, cn, ?_, h2, h3, ha, hm, h4.forget W K.f⟩
 rw [ho, List.map_append, List.reverse_cons] at h1
 exact List.append_inj_left' h1 (by simp)
theorem TopAt.cells {K : KP} {W w : World} {p sB : Nat} {b : NB} {nx : PP → List PP} {s : NS} {r : List (PP × Nat)} {x : PP} {k g m : Nat} (h : TopAt K W p sB b nx s r x k g m w) : w.cell? ⟨g, m * 5, none⟩ = some (.int .i64 x.node) ∧ w.cell? ⟨g, m * 5 + 1, none⟩ = some (.int .i64 x.state) ∧ w.cell? ⟨g, m * 5 + 2, none⟩ = some (.int .i64 x.turn) ∧ w.cell? ⟨sB, 0, none⟩ = some (.pointer (some ⟨p, 0, none⟩)) ∧ g ≠ sB ∧ sB < w.heap.size ∧ g < w.heap.size := by
 obtain ⟨X, S0, S1, an, cn, h1, h2, h3, h4, rfl, h6⟩ := h.at_
 have hown := h6.own0
 rw [h4] at hown
 obtain ⟨c0, c1, c2, _⟩ := last_cells hown
 exact ⟨c0, c1, c2, h6.row.cell 0, h6.apart.2.2.2.1 g (by rw [h4]; rfl), h6.row.lt, World.block_lt_of_cell? w _ c0⟩
theorem TopAt.held {K : KP} {W w : World} {p sB : Nat} {b : NB} {nx : PP → List PP} {s : NS} {r : List (PP × Nat)} {x : PP} {k g m : Nat} (h : TopAt K W p sB b nx s r x k g m w) : w.cell? ⟨sB, 0, none⟩ = some (.pointer (some ⟨p, 0, none⟩)) ∧ w.cell? ⟨g, m * 5, none⟩ = some (.int .i64 x.node) ∧ w.cell? ⟨g, m * 5 + 1, none⟩ = some (.int .i64 x.state) ∧ w.cell? ⟨g, m * 5 + 2, none⟩ = some (.int .i64 x.turn) := by
 obtain ⟨u0, u1, u2, u3, _⟩ := h.cells
 exact ⟨u3, u0, u1, u2⟩
structure DropAt (K : KP) (W : World) (p sB : Nat) (b : NB) (nx : PP → List PP) (s : NS) (r : List (PP × Nat)) (g m cap : Nat) (w : World) : Prop where
 hi : m + 1 ≤ cap
 c10 : w.cell? ⟨sB, 10, none⟩ = some (.slice (some ⟨g, 0, none⟩) (m + 1) cap)
 f10 : w.frozen? ⟨sB, 10, none⟩ = false
 lt : sB < w.heap.size
 fin : SrOk W p sB ⟨0, 0, W, K⟩ b nx (atS s r) [] s.nodes (w.setCell ⟨sB, 10, none⟩ (.slice (some ⟨g, 0, none⟩) m cap))
theorem TopAt.drop {K : KP} (hK : ∀ a c S, K.f a c S) {W w : World} {p sB : Nat} {b : NB} {nx : PP → List PP} {s : NS} {r : List (PP × Nat)} {x : PP} {k g m : Nat} (h : TopAt K W p sB b nx s r x k g m w) (ho : s.ot = (x, k) :: r) :
  ∃ mp, w.cell? ⟨sB, 12, none⟩ = some (.map (some mp)) ∧ ∃ w' cap, (Builtin.delete_ #[104, 82] 0 #[.map (some mp), .agg #[.int .i64 x.node, .int .i64 x.state, .int .i64 x.turn]]).run Try.prog w.drew = .ok (.tuple #[]) w' ∧ w.drew.grownBy w' (some mp) ∧ DropAt K W p sB b nx s r g m cap w' ∧ DropAt K W p sB b nx s r g m cap w'.drew := by
 obtain ⟨X, S0, S1, an, cn, h1, h2, h3, h4, rfl, h6⟩ := h.at_
 have hd := h6.below (Below.refl _ _).drew
 have hw : way s.ot = way r ++ [x] := by rw [ho, way_cons]
 have hmp := hd.mp
 rw [hw] at hmp
 obtain ⟨w', hrun, hm, hg⟩ := hmp.drop 0
 simp only [ppv] at hrun
 have h7 := hd.putP hg hm
 have all : ∀ v, Below w'.heap.size w' v → DropAt K W p sB b nx s r g S0.length X.c0 v := fun v hv => by
  have h8 := h7.below hv
  have hown := h8.own0
  refine ⟨?_, ?_, h8.row.free 10, h8.row.lt, ?_⟩
  ·have := (OwnR.caps hown).1
   simpa using this
  ·have := h8.row.cell 10
   rw [this]
   simp only [srun, srow, List.length_append, List.length_cons, List.length_nil]
   rw [← h4]
   rfl
  ·have := cut_outer (n1 := S0.length) h1 h2 h3 (Z := ⟨0, 0, W, K⟩) hK h8 rfl
   rw [← h4]
   exact this
 exact ⟨X.mp, h6.row.cell 12, w', X.c0, hrun, hg, all _ (Below.refl _ _), all _ (Below.refl _ _).drew⟩
end Go.Proofs.Ytfcpfcgcfaacnaa
