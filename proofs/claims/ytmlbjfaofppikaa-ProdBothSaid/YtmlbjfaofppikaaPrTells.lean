/- The walk of 'ProdTells'. No conditions but the form's reach. -/
import Derived.Test.YtmlbjfaofppikaaPrArg
import Derived.Test.YtmlbjfaofppikaaPrRin
import Derived.Deep.RegionHeld3
namespace Go.Proofs.Ytmlbjfaofppikaa
open Go.RowKit

theorem edv_two (E : Option PR) : ∃ u v : Int, edv E = .agg #[.int .i64 u, .int .i64 v] := by
  cases E with
  | none => exact ⟨0, 0, rfl⟩
  | some e => exact ⟨e.1, e.2, rfl⟩
abbrev gcells (X : RX) (G : GR) : List Value := [.slice X.ai G.init.length X.ci, .slice X.ae G.edges.length X.ce, .slice X.al G.labels.length X.cl]
abbrev acells (X : RX) (A : AU) : List Value := [.int .i64 A.sets, .slice X.bi A.init.length X.di, .slice X.bn A.nodes.length X.dn]
/-- what a law's argument brings along -/
structure LawIn (W : World) (X : RX) (G : GR) (sets : List (List Bool)) (A : AU) : Prop where
  g : GAt W X.ai X.ae X.al G
  s : SetsAt W X.as_ sets
  au : AuAt W X.bi A.init.length X.bn A.nodes.length A
  ok : GOk G
  aok : AuOk A
theorem LawIn.of {W : World} {c : Array Value} {G : GR} (h : rGR W c.toList G) {v : Value} {sets : List (List Bool)} (hv : rSl 1 24 (rSl 1 1 rBool) W [v] sets) {ca : Array Value} {A : AU} (ha : rAU W ca.toList A) :
    ∃ X : RX, c = (gcells X G).toArray ∧ v = .slice X.as_ sets.length X.cs ∧ ca = (acells X A).toArray ∧ LawIn W X G sets A := by
  obtain ⟨ai, ci, ae, ce, al, cl, hc, hG, ok⟩ := GAt.of_rGR h
  obtain ⟨as_, cs, rfl, hS⟩ := SetsAt.of_rSl hv
  obtain ⟨bi, di, bn, dn, hca, hA, aok, _, _⟩ := AuAt.of_rAU ha
  exact ⟨⟨ai, ae, al, as_, bi, bn, ci, ce, cl, cs, di, dn⟩, by cases c; simpa using hc, rfl, by cases ca; simpa using hca, hG, hS, hA, ok, aok⟩
theorem same_yes (w : World) (a b : Option Addr) (c d : Nat) (l : List PP) (ha : PpsAt w a l) (hb : PpsAt w b l) (hl : l.length ≤ 1000000) :
    Calls Try.prog 19 #[.slice a l.length c, .slice b l.length d] w fun e w' => e = .returned (.bool true) ∧ Below w.heap.size w w' := by
  have h := same_any w a b c d l l ha hb hl
  rw [decide_eq_true rfl] at h
  exact h
theorem firstP_len {G : GR} {sets : List (List Bool)} {A : AU} (lt : Lt G sets A) : (firstP G A).length ≤ 96 := by
  have h := firstTo_len G A G.init
  have h1 := lt.i
  have h2 := lt.ai
  have h3 : G.init.length * A.init.length ≤ 12 * 8 := Nat.mul_le_mul h1 h2
  show (firstTo G A G.init).length ≤ 96
  omega
/-- a law's arguments, laid in boxes -/
structure Boxed (W : World) (X : RX) (G : GR) (A : AU) (x : PP × PP) (w : World) : Prop where
  below : Below W.heap.size W w
  rg : RowAt w W.heap.size TG (gcells X G)
  ra : RowAt w (W.heap.size + 1) TA (acells X A)
  rx : RowAt w (W.heap.size + 1 + 1) TP2 [.int .i64 x.1.node, .int .i64 x.1.state, .int .i64 x.1.turn, .int .i64 x.2.node, .int .i64 x.2.state, .int .i64 x.2.turn]
theorem Boxed.next {W : World} {X : RX} {G : GR} {A : AU} {x : PP × PP} {w w' : World} (h : Boxed W X G A x w) (hb : Below w.heap.size w w') : Boxed W X G A x w' := ⟨btrans h.below hb, h.rg.below hb, h.ra.below hb, h.rx.below hb⟩
theorem Boxed.start (W : World) (X : RX) (G : GR) (A : AU) (x : PP × PP) : Boxed W X G A x (((W.alloc (.cells (gcells X G).toArray TG)).alloc (.cells (acells X A).toArray TA)).alloc (.cells #[.int .i64 x.1.node, .int .i64 x.1.state, .int .i64 x.1.turn, .int .i64 x.2.node, .int .i64 x.2.state, .int .i64 x.2.turn] TP2)) :=
  ⟨balloc (balloc (balloc (Below.refl _ _) _) _) _, ((RowAt.new (gcells X G).toArray rfl).alloc _).alloc _, (RowAt.new (acells X A).toArray (by simp)).alloc _, RowAt.new #[_, _, _, _, _, _] (by simp)⟩
set_option maxRecDepth 20000 in
set_option maxHeartbeats 4000000 in
theorem tells_dark (W : World) (X : RX) (G : GR) (sets : List (List Bool)) (A : AU) (x : PP × PP) (h : LawIn W X G sets A) (hl : lightB G sets A = false) :
    Calls Try.prog 3 #[.agg (gcells X G).toArray, .slice X.as_ sets.length X.cs, .agg (acells X A).toArray, .agg #[.int .i64 x.1.node, .int .i64 x.1.state, .int .i64 x.1.turn, .int .i64 x.2.node, .int .i64 x.2.state, .int .i64 x.2.turn]] W fun e w' => e = .returned (.bool true) ∧ Below W.heap.size W w' := by
  obtain ⟨ai, ae, al, as_, bi, bn, ci, ce, cl, cs, di, dn⟩ := X
  obtain ⟨⟨p0, p1, p2⟩, ⟨q0, q1, q2⟩⟩ := x
  have B0 := Boxed.start W ⟨ai, ae, al, as_, bi, bn, ci, ce, cl, cs, di, dn⟩ G A (⟨p0, p1, p2⟩, ⟨q0, q1, q2⟩)
  have LI : Hid (∀ w, Below W.heap.size W w → Calls Try.prog 8 #[.agg #[.slice ai G.init.length ci, .slice ae G.edges.length ce, .slice al G.labels.length cl], .slice as_ sets.length cs, .agg #[.int .i64 A.sets, .slice bi A.init.length di, .slice bn A.nodes.length dn]] w fun e w' => e = .returned (.bool false) ∧ Below w.heap.size w w') := fun w hb => by
    rw [← hl]
    exact light_any w ⟨ai, ae, al, as_, bi, bn, ci, ce, cl, cs, di, dn⟩ G sets A (h.g.below hb) (h.au.below hb)
  have CB : Hid (∀ w, Boxed W ⟨ai, ae, al, as_, bi, bn, ci, ce, cl, cs, di, dn⟩ G A (⟨p0, p1, p2⟩, ⟨q0, q1, q2⟩) w → w.cell? ⟨W.heap.size, 0, none⟩ = some (.slice ai G.init.length ci) ∧ w.cell? ⟨W.heap.size, 1, none⟩ = some (.slice ae G.edges.length ce) ∧ w.cell? ⟨W.heap.size, 2, none⟩ = some (.slice al G.labels.length cl) ∧ w.cell? ⟨W.heap.size + 1, 0, none⟩ = some (.int .i64 A.sets) ∧ w.cell? ⟨W.heap.size + 1, 1, none⟩ = some (.slice bi A.init.length di) ∧ w.cell? ⟨W.heap.size + 1, 2, none⟩ = some (.slice bn A.nodes.length dn)) := fun w hB => ⟨hB.rg.cell 0, hB.rg.cell 1, hB.rg.cell 2, hB.ra.cell 0, hB.ra.cell 1, hB.ra.cell 2⟩
  have CX : Hid (∀ w, Boxed W ⟨ai, ae, al, as_, bi, bn, ci, ce, cl, cs, di, dn⟩ G A (⟨p0, p1, p2⟩, ⟨q0, q1, q2⟩) w → w.cell? ⟨W.heap.size + 1 + 1, 0, none⟩ = some (.int .i64 p0) ∧ w.cell? ⟨W.heap.size + 1 + 1, 1, none⟩ = some (.int .i64 p1) ∧ w.cell? ⟨W.heap.size + 1 + 1, 2, none⟩ = some (.int .i64 p2) ∧ w.cell? ⟨W.heap.size + 1 + 1, 3, none⟩ = some (.int .i64 q0) ∧ w.cell? ⟨W.heap.size + 1 + 1, 4, none⟩ = some (.int .i64 q1) ∧ w.cell? ⟨W.heap.size + 1 + 1, 5, none⟩ = some (.int .i64 q2)) := fun w hB => ⟨hB.rx.cell 0, hB.rx.cell 1, hB.rx.cell 2, hB.rx.cell 3, hB.rx.cell 4, hB.rx.cell 5⟩
  obtain ⟨w3, hw3⟩ : ∃ w3, w3 = (((W.alloc (.cells #[.slice ai G.init.length ci, .slice ae G.edges.length ce, .slice al G.labels.length cl] TG)).alloc (.cells #[.int .i64 A.sets, .slice bi A.init.length di, .slice bn A.nodes.length dn] TA)).alloc (.cells #[.int .i64 p0, .int .i64 p1, .int .i64 p2, .int .i64 q0, .int .i64 q1, .int .i64 q2] TP2)) := ⟨_, rfl⟩
  have B3 : Boxed W ⟨ai, ae, al, as_, bi, bn, ci, ce, cl, cs, di, dn⟩ G A (⟨p0, p1, p2⟩, ⟨q0, q1, q2⟩) w3 := by rw [hw3]; exact B0
  obtain ⟨g0, g1, g2, a0, a1, a2⟩ := CB.out w3 B3
  have HW := Lib.hid hw3
  replace B3 := Lib.hid B3
  clear B0 hw3
  clear h hl
  go_enter Try.func3, Try.ntmps3
  go_wp2_with fail
  rw [← HW.out]
  clear HW
  refine (LI.out _ B3.out.below).mono ?_
  rintro e w4 ⟨rfl, hb4⟩
  have B4 := Lib.hid (B3.out.next hb4)
  clear g0 g1 g2 a0 a1 a2 hb4 LI
  go_wp2_with fail
  refine (awake_true _).mono ?_
  rintro e w5 ⟨rfl, hb5⟩
  go_wp2
  go_ret
  exact ⟨rfl, btrans B4.out.below hb5⟩
set_option maxRecDepth 20000 in
set_option maxHeartbeats 8000000 in
theorem tells_nosrc (W : World) (X : RX) (G : GR) (sets : List (List Bool)) (A : AU) (x : PP × PP) (h : LawIn W X G sets A) (hl : lightB G sets A = true) (hs : srcB G sets = false) :
    Calls Try.prog 3 #[.agg (gcells X G).toArray, .slice X.as_ sets.length X.cs, .agg (acells X A).toArray, .agg #[.int .i64 x.1.node, .int .i64 x.1.state, .int .i64 x.1.turn, .int .i64 x.2.node, .int .i64 x.2.state, .int .i64 x.2.turn]] W fun e w' => e = .returned (.bool true) ∧ Below W.heap.size W w' := by
  have hn : newB G sets A = false := by unfold newB; rw [hs]; rfl
  obtain ⟨ai, ae, al, as_, bi, bn, ci, ce, cl, cs, di, dn⟩ := X
  obtain ⟨⟨p0, p1, p2⟩, ⟨q0, q1, q2⟩⟩ := x
  have B0 := Boxed.start W ⟨ai, ae, al, as_, bi, bn, ci, ce, cl, cs, di, dn⟩ G A (⟨p0, p1, p2⟩, ⟨q0, q1, q2⟩)
  have LI : Hid (∀ w, Below W.heap.size W w → Calls Try.prog 8 #[.agg #[.slice ai G.init.length ci, .slice ae G.edges.length ce, .slice al G.labels.length cl], .slice as_ sets.length cs, .agg #[.int .i64 A.sets, .slice bi A.init.length di, .slice bn A.nodes.length dn]] w fun e w' => e = .returned (.bool true) ∧ Below w.heap.size w w') := fun w hb => by
    rw [← hl]
    exact light_any w ⟨ai, ae, al, as_, bi, bn, ci, ce, cl, cs, di, dn⟩ G sets A (h.g.below hb) (h.au.below hb)
  have CB : Hid (∀ w, Boxed W ⟨ai, ae, al, as_, bi, bn, ci, ce, cl, cs, di, dn⟩ G A (⟨p0, p1, p2⟩, ⟨q0, q1, q2⟩) w → w.cell? ⟨W.heap.size, 0, none⟩ = some (.slice ai G.init.length ci) ∧ w.cell? ⟨W.heap.size, 1, none⟩ = some (.slice ae G.edges.length ce) ∧ w.cell? ⟨W.heap.size, 2, none⟩ = some (.slice al G.labels.length cl) ∧ w.cell? ⟨W.heap.size + 1, 0, none⟩ = some (.int .i64 A.sets) ∧ w.cell? ⟨W.heap.size + 1, 1, none⟩ = some (.slice bi A.init.length di) ∧ w.cell? ⟨W.heap.size + 1, 2, none⟩ = some (.slice bn A.nodes.length dn)) := fun w hB => ⟨hB.rg.cell 0, hB.rg.cell 1, hB.rg.cell 2, hB.ra.cell 0, hB.ra.cell 1, hB.ra.cell 2⟩
  have CX : Hid (∀ w, Boxed W ⟨ai, ae, al, as_, bi, bn, ci, ce, cl, cs, di, dn⟩ G A (⟨p0, p1, p2⟩, ⟨q0, q1, q2⟩) w → w.cell? ⟨W.heap.size + 1 + 1, 0, none⟩ = some (.int .i64 p0) ∧ w.cell? ⟨W.heap.size + 1 + 1, 1, none⟩ = some (.int .i64 p1) ∧ w.cell? ⟨W.heap.size + 1 + 1, 2, none⟩ = some (.int .i64 p2) ∧ w.cell? ⟨W.heap.size + 1 + 1, 3, none⟩ = some (.int .i64 q0) ∧ w.cell? ⟨W.heap.size + 1 + 1, 4, none⟩ = some (.int .i64 q1) ∧ w.cell? ⟨W.heap.size + 1 + 1, 5, none⟩ = some (.int .i64 q2)) := fun w hB => ⟨hB.rx.cell 0, hB.rx.cell 1, hB.rx.cell 2, hB.rx.cell 3, hB.rx.cell 4, hB.rx.cell 5⟩
  obtain ⟨w3, hw3⟩ : ∃ w3, w3 = (((W.alloc (.cells #[.slice ai G.init.length ci, .slice ae G.edges.length ce, .slice al G.labels.length cl] TG)).alloc (.cells #[.int .i64 A.sets, .slice bi A.init.length di, .slice bn A.nodes.length dn] TA)).alloc (.cells #[.int .i64 p0, .int .i64 p1, .int .i64 p2, .int .i64 q0, .int .i64 q1, .int .i64 q2] TP2)) := ⟨_, rfl⟩
  have B3 : Boxed W ⟨ai, ae, al, as_, bi, bn, ci, ce, cl, cs, di, dn⟩ G A (⟨p0, p1, p2⟩, ⟨q0, q1, q2⟩) w3 := by rw [hw3]; exact B0
  obtain ⟨g0, g1, g2, a0, a1, a2⟩ := CB.out w3 B3
  have HW := Lib.hid hw3
  replace B3 := Lib.hid B3
  clear B0 hw3
  have GR_ : Hid (∀ w, Below W.heap.size W w → Calls Try.prog 10 #[.agg #[.slice ai G.init.length ci, .slice ae G.edges.length ce, .slice al G.labels.length cl], .slice as_ sets.length cs] w (SrcMade G sets w)) := fun w hb => graph_any w ai ae al as_ ci ce cl cs G sets (h.g.below hb) h.ok (h.s.below hb)
  have RN : Hid (∀ w, Below W.heap.size W w → Calls Try.prog 11 #[.agg #[.slice ai G.init.length ci, .slice ae G.edges.length ce, .slice al G.labels.length cl], .slice as_ sets.length cs, .agg #[.int .i64 A.sets, .slice bi A.init.length di, .slice bn A.nodes.length dn]] w fun e w' => e = .returned (.tuple #[.agg #[.slice none 0 0, .slice none 0 0, .slice none 0 0, .slice none 0 0, .int .i64 0, .slice none 0 0, .slice none 0 0], .bool false]) ∧ Below w.heap.size w w') := fun w hb => by
    have := rnew_any w ⟨ai, ae, al, as_, bi, bn, ci, ce, cl, cs, di, dn⟩ G sets A (h.g.below hb) h.ok (h.s.below hb) (h.au.below hb) h.aok
    rw [hn] at this
    exact this
  have RS : Hid (∀ w, Below W.heap.size W w → Calls Try.prog 12 #[.agg #[.slice ai G.init.length ci, .slice ae G.edges.length ce, .slice al G.labels.length cl], .slice as_ sets.length cs] w fun e w' => e = .returned (.bool false) ∧ Below w.heap.size w w') := fun w hb => by
    have := rsource_any w ⟨ai, ae, al, as_, bi, bn, ci, ce, cl, cs, di, dn⟩ G sets (h.g.below hb) h.ok (h.s.below hb)
    rw [hs] at this
    exact this
  replace hs := Lib.hid hs
  clear h hl hn
  go_enter Try.func3, Try.ntmps3
  go_wp2_with fail
  rw [← HW.out]
  clear HW
  refine (LI.out _ B3.out.below).mono ?_
  rintro e w4 ⟨rfl, hb4⟩
  have B4 := Lib.hid (B3.out.next hb4)
  clear g0 g1 g2 a0 a1 a2 hb4 LI
  obtain ⟨g0, g1, g2, a0, a1, a2⟩ := CB.out w4 B4.out
  go_wp2_with fail
  refine (GR_.out _ B4.out.below).mono ?_
  rintro e w5 ⟨hb5, h5⟩
  replace h5 := Lib.hid h5
  obtain rfl : e = .returned .nilIface := by
    rcases h5.out with ⟨h1, _⟩ | ⟨_, h1⟩
    · rw [hs.out] at h1; cases h1
    · exact h1
  have B5 := Lib.hid (B4.out.next hb5)
  clear g0 g1 g2 a0 a1 a2 hb5 h5 GR_
  obtain ⟨g0, g1, g2, a0, a1, a2⟩ := CB.out w5 B5.out
  go_wp2_with fail
  refine (RN.out _ B5.out.below).mono ?_
  rintro e w6 ⟨rfl, hb6⟩
  have B6 := Lib.hid (B5.out.next hb6)
  replace hb6 := Lib.hid hb6
  have hb7 : Hid (Below w6.heap.size w6 (w6.alloc (.cells #[.slice none 0 0, .slice none 0 0, .slice none 0 0, .slice none 0 0, .int .i64 0, .slice none 0 0, .slice none 0 0] TRP))) := balloc (Below.refl _ _) _
  have B7 := Lib.hid (B6.out.next hb7.out)
  have r7 : Hid (RowAt (w6.alloc (.cells #[.slice none 0 0, .slice none 0 0, .slice none 0 0, .slice none 0 0, .int .i64 0, .slice none 0 0, .slice none 0 0] TRP)) w6.heap.size TRP [.slice none 0 0, .slice none 0 0, .slice none 0 0, .slice none 0 0, .int .i64 0, .slice none 0 0, .slice none 0 0]) := RowAt.new #[_, _, _, _, _, _, _] rfl
  clear g0 g1 g2 a0 a1 a2 RN
  obtain ⟨g0, g1, g2, a0, a1, a2⟩ := CB.out _ B7.out
  go_wp2
  generalize w6.alloc (.cells #[.slice none 0 0, .slice none 0 0, .slice none 0 0, .slice none 0 0, .int .i64 0, .slice none 0 0, .slice none 0 0] TRP) = w7 at hb7 B7 r7 g0 g1 g2 a0 a1 a2 ⊢
  have hC : Hid (∀ w', Below w7.heap.size w7 w' → w'.cell? ⟨W.heap.size, 0, none⟩ = some (.slice ai G.init.length ci) ∧ w'.cell? ⟨W.heap.size, 1, none⟩ = some (.slice ae G.edges.length ce) ∧ w'.cell? ⟨W.heap.size, 2, none⟩ = some (.slice al G.labels.length cl)) := fun w' hb => ⟨bcell hb g0, bcell hb g1, bcell hb g2⟩
  go_region_held3 (fun w' => w'.cell? ⟨W.heap.size, 0, none⟩ = some (.slice ai G.init.length ci) ∧ w'.cell? ⟨W.heap.size, 1, none⟩ = some (.slice ae G.edges.length ce) ∧ w'.cell? ⟨W.heap.size, 2, none⟩ = some (.slice al G.labels.length cl)) (first | exact hC.out _ K8 | exact hC.out _ (Below.refl _ _) | exact hC.out _ (Below.refl _ _).drew) (first
    | (go_at_call 12; (with_reducible refine (RS.out _ B7.out.below.drew).mono ?_); rintro e w8 ⟨rfl, hb8⟩; have K8 : Below w7.heap.size w7 w8 := ⟨hb8.os, hb8.tape, hb8.output, hb8.size, hb8.block⟩))
  have B8 := Lib.hid (B7.out.next K8)
  have r8 := Lib.hid (r7.out.below K8)
  clear g0 g1 g2 a0 a1 a2 hC K8 hb8 hb7 hb6 B5 B6
  obtain ⟨g0, g1, g2, a0, a1, a2⟩ := CB.out _ B8.out
  go_wp2_with fail
  refine (new_nil w8 bi bn di dn A).mono ?_
  rintro e w9 ⟨rfl, hb9⟩
  have B9 := Lib.hid (B8.out.next hb9)
  have FN : Hid (∀ w, Calls Try.prog 14 #[.pointer none] w fun e w' => ∃ a c, e = .returned (.slice a 0 c) ∧ Below w.heap.size w w') := fun w => (first_nil w).mono fun e w' ⟨a, c, h1, _, h2⟩ => ⟨a, c, h1, h2⟩
  have NN : Hid (∀ w, Calls Try.prog 15 #[.pointer none, .agg #[.int .i64 p0, .int .i64 p1, .int .i64 p2]] w fun e w' => ∃ a c, e = .returned (.slice a 0 c) ∧ Below w.heap.size w w') := fun w => (next_nil w ⟨p0, p1, p2⟩).mono fun e w' ⟨a, c, h1, _, h2⟩ => ⟨a, c, h1, h2⟩
  have IN : Hid (∀ w, Calls Try.prog 16 #[.pointer none, .agg #[.int .i64 p0, .int .i64 p1, .int .i64 p2]] w fun e w' => e = .returned (.bool false) ∧ Below w.heap.size w w') := fun w => in_nil w ⟨p0, p1, p2⟩
  obtain ⟨x0, x1, x2, _, _, _⟩ := CX.out w9 B9.out
  have hX : Hid (∀ w', Below w9.heap.size w9 w' → w'.cell? ⟨W.heap.size + 1 + 1, 0, none⟩ = some (.int .i64 p0) ∧ w'.cell? ⟨W.heap.size + 1 + 1, 1, none⟩ = some (.int .i64 p1) ∧ w'.cell? ⟨W.heap.size + 1 + 1, 2, none⟩ = some (.int .i64 p2)) := fun w' hb => ⟨bcell hb x0, bcell hb x1, bcell hb x2⟩
  clear g0 g1 g2 a0 a1 a2 hb9 B8 B4 B7 r7 r8
  go_wp2
  go_region_held3 (fun w' => w'.cell? ⟨W.heap.size + 1 + 1, 0, none⟩ = some (.int .i64 p0) ∧ w'.cell? ⟨W.heap.size + 1 + 1, 1, none⟩ = some (.int .i64 p1) ∧ w'.cell? ⟨W.heap.size + 1 + 1, 2, none⟩ = some (.int .i64 p2)) (first | exact hX.out _ K4 | exact hX.out _ K3 | exact hX.out _ K2 | exact hX.out _ K1 | exact hX.out _ (Below.refl _ _) | exact hX.out _ (Below.refl _ _).drew) (first
    | (go_at_call 9; (with_reducible refine (awake_true _).mono ?_); rintro e w13 ⟨rfl, hb13⟩; have K4 : Below w9.heap.size w9 w13 := btrans K3 hb13)
    | (go_at_call 16; (with_reducible refine (IN.out _).mono ?_); rintro e w12 ⟨rfl, hb12⟩; have K3 : Below w9.heap.size w9 w12 := btrans K2 hb12)
    | (go_at_call 15; (with_reducible refine (NN.out _).mono ?_); rintro e w11 ⟨aa, cc, rfl, hb11⟩; have K2 : Below w9.heap.size w9 w11 := btrans K1 hb11)
    | (go_at_call 14; (with_reducible refine (FN.out _).mono ?_); rintro e w10 ⟨aa, cc, rfl, hb10⟩; have K1 : Below w9.heap.size w9 w10 := ⟨hb10.os, hb10.tape, hb10.output, hb10.size, hb10.block⟩))
  go_wp2
  go_ret
  exact ⟨rfl, btrans B9.out.below K4⟩
set_option maxRecDepth 20000 in
set_option maxHeartbeats 8000000 in
theorem tells_nonew (W : World) (X : RX) (G : GR) (sets : List (List Bool)) (A : AU) (x : PP × PP) (h : LawIn W X G sets A) (hl : lightB G sets A = true) (hs : srcB G sets = true) (hn : newB G sets A = false) :
    Calls Try.prog 3 #[.agg (gcells X G).toArray, .slice X.as_ sets.length X.cs, .agg (acells X A).toArray, .agg #[.int .i64 x.1.node, .int .i64 x.1.state, .int .i64 x.1.turn, .int .i64 x.2.node, .int .i64 x.2.state, .int .i64 x.2.turn]] W fun e w' => e = .returned (.bool true) ∧ Below W.heap.size W w' := by
  obtain ⟨ai, ae, al, as_, bi, bn, ci, ce, cl, cs, di, dn⟩ := X
  obtain ⟨⟨p0, p1, p2⟩, ⟨q0, q1, q2⟩⟩ := x
  have B0 := Boxed.start W ⟨ai, ae, al, as_, bi, bn, ci, ce, cl, cs, di, dn⟩ G A (⟨p0, p1, p2⟩, ⟨q0, q1, q2⟩)
  have LI : Hid (∀ w, Below W.heap.size W w → Calls Try.prog 8 #[.agg #[.slice ai G.init.length ci, .slice ae G.edges.length ce, .slice al G.labels.length cl], .slice as_ sets.length cs, .agg #[.int .i64 A.sets, .slice bi A.init.length di, .slice bn A.nodes.length dn]] w fun e w' => e = .returned (.bool true) ∧ Below w.heap.size w w') := fun w hb => by
    rw [← hl]
    exact light_any w ⟨ai, ae, al, as_, bi, bn, ci, ce, cl, cs, di, dn⟩ G sets A (h.g.below hb) (h.au.below hb)
  have CB : Hid (∀ w, Boxed W ⟨ai, ae, al, as_, bi, bn, ci, ce, cl, cs, di, dn⟩ G A (⟨p0, p1, p2⟩, ⟨q0, q1, q2⟩) w → w.cell? ⟨W.heap.size, 0, none⟩ = some (.slice ai G.init.length ci) ∧ w.cell? ⟨W.heap.size, 1, none⟩ = some (.slice ae G.edges.length ce) ∧ w.cell? ⟨W.heap.size, 2, none⟩ = some (.slice al G.labels.length cl) ∧ w.cell? ⟨W.heap.size + 1, 0, none⟩ = some (.int .i64 A.sets) ∧ w.cell? ⟨W.heap.size + 1, 1, none⟩ = some (.slice bi A.init.length di) ∧ w.cell? ⟨W.heap.size + 1, 2, none⟩ = some (.slice bn A.nodes.length dn)) := fun w hB => ⟨hB.rg.cell 0, hB.rg.cell 1, hB.rg.cell 2, hB.ra.cell 0, hB.ra.cell 1, hB.ra.cell 2⟩
  have CX : Hid (∀ w, Boxed W ⟨ai, ae, al, as_, bi, bn, ci, ce, cl, cs, di, dn⟩ G A (⟨p0, p1, p2⟩, ⟨q0, q1, q2⟩) w → w.cell? ⟨W.heap.size + 1 + 1, 0, none⟩ = some (.int .i64 p0) ∧ w.cell? ⟨W.heap.size + 1 + 1, 1, none⟩ = some (.int .i64 p1) ∧ w.cell? ⟨W.heap.size + 1 + 1, 2, none⟩ = some (.int .i64 p2) ∧ w.cell? ⟨W.heap.size + 1 + 1, 3, none⟩ = some (.int .i64 q0) ∧ w.cell? ⟨W.heap.size + 1 + 1, 4, none⟩ = some (.int .i64 q1) ∧ w.cell? ⟨W.heap.size + 1 + 1, 5, none⟩ = some (.int .i64 q2)) := fun w hB => ⟨hB.rx.cell 0, hB.rx.cell 1, hB.rx.cell 2, hB.rx.cell 3, hB.rx.cell 4, hB.rx.cell 5⟩
  obtain ⟨w3, hw3⟩ : ∃ w3, w3 = (((W.alloc (.cells #[.slice ai G.init.length ci, .slice ae G.edges.length ce, .slice al G.labels.length cl] TG)).alloc (.cells #[.int .i64 A.sets, .slice bi A.init.length di, .slice bn A.nodes.length dn] TA)).alloc (.cells #[.int .i64 p0, .int .i64 p1, .int .i64 p2, .int .i64 q0, .int .i64 q1, .int .i64 q2] TP2)) := ⟨_, rfl⟩
  have B3 : Boxed W ⟨ai, ae, al, as_, bi, bn, ci, ce, cl, cs, di, dn⟩ G A (⟨p0, p1, p2⟩, ⟨q0, q1, q2⟩) w3 := by rw [hw3]; exact B0
  obtain ⟨g0, g1, g2, a0, a1, a2⟩ := CB.out w3 B3
  have HW := Lib.hid hw3
  replace B3 := Lib.hid B3
  clear B0 hw3
  have GR_ : Hid (∀ w, Below W.heap.size W w → Calls Try.prog 10 #[.agg #[.slice ai G.init.length ci, .slice ae G.edges.length ce, .slice al G.labels.length cl], .slice as_ sets.length cs] w (SrcMade G sets w)) := fun w hb => graph_any w ai ae al as_ ci ce cl cs G sets (h.g.below hb) h.ok (h.s.below hb)
  have RN : Hid (∀ w, Below W.heap.size W w → Calls Try.prog 11 #[.agg #[.slice ai G.init.length ci, .slice ae G.edges.length ce, .slice al G.labels.length cl], .slice as_ sets.length cs, .agg #[.int .i64 A.sets, .slice bi A.init.length di, .slice bn A.nodes.length dn]] w fun e w' => e = .returned (.tuple #[.agg #[.slice none 0 0, .slice none 0 0, .slice none 0 0, .slice none 0 0, .int .i64 0, .slice none 0 0, .slice none 0 0], .bool false]) ∧ Below w.heap.size w w') := fun w hb => by
    have := rnew_any w ⟨ai, ae, al, as_, bi, bn, ci, ce, cl, cs, di, dn⟩ G sets A (h.g.below hb) h.ok (h.s.below hb) (h.au.below hb) h.aok
    rw [hn] at this
    exact this
  have RS : Hid (∀ w, Below W.heap.size W w → Calls Try.prog 12 #[.agg #[.slice ai G.init.length ci, .slice ae G.edges.length ce, .slice al G.labels.length cl], .slice as_ sets.length cs] w fun e w' => e = .returned (.bool true) ∧ Below w.heap.size w w') := fun w hb => by
    have := rsource_any w ⟨ai, ae, al, as_, bi, bn, ci, ce, cl, cs, di, dn⟩ G sets (h.g.below hb) h.ok (h.s.below hb)
    rw [hs] at this
    exact this
  have NW : Hid (∀ w, Below W.heap.size W w → ∀ f, FxAt w f G (inbits G.edges.length sets) sets.length → Calls Try.prog 13 #[.iface TFp (.pointer (some ⟨f, 0, none⟩)), .agg #[.int .i64 A.sets, .slice bi A.init.length di, .slice bn A.nodes.length dn]] w (NewMade G sets A w)) := fun w hb f hF => new_any w bi bn di dn f G sets A hF hs h.ok (h.au.below hb) h.aok
  replace hs := Lib.hid hs
  replace hn := Lib.hid hn
  clear h hl
  go_enter Try.func3, Try.ntmps3
  go_wp2_with fail
  rw [← HW.out]
  clear HW
  refine (LI.out _ B3.out.below).mono ?_
  rintro e w4 ⟨rfl, hb4⟩
  have B4 := Lib.hid (B3.out.next hb4)
  clear g0 g1 g2 a0 a1 a2 hb4 LI
  obtain ⟨g0, g1, g2, a0, a1, a2⟩ := CB.out w4 B4.out
  go_wp2_with fail
  refine (GR_.out _ B4.out.below).mono ?_
  rintro e w5 ⟨hb5, h5⟩
  replace h5 := Lib.hid h5
  obtain ⟨f, rfl, hF⟩ : ∃ f, e = .returned (.iface TFp (.pointer (some ⟨f, 0, none⟩))) ∧ Hid (FxAt w5 f G (inbits G.edges.length sets) sets.length) := by
    rcases h5.out with ⟨_, f, h1, h2⟩ | ⟨h1, _⟩
    · exact ⟨f, h1, h2⟩
    · rw [hs.out] at h1; cases h1
  have B5 := Lib.hid (B4.out.next hb5)
  clear g0 g1 g2 a0 a1 a2 hb5 h5 GR_
  obtain ⟨g0, g1, g2, a0, a1, a2⟩ := CB.out w5 B5.out
  go_wp2_with fail
  refine (RN.out _ B5.out.below).mono ?_
  rintro e w6 ⟨rfl, hb6⟩
  have B6 := Lib.hid (B5.out.next hb6)
  replace hb6 := Lib.hid hb6
  have hb7 : Hid (Below w6.heap.size w6 (w6.alloc (.cells #[.slice none 0 0, .slice none 0 0, .slice none 0 0, .slice none 0 0, .int .i64 0, .slice none 0 0, .slice none 0 0] TRP))) := balloc (Below.refl _ _) _
  have B7 := Lib.hid (B6.out.next hb7.out)
  have r7 : Hid (RowAt (w6.alloc (.cells #[.slice none 0 0, .slice none 0 0, .slice none 0 0, .slice none 0 0, .int .i64 0, .slice none 0 0, .slice none 0 0] TRP)) w6.heap.size TRP [.slice none 0 0, .slice none 0 0, .slice none 0 0, .slice none 0 0, .int .i64 0, .slice none 0 0, .slice none 0 0]) := RowAt.new #[_, _, _, _, _, _, _] rfl
  clear g0 g1 g2 a0 a1 a2 RN
  obtain ⟨g0, g1, g2, a0, a1, a2⟩ := CB.out _ B7.out
  go_wp2
  generalize w6.alloc (.cells #[.slice none 0 0, .slice none 0 0, .slice none 0 0, .slice none 0 0, .int .i64 0, .slice none 0 0, .slice none 0 0] TRP) = w7 at hb7 B7 r7 g0 g1 g2 a0 a1 a2 ⊢
  have hC : Hid (∀ w', Below w7.heap.size w7 w' → w'.cell? ⟨W.heap.size, 0, none⟩ = some (.slice ai G.init.length ci) ∧ w'.cell? ⟨W.heap.size, 1, none⟩ = some (.slice ae G.edges.length ce) ∧ w'.cell? ⟨W.heap.size, 2, none⟩ = some (.slice al G.labels.length cl)) := fun w' hb => ⟨bcell hb g0, bcell hb g1, bcell hb g2⟩
  go_region_held3 (fun w' => w'.cell? ⟨W.heap.size, 0, none⟩ = some (.slice ai G.init.length ci) ∧ w'.cell? ⟨W.heap.size, 1, none⟩ = some (.slice ae G.edges.length ce) ∧ w'.cell? ⟨W.heap.size, 2, none⟩ = some (.slice al G.labels.length cl)) (first | exact hC.out _ K8 | exact hC.out _ (Below.refl _ _) | exact hC.out _ (Below.refl _ _).drew) (first
    | (go_at_call 12; (with_reducible refine (RS.out _ B7.out.below.drew).mono ?_); rintro e w8 ⟨rfl, hb8⟩; have K8 : Below w7.heap.size w7 w8 := ⟨hb8.os, hb8.tape, hb8.output, hb8.size, hb8.block⟩))
  have B8 := Lib.hid (B7.out.next K8)
  have r8 := Lib.hid (r7.out.below K8)
  have hF8 := hF.out.below (btrans hb6.out (btrans hb7.out K8))
  clear g0 g1 g2 a0 a1 a2 hC K8 hb8 hb7 hb6 B5 B6
  obtain ⟨g0, g1, g2, a0, a1, a2⟩ := CB.out _ B8.out
  go_wp2_with fail
  refine (NW.out _ B8.out.below f hF8).mono ?_
  rintro e w9 ⟨hb9, h9⟩
  replace h9 := Lib.hid h9
  obtain rfl : e = .returned (.pointer none) := by
    rcases h9.out with ⟨h1, _⟩ | ⟨_, h1⟩
    · rw [hn.out] at h1; cases h1
    · exact h1
  clear h9 hF8 hF
  have B9 := Lib.hid (B8.out.next hb9)
  have FN : Hid (∀ w, Calls Try.prog 14 #[.pointer none] w fun e w' => ∃ a c, e = .returned (.slice a 0 c) ∧ Below w.heap.size w w') := fun w => (first_nil w).mono fun e w' ⟨a, c, h1, _, h2⟩ => ⟨a, c, h1, h2⟩
  have NN : Hid (∀ w, Calls Try.prog 15 #[.pointer none, .agg #[.int .i64 p0, .int .i64 p1, .int .i64 p2]] w fun e w' => ∃ a c, e = .returned (.slice a 0 c) ∧ Below w.heap.size w w') := fun w => (next_nil w ⟨p0, p1, p2⟩).mono fun e w' ⟨a, c, h1, _, h2⟩ => ⟨a, c, h1, h2⟩
  have IN : Hid (∀ w, Calls Try.prog 16 #[.pointer none, .agg #[.int .i64 p0, .int .i64 p1, .int .i64 p2]] w fun e w' => e = .returned (.bool false) ∧ Below w.heap.size w w') := fun w => in_nil w ⟨p0, p1, p2⟩
  obtain ⟨x0, x1, x2, _, _, _⟩ := CX.out w9 B9.out
  have hX : Hid (∀ w', Below w9.heap.size w9 w' → w'.cell? ⟨W.heap.size + 1 + 1, 0, none⟩ = some (.int .i64 p0) ∧ w'.cell? ⟨W.heap.size + 1 + 1, 1, none⟩ = some (.int .i64 p1) ∧ w'.cell? ⟨W.heap.size + 1 + 1, 2, none⟩ = some (.int .i64 p2)) := fun w' hb => ⟨bcell hb x0, bcell hb x1, bcell hb x2⟩
  clear g0 g1 g2 a0 a1 a2 hb9 B8 B4 B7 r7 r8
  go_wp2
  go_region_held3 (fun w' => w'.cell? ⟨W.heap.size + 1 + 1, 0, none⟩ = some (.int .i64 p0) ∧ w'.cell? ⟨W.heap.size + 1 + 1, 1, none⟩ = some (.int .i64 p1) ∧ w'.cell? ⟨W.heap.size + 1 + 1, 2, none⟩ = some (.int .i64 p2)) (first | exact hX.out _ K4 | exact hX.out _ K3 | exact hX.out _ K2 | exact hX.out _ K1 | exact hX.out _ (Below.refl _ _) | exact hX.out _ (Below.refl _ _).drew) (first
    | (go_at_call 9; (with_reducible refine (awake_true _).mono ?_); rintro e w13 ⟨rfl, hb13⟩; have K4 : Below w9.heap.size w9 w13 := btrans K3 hb13)
    | (go_at_call 16; (with_reducible refine (IN.out _).mono ?_); rintro e w12 ⟨rfl, hb12⟩; have K3 : Below w9.heap.size w9 w12 := btrans K2 hb12)
    | (go_at_call 15; (with_reducible refine (NN.out _).mono ?_); rintro e w11 ⟨aa, cc, rfl, hb11⟩; have K2 : Below w9.heap.size w9 w11 := btrans K1 hb11)
    | (go_at_call 14; (with_reducible refine (FN.out _).mono ?_); rintro e w10 ⟨aa, cc, rfl, hb10⟩; have K1 : Below w9.heap.size w9 w10 := ⟨hb10.os, hb10.tape, hb10.output, hb10.size, hb10.block⟩))
  go_wp2
  go_ret
  exact ⟨rfl, btrans B9.out.below K4⟩
end Go.Proofs.Ytmlbjfaofppikaa
