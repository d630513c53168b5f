/- The walk of 'ProdTells' where there is a product. No conditions but the form's reach. -/
import Derived.Test.YtmlbjfaofppikaaPrTells
namespace Go.Proofs.Ytmlbjfaofppikaa
open Go.RowKit

set_option maxRecDepth 20000 in
set_option maxHeartbeats 16000000 in
theorem tells_yes (W : World) (X : RX) (G : GR) (sets : List (List Bool)) (A : AU) (x : PP × PP) (h : LawIn W X G sets A) (hl : lightB G sets A = true) (hn : newB G sets A = true) :
    Calls Try.prog 3 #[.agg (gcells X G).toArray, .slice X.as_ sets.length X.cs, .agg (acells X A).toArray, .agg #[.int .i64 x.1.node, .int .i64 x.1.state, .int .i64 x.1.turn, .int .i64 x.2.node, .int .i64 x.2.state, .int .i64 x.2.turn]] W fun e w' => e = .returned (.bool true) ∧ Below W.heap.size W w' := by
  have hs : srcB G sets = true := by
    unfold newB at hn
    rw [Bool.and_eq_true] at hn
    exact hn.1
  have hck : chk A = 0 := by
    unfold newB at hn
    rw [Bool.and_eq_true] at hn
    exact of_decide_eq_true hn.2
  have lt := lightB_lt hl
  obtain ⟨ai, ae, al, as_, bi, bn, ci, ce, cl, cs, di, dn⟩ := X
  obtain ⟨⟨p0, p1, p2⟩, ⟨q0, q1, q2⟩⟩ := x
  have B0 := Boxed.start W ⟨ai, ae, al, as_, bi, bn, ci, ce, cl, cs, di, dn⟩ G A (⟨p0, p1, p2⟩, ⟨q0, q1, q2⟩)
  have LI : Hid (∀ w, Below W.heap.size W w → Calls Try.prog 8 #[.agg #[.slice ai G.init.length ci, .slice ae G.edges.length ce, .slice al G.labels.length cl], .slice as_ sets.length cs, .agg #[.int .i64 A.sets, .slice bi A.init.length di, .slice bn A.nodes.length dn]] w fun e w' => e = .returned (.bool true) ∧ Below w.heap.size w w') := fun w hb => by
    rw [← hl]
    exact light_any w ⟨ai, ae, al, as_, bi, bn, ci, ce, cl, cs, di, dn⟩ G sets A (h.g.below hb) (h.au.below hb)
  have CB : Hid (∀ w, Boxed W ⟨ai, ae, al, as_, bi, bn, ci, ce, cl, cs, di, dn⟩ G A (⟨p0, p1, p2⟩, ⟨q0, q1, q2⟩) w → w.cell? ⟨W.heap.size, 0, none⟩ = some (.slice ai G.init.length ci) ∧ w.cell? ⟨W.heap.size, 1, none⟩ = some (.slice ae G.edges.length ce) ∧ w.cell? ⟨W.heap.size, 2, none⟩ = some (.slice al G.labels.length cl) ∧ w.cell? ⟨W.heap.size + 1, 0, none⟩ = some (.int .i64 A.sets) ∧ w.cell? ⟨W.heap.size + 1, 1, none⟩ = some (.slice bi A.init.length di) ∧ w.cell? ⟨W.heap.size + 1, 2, none⟩ = some (.slice bn A.nodes.length dn)) := fun w hB => ⟨hB.rg.cell 0, hB.rg.cell 1, hB.rg.cell 2, hB.ra.cell 0, hB.ra.cell 1, hB.ra.cell 2⟩
  have CX : Hid (∀ w, Boxed W ⟨ai, ae, al, as_, bi, bn, ci, ce, cl, cs, di, dn⟩ G A (⟨p0, p1, p2⟩, ⟨q0, q1, q2⟩) w → w.cell? ⟨W.heap.size + 1 + 1, 0, none⟩ = some (.int .i64 p0) ∧ w.cell? ⟨W.heap.size + 1 + 1, 1, none⟩ = some (.int .i64 p1) ∧ w.cell? ⟨W.heap.size + 1 + 1, 2, none⟩ = some (.int .i64 p2) ∧ w.cell? ⟨W.heap.size + 1 + 1, 3, none⟩ = some (.int .i64 q0) ∧ w.cell? ⟨W.heap.size + 1 + 1, 4, none⟩ = some (.int .i64 q1) ∧ w.cell? ⟨W.heap.size + 1 + 1, 5, none⟩ = some (.int .i64 q2)) := fun w hB => ⟨hB.rx.cell 0, hB.rx.cell 1, hB.rx.cell 2, hB.rx.cell 3, hB.rx.cell 4, hB.rx.cell 5⟩
  obtain ⟨w3, hw3⟩ : ∃ w3, w3 = (((W.alloc (.cells #[.slice ai G.init.length ci, .slice ae G.edges.length ce, .slice al G.labels.length cl] TG)).alloc (.cells #[.int .i64 A.sets, .slice bi A.init.length di, .slice bn A.nodes.length dn] TA)).alloc (.cells #[.int .i64 p0, .int .i64 p1, .int .i64 p2, .int .i64 q0, .int .i64 q1, .int .i64 q2] TP2)) := ⟨_, rfl⟩
  have B3 : Boxed W ⟨ai, ae, al, as_, bi, bn, ci, ce, cl, cs, di, dn⟩ G A (⟨p0, p1, p2⟩, ⟨q0, q1, q2⟩) w3 := by rw [hw3]; exact B0
  obtain ⟨g0, g1, g2, a0, a1, a2⟩ := CB.out w3 B3
  have HW := Lib.hid hw3
  replace B3 := Lib.hid B3
  clear B0 hw3
  have GR_ : Hid (∀ w, Below W.heap.size W w → Calls Try.prog 10 #[.agg #[.slice ai G.init.length ci, .slice ae G.edges.length ce, .slice al G.labels.length cl], .slice as_ sets.length cs] w (SrcMade G sets w)) := fun w hb => graph_any w ai ae al as_ ci ce cl cs G sets (h.g.below hb) h.ok (h.s.below hb)
  have RN : Hid (∀ w, Below W.heap.size W w → Calls Try.prog 11 #[.agg #[.slice ai G.init.length ci, .slice ae G.edges.length ce, .slice al G.labels.length cl], .slice as_ sets.length cs, .agg #[.int .i64 A.sets, .slice bi A.init.length di, .slice bn A.nodes.length dn]] w fun e w' => e = .returned (.tuple #[.agg #[.slice ai G.init.length ci, .slice ae G.edges.length ce, .slice al G.labels.length cl, .slice as_ sets.length cs, .int .i64 A.sets, .slice bi A.init.length di, .slice bn A.nodes.length dn], .bool true]) ∧ Below w.heap.size w w') := fun w hb => by
    have := rnew_any w ⟨ai, ae, al, as_, bi, bn, ci, ce, cl, cs, di, dn⟩ G sets A (h.g.below hb) h.ok (h.s.below hb) (h.au.below hb) h.aok
    rw [hn] at this
    exact this
  have RS : Hid (∀ w, Below W.heap.size W w → Calls Try.prog 12 #[.agg #[.slice ai G.init.length ci, .slice ae G.edges.length ce, .slice al G.labels.length cl], .slice as_ sets.length cs] w fun e w' => e = .returned (.bool true) ∧ Below w.heap.size w w') := fun w hb => by
    have := rsource_any w ⟨ai, ae, al, as_, bi, bn, ci, ce, cl, cs, di, dn⟩ G sets (h.g.below hb) h.ok (h.s.below hb)
    rw [hs] at this
    exact this
  have NW : Hid (∀ w, Below W.heap.size W w → ∀ f, FxAt w f G (inbits G.edges.length sets) sets.length → Calls Try.prog 13 #[.iface TFp (.pointer (some ⟨f, 0, none⟩)), .agg #[.int .i64 A.sets, .slice bi A.init.length di, .slice bn A.nodes.length dn]] w (NewMade G sets A w)) := fun w hb f hF => new_any w bi bn di dn f G sets A hF hs h.ok (h.au.below hb) h.aok
  obtain ⟨u, v, huv⟩ := edv_two (edgeP G sets A ⟨p0, p1, p2⟩ ⟨q0, q1, q2⟩)
  obtain ⟨bb, hbb⟩ : ∃ b, b = (edgeP G sets A ⟨p0, p1, p2⟩ ⟨q0, q1, q2⟩).isSome := ⟨_, rfl⟩
  obtain ⟨bi_, hbi⟩ : ∃ b, b = inP G sets A ⟨p0, p1, p2⟩ := ⟨_, rfl⟩
  obtain ⟨L1, hL1⟩ : ∃ l, l = firstP G A := ⟨_, rfl⟩
  obtain ⟨L2, hL2⟩ : ∃ l, l = nextP G sets A ⟨p0, p1, p2⟩ := ⟨_, rfl⟩
  have l1 : Hid (L1.length ≤ 1000000) := by have := firstP_len lt; show _ ≤ _; rw [hL1]; omega
  have l2 : Hid (L2.length ≤ 1000000) := by have := nextP_len lt ⟨p0, p1, p2⟩; show _ ≤ _; rw [hL2]; omega
  have RP_ := Lib.hid (fun w (hb : Below W.heap.size W w) => (show RpA w ⟨ai, ae, al, as_, bi, bn, ci, ce, cl, cs, di, dn⟩ G sets A from ⟨h.g.below hb, h.s.below hb, h.au.below hb, hs, hck, h.ok, h.aok, lt⟩))
  have ED : Hid (∀ w p, PrAt w p G sets A → Calls Try.prog 17 #[.pointer (some ⟨p, 0, none⟩), .agg #[.int .i64 p0, .int .i64 p1, .int .i64 p2], .agg #[.int .i64 q0, .int .i64 q1, .int .i64 q2]] w fun e w' => e = .returned (.tuple #[.agg #[.int .i64 u, .int .i64 v], .bool bb]) ∧ Below w.heap.size w w') := fun w p hp => by
    have := edge_any w p G sets A hp lt ⟨p0, p1, p2⟩ ⟨q0, q1, q2⟩
    rw [huv, ← hbb] at this
    exact this
  have RED : Hid (∀ w, Below W.heap.size W w → Calls Try.prog 18 #[.agg #[.slice ai G.init.length ci, .slice ae G.edges.length ce, .slice al G.labels.length cl, .slice as_ sets.length cs, .int .i64 A.sets, .slice bi A.init.length di, .slice bn A.nodes.length dn], .agg #[.int .i64 p0, .int .i64 p1, .int .i64 p2], .agg #[.int .i64 q0, .int .i64 q1, .int .i64 q2]] w fun e w' => e = .returned (.tuple #[.agg #[.int .i64 u, .int .i64 v], .bool bb]) ∧ Below w.heap.size w w') := fun w hb => by
    have := redge_any w _ G sets A (RP_.out w hb) ⟨p0, p1, p2⟩ ⟨q0, q1, q2⟩
    rw [huv, ← hbb] at this
    exact this
  have FI : Hid (∀ w p, PrAt w p G sets A → Calls Try.prog 14 #[.pointer (some ⟨p, 0, none⟩)] w (GivesQ w L1)) := fun w p hp => by
    have := first_any w p G sets A hp lt
    rw [← hL1] at this
    exact this
  have RFI : Hid (∀ w, Below W.heap.size W w → Calls Try.prog 20 #[.agg #[.slice ai G.init.length ci, .slice ae G.edges.length ce, .slice al G.labels.length cl, .slice as_ sets.length cs, .int .i64 A.sets, .slice bi A.init.length di, .slice bn A.nodes.length dn]] w (GivesR w L1)) := fun w hb => by
    have := rfirst_any w _ G sets A (RP_.out w hb)
    rw [← hL1] at this
    exact this
  have NX : Hid (∀ w p, PrAt w p G sets A → Calls Try.prog 15 #[.pointer (some ⟨p, 0, none⟩), .agg #[.int .i64 p0, .int .i64 p1, .int .i64 p2]] w (GivesQ w L2)) := fun w p hp => by
    have := next_any w p G sets A hp lt ⟨p0, p1, p2⟩
    rw [← hL2] at this
    exact this
  have RNX : Hid (∀ w, Below W.heap.size W w → Calls Try.prog 21 #[.agg #[.slice ai G.init.length ci, .slice ae G.edges.length ce, .slice al G.labels.length cl, .slice as_ sets.length cs, .int .i64 A.sets, .slice bi A.init.length di, .slice bn A.nodes.length dn], .agg #[.int .i64 p0, .int .i64 p1, .int .i64 p2]] w (GivesR w L2)) := fun w hb => by
    have := rnext_any w _ G sets A (RP_.out w hb) ⟨p0, p1, p2⟩
    rw [← hL2] at this
    exact this
  have IN : Hid (∀ w p, PrAt w p G sets A → Calls Try.prog 16 #[.pointer (some ⟨p, 0, none⟩), .agg #[.int .i64 p0, .int .i64 p1, .int .i64 p2]] w fun e w' => e = .returned (.bool bi_) ∧ Below w.heap.size w w') := fun w p hp => by
    have := in_any w p G sets A hp ⟨p0, p1, p2⟩
    rw [← hbi] at this
    exact this
  have RIN : Hid (∀ w, Below W.heap.size W w → Calls Try.prog 22 #[.agg #[.slice ai G.init.length ci, .slice ae G.edges.length ce, .slice al G.labels.length cl, .slice as_ sets.length cs, .int .i64 A.sets, .slice bi A.init.length di, .slice bn A.nodes.length dn], .agg #[.int .i64 p0, .int .i64 p1, .int .i64 p2]] w fun e w' => e = .returned (.bool bi_) ∧ Below w.heap.size w w') := fun w hb => by
    have := rin_any w _ G sets A (RP_.out w hb) ⟨p0, p1, p2⟩
    rw [← hbi] at this
    exact this
  replace hs := Lib.hid hs
  replace hn := Lib.hid hn
  clear h hl hck lt huv hbb hbi hL1 hL2 RP_
  go_enter Try.func3, Try.ntmps3
  go_wp2_with fail
  rw [← HW.out]
  clear HW
  refine (LI.out _ B3.out.below).mono ?_
  rintro e w4 ⟨rfl, hb4⟩
  have B4 := Lib.hid (B3.out.next hb4)
  clear g0 g1 g2 a0 a1 a2 hb4 LI
  obtain ⟨g0, g1, g2, a0, a1, a2⟩ := CB.out w4 B4.out
  go_wp2_with fail
  refine (GR_.out _ B4.out.below).mono ?_
  rintro e w5 ⟨hb5, h5⟩
  replace h5 := Lib.hid h5
  obtain ⟨f, rfl, hF⟩ : ∃ f, e = .returned (.iface TFp (.pointer (some ⟨f, 0, none⟩))) ∧ Hid (FxAt w5 f G (inbits G.edges.length sets) sets.length) := by
    rcases h5.out with ⟨_, f, h1, h2⟩ | ⟨h1, _⟩
    · exact ⟨f, h1, h2⟩
    · rw [hs.out] at h1; cases h1
  have B5 := Lib.hid (B4.out.next hb5)
  clear g0 g1 g2 a0 a1 a2 hb5 h5 GR_
  obtain ⟨g0, g1, g2, a0, a1, a2⟩ := CB.out w5 B5.out
  go_wp2_with fail
  refine (RN.out _ B5.out.below).mono ?_
  rintro e w6 ⟨rfl, hb6⟩
  have B6 := Lib.hid (B5.out.next hb6)
  replace hb6 := Lib.hid hb6
  have hb7 : Hid (Below w6.heap.size w6 (w6.alloc (.cells #[.slice ai G.init.length ci, .slice ae G.edges.length ce, .slice al G.labels.length cl, .slice as_ sets.length cs, .int .i64 A.sets, .slice bi A.init.length di, .slice bn A.nodes.length dn] TRP))) := balloc (Below.refl _ _) _
  have B7 := Lib.hid (B6.out.next hb7.out)
  have r7 : Hid (RowAt (w6.alloc (.cells #[.slice ai G.init.length ci, .slice ae G.edges.length ce, .slice al G.labels.length cl, .slice as_ sets.length cs, .int .i64 A.sets, .slice bi A.init.length di, .slice bn A.nodes.length dn] TRP)) w6.heap.size TRP [.slice ai G.init.length ci, .slice ae G.edges.length ce, .slice al G.labels.length cl, .slice as_ sets.length cs, .int .i64 A.sets, .slice bi A.init.length di, .slice bn A.nodes.length dn]) := RowAt.new #[_, _, _, _, _, _, _] rfl
  clear g0 g1 g2 a0 a1 a2 RN
  obtain ⟨g0, g1, g2, a0, a1, a2⟩ := CB.out _ B7.out
  go_wp2
  generalize w6.alloc (.cells #[.slice ai G.init.length ci, .slice ae G.edges.length ce, .slice al G.labels.length cl, .slice as_ sets.length cs, .int .i64 A.sets, .slice bi A.init.length di, .slice bn A.nodes.length dn] TRP) = w7 at hb7 B7 r7 g0 g1 g2 a0 a1 a2 ⊢
  have hC : Hid (∀ w', Below w7.heap.size w7 w' → w'.cell? ⟨W.heap.size, 0, none⟩ = some (.slice ai G.init.length ci) ∧ w'.cell? ⟨W.heap.size, 1, none⟩ = some (.slice ae G.edges.length ce) ∧ w'.cell? ⟨W.heap.size, 2, none⟩ = some (.slice al G.labels.length cl)) := fun w' hb => ⟨bcell hb g0, bcell hb g1, bcell hb g2⟩
  go_region_held3 (fun w' => w'.cell? ⟨W.heap.size, 0, none⟩ = some (.slice ai G.init.length ci) ∧ w'.cell? ⟨W.heap.size, 1, none⟩ = some (.slice ae G.edges.length ce) ∧ w'.cell? ⟨W.heap.size, 2, none⟩ = some (.slice al G.labels.length cl)) (first | exact hC.out _ K8 | exact hC.out _ (Below.refl _ _) | exact hC.out _ (Below.refl _ _).drew) (first
    | (go_at_call 12; (with_reducible refine (RS.out _ B7.out.below.drew).mono ?_); rintro e w8 ⟨rfl, hb8⟩; have K8 : Below w7.heap.size w7 w8 := ⟨hb8.os, hb8.tape, hb8.output, hb8.size, hb8.block⟩))
  have B8 := Lib.hid (B7.out.next K8)
  have r8 := Lib.hid (r7.out.below K8)
  have hF8 := hF.out.below (btrans hb6.out (btrans hb7.out K8))
  clear g0 g1 g2 a0 a1 a2 hC K8 hb8 hb7 hb6 B5 B6
  obtain ⟨g0, g1, g2, a0, a1, a2⟩ := CB.out _ B8.out
  go_wp2_with fail
  refine (NW.out _ B8.out.below f hF8).mono ?_
  rintro e w9 ⟨hb9, h9⟩
  replace h9 := Lib.hid h9
  obtain ⟨p, rfl, hp⟩ : ∃ p, e = .returned (.pointer (some ⟨p, 0, none⟩)) ∧ Hid (PrAt w9 p G sets A) := by
    rcases h9.out with ⟨_, p, h1, h2⟩ | ⟨h1, _⟩
    · exact ⟨p, h1, h2⟩
    · rw [hn.out] at h1; cases h1
  clear h9 hF8 hF NW
  have B9 := Lib.hid (B8.out.next hb9)
  have r9 := Lib.hid (r8.out.below hb9)
  clear g0 g1 g2 a0 a1 a2 hb9 B8 B4 B7 r7 r8
  obtain ⟨x0, x1, x2, y0, y1, y2⟩ := CX.out w9 B9.out
  go_wp2_with fail
  refine (ED.out _ p hp.out).mono ?_
  rintro e w10 ⟨rfl, hb10⟩
  have hA10 := balloc hb10 (.cells #[.int .i64 u, .int .i64 v] TE)
  have e1 : Hid (RowAt (w10.alloc (.cells #[.int .i64 u, .int .i64 v] TE)) w10.heap.size TE [.int .i64 u, .int .i64 v]) := RowAt.new #[_, _] rfl
  have B11 := Lib.hid (B9.out.next hA10)
  have r11 := r9.out.below hA10
  have hp11 := Lib.hid (hp.out.below hA10)
  clear x0 x1 x2 y0 y1 y2 hb10 hA10 ED hp r9 B9
  obtain ⟨x0, x1, x2, y0, y1, y2⟩ := CX.out _ B11.out
  have c0 := r11.cell 0
  have c1 := r11.cell 1
  have c2 := r11.cell 2
  have c3 := r11.cell 3
  have c4 := r11.cell 4
  have c5 := r11.cell 5
  have c6 := r11.cell 6
  replace r11 := Lib.hid r11
  simp only [List.getElem?_cons_zero, List.getElem?_cons_succ] at c0 c1 c2 c3 c4 c5 c6
  go_wp2_with fail
  refine (RED.out _ B11.out.below).mono ?_
  rintro e w12 ⟨rfl, hb12⟩
  have hA12 := balloc hb12 (.cells #[.int .i64 u, .int .i64 v] TE)
  have f1 : Hid (RowAt (w12.alloc (.cells #[.int .i64 u, .int .i64 v] TE)) w12.heap.size TE [.int .i64 u, .int .i64 v]) := RowAt.new #[_, _] rfl
  have e13 := Lib.hid (e1.out.below hA12)
  have B13 := Lib.hid (B11.out.next hA12)
  have r13 := Lib.hid (r11.out.below hA12)
  have hp13 := Lib.hid (hp11.out.below hA12)
  clear x0 x1 x2 y0 y1 y2 c0 c1 c2 c3 c4 c5 c6 hb12 hA12 RED hp11 r11 B11 e1
  go_wp2_with fail
  generalize w12.alloc (.cells #[.int .i64 u, .int .i64 v] TE) = w14 at f1 e13 B13 r13 hp13 ⊢
  obtain ⟨x0, x1, x2, _, _, _⟩ := CX.out _ B13.out
  have hS : Hid (∀ w', Below w14.heap.size w14 w' → w'.cell? ⟨w6.heap.size, 0, none⟩ = some (.slice ai G.init.length ci) ∧ w'.cell? ⟨w6.heap.size, 1, none⟩ = some (.slice ae G.edges.length ce) ∧ w'.cell? ⟨w6.heap.size, 2, none⟩ = some (.slice al G.labels.length cl) ∧ w'.cell? ⟨w6.heap.size, 3, none⟩ = some (.slice as_ sets.length cs) ∧ w'.cell? ⟨w6.heap.size, 4, none⟩ = some (.int .i64 A.sets) ∧ w'.cell? ⟨w6.heap.size, 5, none⟩ = some (.slice bi A.init.length di) ∧ w'.cell? ⟨w6.heap.size, 6, none⟩ = some (.slice bn A.nodes.length dn) ∧ w'.cell? ⟨W.heap.size + 1 + 1, 0, none⟩ = some (.int .i64 p0) ∧ w'.cell? ⟨W.heap.size + 1 + 1, 1, none⟩ = some (.int .i64 p1) ∧ w'.cell? ⟨W.heap.size + 1 + 1, 2, none⟩ = some (.int .i64 p2) ∧ w'.cell? ⟨w10.heap.size, 0, none⟩ = some (.int .i64 u) ∧ w'.cell? ⟨w10.heap.size, 1, none⟩ = some (.int .i64 v) ∧ w'.cell? ⟨w12.heap.size, 0, none⟩ = some (.int .i64 u) ∧ w'.cell? ⟨w12.heap.size, 1, none⟩ = some (.int .i64 v)) := fun w' hb => by
    have h1 := r13.out.below hb
    have h2 := e13.out.below hb
    have h3 := f1.out.below hb
    exact ⟨h1.cell 0, h1.cell 1, h1.cell 2, h1.cell 3, h1.cell 4, h1.cell 5, h1.cell 6, bcell hb x0, bcell hb x1, bcell hb x2, h2.cell 0, h2.cell 1, h3.cell 0, h3.cell 1⟩
  obtain ⟨s0, s1, s2, s3, s4, s5, s6, _, _, _, s7, s8, s9, s10⟩ := hS.out _ (Below.refl _ _)
  go_region_held3 (fun w' => w'.cell? ⟨w6.heap.size, 0, none⟩ = some (.slice ai G.init.length ci) ∧ w'.cell? ⟨w6.heap.size, 1, none⟩ = some (.slice ae G.edges.length ce) ∧ w'.cell? ⟨w6.heap.size, 2, none⟩ = some (.slice al G.labels.length cl) ∧ w'.cell? ⟨w6.heap.size, 3, none⟩ = some (.slice as_ sets.length cs) ∧ w'.cell? ⟨w6.heap.size, 4, none⟩ = some (.int .i64 A.sets) ∧ w'.cell? ⟨w6.heap.size, 5, none⟩ = some (.slice bi A.init.length di) ∧ w'.cell? ⟨w6.heap.size, 6, none⟩ = some (.slice bn A.nodes.length dn) ∧ w'.cell? ⟨W.heap.size + 1 + 1, 0, none⟩ = some (.int .i64 p0) ∧ w'.cell? ⟨W.heap.size + 1 + 1, 1, none⟩ = some (.int .i64 p1) ∧ w'.cell? ⟨W.heap.size + 1 + 1, 2, none⟩ = some (.int .i64 p2) ∧ w'.cell? ⟨w10.heap.size, 0, none⟩ = some (.int .i64 u) ∧ w'.cell? ⟨w10.heap.size, 1, none⟩ = some (.int .i64 v) ∧ w'.cell? ⟨w12.heap.size, 0, none⟩ = some (.int .i64 u) ∧ w'.cell? ⟨w12.heap.size, 1, none⟩ = some (.int .i64 v)) (first | exact hS.out _ K9 | exact hS.out _ K8 | exact hS.out _ K7 | exact hS.out _ K6 | exact hS.out _ K5 | exact hS.out _ K4 | exact hS.out _ K3 | exact hS.out _ K2 | exact hS.out _ K1 | exact hS.out _ (Below.refl _ _) | exact hS.out _ (Below.refl _ _).drew) (first
    | (go_at_call 9; (with_reducible refine (awake_true _).mono ?_); rintro e w23 ⟨rfl, hb23⟩; have K9 : Below w14.heap.size w14 w23 := btrans K8 hb23)
    | (go_at_call 22; (with_reducible refine (RIN.out _ (btrans B13.out.below K7)).mono ?_); rintro e w22 ⟨rfl, hb22⟩; have K8 : Below w14.heap.size w14 w22 := btrans K7 hb22)
    | (go_at_call 16; (with_reducible refine (IN.out _ p (hp13.out.below K6)).mono ?_); rintro e w21 ⟨rfl, hb21⟩; have K7 : Below w14.heap.size w14 w21 := btrans K6 hb21)
    | (go_at_call 19; (with_reducible refine (same_yes _ a4 a5 c4 c5 L2 (P4.below hb19) P5 l2.out).mono ?_); rintro e w20 ⟨rfl, hb20⟩; have K6 : Below w14.heap.size w14 w20 := btrans K5 hb20)
    | (go_at_call 21; (with_reducible refine (RNX.out _ (btrans B13.out.below K4)).mono ?_); rintro e w19 ⟨a5, c5, rfl, hq5, hb19⟩; have K5 : Below w14.heap.size w14 w19 := btrans K4 hb19; have P5 := PpsAt.of_own hq5; replace hq5 := Lib.hid hq5)
    | (go_at_call 15; (with_reducible refine (NX.out _ p (hp13.out.below K3)).mono ?_); rintro e w18 ⟨a4, c4, rfl, hq4, hb18⟩; have K4 : Below w14.heap.size w14 w18 := btrans K3 hb18; have P4 := PpsAt.of_own hq4; replace hq4 := Lib.hid hq4)
    | (go_at_call 19; (with_reducible refine (same_yes _ a1 a2 c1 c2 L1 (P1.below hb16) P2 l1.out).mono ?_); rintro e w17 ⟨rfl, hb17⟩; have K3 : Below w14.heap.size w14 w17 := btrans K2 hb17)
    | (go_at_call 20; (with_reducible refine (RFI.out _ (btrans B13.out.below K1)).mono ?_); rintro e w16 ⟨a2, c2, rfl, hq2, hb16⟩; have K2 : Below w14.heap.size w14 w16 := btrans K1 hb16; have P2 := PpsAt.of_own hq2; replace hq2 := Lib.hid hq2)
    | (go_at_call 14; (with_reducible refine (FI.out _ p (hp13.out.below (Below.refl _ _).drew)).mono ?_); rintro e w15 ⟨a1, c1, rfl, hq1, hb15⟩; have K1 : Below w14.heap.size w14 w15 := ⟨hb15.os, hb15.tape, hb15.output, hb15.size, hb15.block⟩; have P1 := PpsAt.of_own hq1; replace hq1 := Lib.hid hq1))
  go_wp2
  go_ret
  exact ⟨rfl, btrans B13.out.below K9⟩
theorem prodTells_walk (W : World) (c : Array Value) (G : GR) (h : rGR W c.toList G) (v : Value) (sets : List (List Bool)) (hv : rSl 1 24 (rSl 1 1 rBool) W [v] sets) (ca : Array Value) (A : AU) (ha : rAU W ca.toList A) (cp : Array Value) (x : PP × PP) (hp : rP2 W cp.toList x) :
    Calls Try.prog 3 #[.agg c, v, .agg ca, .agg cp] W fun e w' => e = .returned (.bool true) ∧ Below W.heap.size W w' := by
  obtain ⟨X, rfl, rfl, rfl, L⟩ := LawIn.of h hv ha
  obtain rfl : cp = #[.int .i64 x.1.node, .int .i64 x.1.state, .int .i64 x.1.turn, .int .i64 x.2.node, .int .i64 x.2.state, .int .i64 x.2.turn] := by
    cases cp; simpa [rP2] using hp
  cases hl : lightB G sets A with
  | false => exact tells_dark W X G sets A x L hl
  | true =>
    cases hn : newB G sets A with
    | true => exact tells_yes W X G sets A x L hl hn
    | false =>
      cases hs : srcB G sets with
      | false => exact tells_nosrc W X G sets A x L hl hs
      | true => exact tells_nonew W X G sets A x L hl hs hn
end Go.Proofs.Ytmlbjfaofppikaa
