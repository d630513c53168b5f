/- The walk of 'ProdBoth'. No conditions but the form's reach. -/
import Derived.Test.YtmlbjfaofppikaaPrBothM
namespace Go.Proofs.Ytmlbjfaofppikaa
open Go.RowKit

set_option maxRecDepth 20000 in
set_option maxHeartbeats 8000000 in
theorem both_dark (W : World) (X : RX) (G : GR) (sets : List (List Bool)) (A : AU) (h : LawIn W X G sets A) (hl : lightB G sets A = false) :
    Calls Try.prog 6 #[.agg (gcells X G).toArray, .slice X.as_ sets.length X.cs, .agg (acells X A).toArray] W fun e w' => e = .returned (.bool true) ∧ Below W.heap.size W w' := by
  obtain ⟨ai, ae, al, as_, bi, bn, ci, ce, cl, cs, di, dn⟩ := X
  have B0 := Box2.start W ⟨ai, ae, al, as_, bi, bn, ci, ce, cl, cs, di, dn⟩ G A
  have LI : Hid (∀ w, Below W.heap.size W w → Calls Try.prog 8 #[.agg #[.slice ai G.init.length ci, .slice ae G.edges.length ce, .slice al G.labels.length cl], .slice as_ sets.length cs, .agg #[.int .i64 A.sets, .slice bi A.init.length di, .slice bn A.nodes.length dn]] w fun e w' => e = .returned (.bool false) ∧ Below w.heap.size w w') := fun w hb => by
    rw [← hl]
    exact light_any w ⟨ai, ae, al, as_, bi, bn, ci, ce, cl, cs, di, dn⟩ G sets A (h.g.below hb) (h.au.below hb)
  have hb0 := Lib.hid B0.below
  clear h hl B0
  go_enter Try.func6, Try.ntmps6
  go_wp2_with fail
  refine (LI.out _ hb0.out).mono ?_
  rintro e w4 ⟨rfl, hb4⟩
  go_wp2_with fail
  refine (awake_true _).mono ?_
  rintro e w5 ⟨rfl, hb5⟩
  go_wp2
  go_ret
  exact ⟨rfl, btrans (btrans hb0.out hb4) hb5⟩
set_option maxRecDepth 20000 in
set_option maxHeartbeats 16000000 in
theorem both_light (W : World) (X : RX) (G : GR) (sets : List (List Bool)) (A : AU) (h : LawIn W X G sets A) (hl : lightB G sets A = true) :
    Calls Try.prog 6 #[.agg (gcells X G).toArray, .slice X.as_ sets.length X.cs, .agg (acells X A).toArray] W fun e w' => e = .returned (.bool true) ∧ Below W.heap.size W w' := by
  have lt := lightB_lt hl
  obtain ⟨z1, z2, z3, z4, z5, z6⟩ := wholeP_len lt 2000
  have hok := wholeP_ok (G := G) (sets := sets) (A := A) lt (m := 2000)
  have hes0 := wholeP_es0 (G := G) (sets := sets) (A := A) (m := 2000)
  have hbp := fun h hi => both_plain (G := G) (sets := sets) (A := A) (m := 2000) (by decide) h hi
  obtain ⟨y1, y2, y3, y4, y5, y6⟩ := wholeP_len lt.bare 2000
  have hval := wholeP_valid (G := G) (sets := []) (A := bare A) (m := 2000)
  obtain ⟨ai, ae, al, as_, bi, bn, ci, ce, cl, cs, di, dn⟩ := X
  have LI : Hid (∀ w, Below W.heap.size W w → Calls Try.prog 8 #[.agg #[.slice ai G.init.length ci, .slice ae G.edges.length ce, .slice al G.labels.length cl], .slice as_ sets.length cs, .agg #[.int .i64 A.sets, .slice bi A.init.length di, .slice bn A.nodes.length dn]] w fun e w' => e = .returned (.bool true) ∧ Below w.heap.size w w') := fun w hb => by
    rw [← hl]
    exact light_any w ⟨ai, ae, al, as_, bi, bn, ci, ce, cl, cs, di, dn⟩ G sets A (h.g.below hb) (h.au.below hb)
  have GR_ : Hid (∀ w, Below W.heap.size W w → Calls Try.prog 10 #[.agg #[.slice ai G.init.length ci, .slice ae G.edges.length ce, .slice al G.labels.length cl], .slice as_ sets.length cs] w (SrcMade G sets w)) := fun w hb => graph_any w ai ae al as_ ci ce cl cs G sets (h.g.below hb) h.ok (h.s.below hb)
  obtain ⟨⟨err, init, s⟩, hP⟩ : ∃ P, P = wholeP G sets A 2000 := ⟨_, rfl⟩
  obtain ⟨⟨err2, init2, s2⟩, hP2⟩ : ∃ P, P = wholeP G [] (bare A) 2000 := ⟨_, rfl⟩
  have WH : Hid (∀ w, Below W.heap.size W w → ∀ v, SrcV w G sets v → Calls Try.prog 23 #[v, .agg #[.int .i64 A.sets, .slice bi A.init.length di, .slice bn A.nodes.length dn], .int .i64 2000] w (Whole4 err init s w)) := fun w hb v hv => by
    have := whole_any w bi bn di dn G sets A 2000 v hv h.ok (h.au.below hb) h.aok lt
    rw [← hP] at this
    exact this
  have RW : Hid (∀ w, Below W.heap.size W w → ∀ a2 c2, NodesAt w a2 (A.nodes.map bareN) → Calls Try.prog 24 #[.agg #[.slice ai G.init.length ci, .slice ae G.edges.length ce, .slice al G.labels.length cl], .slice none 0 0, .agg #[.int .i64 0, .slice bi A.init.length di, .slice a2 A.nodes.length c2], .int .i64 2000] w (Whole4 err2 init2 s2 w)) := fun w hb a2 c2 hN => by
    have := rwhole_any w ⟨ai, ae, al, none, bi, a2, ci, ce, cl, 0, di, c2⟩ G [] (bare A) 2000 ⟨h.g.below hb, SetsAt.nil _ _, ⟨rfl, rfl, (h.au.below hb).init, hN⟩, h.ok, h.aok.bare⟩ lt.bare
    have e2 : (bare A).nodes.length = A.nodes.length := List.length_map _
    rw [← hP2] at this
    simp only [gv, av, e2] at this
    exact this
  rw [← hP] at z1 z2 z3 z4 z5 z6 hok hes0 hbp
  rw [← hP2] at y1 y2 y3 y4 y5 y6 hval hbp
  simp only at z1 z2 z3 z4 z5 z6 hok hes0 hbp y1 y2 y3 y4 y5 y6 hval
  obtain ⟨ni, hni⟩ : ∃ n, n = init.length := ⟨_, rfl⟩
  obtain ⟨ne, hne⟩ : ∃ n, n = s.es.length := ⟨_, rfl⟩
  obtain ⟨nl, hnl⟩ : ∃ n, n = s.labs.length := ⟨_, rfl⟩
  obtain ⟨nq, hnq⟩ : ∃ n, n = s.l.length := ⟨_, rfl⟩
  obtain ⟨nb, hnb⟩ : ∃ n, n = s.ins.length := ⟨_, rfl⟩
  obtain ⟨mi, hmi⟩ : ∃ n, n = init2.length := ⟨_, rfl⟩
  obtain ⟨me, hme⟩ : ∃ n, n = s2.es.length := ⟨_, rfl⟩
  obtain ⟨ml, hml⟩ : ∃ n, n = s2.labs.length := ⟨_, rfl⟩
  obtain ⟨mq, hmq⟩ : ∃ n, n = s2.l.length := ⟨_, rfl⟩
  obtain ⟨mb, hmb⟩ : ∃ n, n = s2.ins.length := ⟨_, rfl⟩
  have iq2 : (mq : Int) ≤ 1000000 := by omega
  have ine : (ne : Int) ≤ 1000000 := by omega
  have B2 : Hid (Box2 W ⟨ai, ae, al, as_, bi, bn, ci, ce, cl, cs, di, dn⟩ G A ((W.alloc (.cells #[.slice ai G.init.length ci, .slice ae G.edges.length ce, .slice al G.labels.length cl] TG)).alloc (.cells #[.int .i64 A.sets, .slice bi A.init.length di, .slice bn A.nodes.length dn] TA))) := Box2.start W ⟨ai, ae, al, as_, bi, bn, ci, ce, cl, cs, di, dn⟩ G A
  have CB : Hid (∀ w, Box2 W ⟨ai, ae, al, as_, bi, bn, ci, ce, cl, cs, di, dn⟩ G A w → w.cell? ⟨W.heap.size, 0, none⟩ = some (.slice ai G.init.length ci) ∧ w.cell? ⟨W.heap.size, 1, none⟩ = some (.slice ae G.edges.length ce) ∧ w.cell? ⟨W.heap.size, 2, none⟩ = some (.slice al G.labels.length cl) ∧ w.cell? ⟨W.heap.size + 1, 0, none⟩ = some (.int .i64 A.sets) ∧ w.cell? ⟨W.heap.size + 1, 1, none⟩ = some (.slice bi A.init.length di) ∧ w.cell? ⟨W.heap.size + 1, 2, none⟩ = some (.slice bn A.nodes.length dn)) := fun w hB => ⟨hB.rg.cell 0, hB.rg.cell 1, hB.rg.cell 2, hB.ra.cell 0, hB.ra.cell 1, hB.ra.cell 2⟩
  have XX : Hid (∀ w e w', Whole4 err init s w e w' → ∃ Y : WX, e = .returned (.tuple #[.agg #[.slice Y.ia ni Y.ic, .slice Y.ea ne Y.ec, .slice Y.la nl Y.lc], .slice Y.qa nq Y.qc, .slice Y.ba nb Y.bc, .int .i64 err]) ∧ ReadsB w.heap.size w' Y init s ∧ Below w.heap.size w w') := fun w e w' h => by
    rw [hni, hne, hnl, hnq, hnb]
    exact h.x
  have XX2 : Hid (∀ w e w', Whole4 err2 init2 s2 w e w' → ∃ Y : WX, e = .returned (.tuple #[.agg #[.slice Y.ia mi Y.ic, .slice Y.ea me Y.ec, .slice Y.la ml Y.lc], .slice Y.qa mq Y.qc, .slice Y.ba mb Y.bc, .int .i64 err2]) ∧ ReadsB w.heap.size w' Y init2 s2 ∧ Below w.heap.size w w') := fun w e w' h => by
    rw [hmi, hme, hml, hmq, hmb]
    exact h.x
  replace hni := Lib.hid hni
  replace hne := Lib.hid hne
  replace hnl := Lib.hid hnl
  replace hnq := Lib.hid hnq
  replace hnb := Lib.hid hnb
  replace hmi := Lib.hid hmi
  replace hme := Lib.hid hme
  replace hml := Lib.hid hml
  replace hmq := Lib.hid hmq
  replace hmb := Lib.hid hmb
  replace hP := Lib.hid hP
  replace hP2 := Lib.hid hP2
  replace hok := Lib.hid hok
  replace hbp := Lib.hid hbp
  replace hval := Lib.hid hval
  replace hes0 := Lib.hid hes0
  replace lt := Lib.hid lt
  have hz12 : Hid (init.length ≤ 1000000 ∧ s.es.length ≤ 1000000 ∧ s.ins.length ≤ 1000000 ∧ (∀ r ∈ s.es, r.length ≤ 1000000) ∧ init2.length ≤ 1000000 ∧ s2.es.length ≤ 1000000 ∧ s2.l.length ≤ 1000000 ∧ (∀ r ∈ s2.es, r.length ≤ 1000000)) := ⟨z1, z2, z4, z6, y1, y2, y5, y6⟩
  have hS := Lib.hid h.s
  have hAU := Lib.hid h.au
  have haok := Lib.hid h.aok
  clear h hl z1 z2 z3 z4 z5 z6 y1 y2 y3 y4 y5 y6
  go_enter Try.func6, Try.ntmps6
  go_wp2_with fail
  generalize ((W.alloc (.cells #[.slice ai G.init.length ci, .slice ae G.edges.length ce, .slice al G.labels.length cl] TG)).alloc (.cells #[.int .i64 A.sets, .slice bi A.init.length di, .slice bn A.nodes.length dn] TA)) = w2 at B2 ⊢
  refine (LI.out _ B2.out.below).mono ?_
  rintro e w3 ⟨rfl, hb3⟩
  have B3 := Lib.hid (B2.out.next hb3)
  clear hb3 LI B2
  obtain ⟨g0, g1, g2, a0, a1, a2⟩ := CB.out w3 B3.out
  have h1l : W.heap.size < w3.heap.size := B3.out.rg.lt
  have h2l : W.heap.size + 1 < w3.heap.size := B3.out.ra.lt
  have hZ : Hid (∀ (w w' : World), Below (w.alloc gzc).heap.size (w.alloc gzc) w' → RowAt w' w.heap.size TG gz) := fun w w' hb => (RowAt.new #[_, _, _] rfl).below hb
  go_upto_region 3 with (fail)
  go_cut [7, 8, 9, 10] (fun gv_ qv bv ev wx => ∃ (z : Nat) (Y : WX), gv_ = .pointer (some ⟨z, 0, none⟩) ∧ qv = .slice Y.qa nq Y.qc ∧ bv = .slice Y.ba nb Y.bc ∧ ev = .int .i64 err ∧ Hid (RowAt wx z TG [.slice Y.ia ni Y.ic, .slice Y.ea ne Y.ec, .slice Y.la nl Y.lc]) ∧ Hid (ReadsB w3.heap.size wx Y init s) ∧ Hid (Below w3.heap.size w3 wx))
  case first =>
    go_region_held3 (fun w' => w'.cell? ⟨W.heap.size, 0, none⟩ = some (.slice ai G.init.length ci) ∧ w'.cell? ⟨W.heap.size, 1, none⟩ = some (.slice ae G.edges.length ce) ∧ w'.cell? ⟨W.heap.size, 2, none⟩ = some (.slice al G.labels.length cl) ∧ w'.cell? ⟨W.heap.size + 1, 0, none⟩ = some (.int .i64 A.sets) ∧ w'.cell? ⟨W.heap.size + 1, 1, none⟩ = some (.slice bi A.init.length di) ∧ w'.cell? ⟨W.heap.size + 1, 2, none⟩ = some (.slice bn A.nodes.length dn)) (first | exact CB.out _ (B3.out.next (set3_below (btrans K1 hb5) K1.size)) | exact CB.out _ (B3.out.next (set3_below (btrans K1 hb5) (Nat.le_refl _))) | exact CB.out _ (B3.out.next (set3_below (btrans KA hb5) K1.size)) | exact CB.out _ (B3.out.next (balloc (btrans K1 hb5) _)) | exact CB.out _ (B3.out.next (btrans K1 hb5)) | exact CB.out _ (B3.out.next (btrans KA hb5)) | exact CB.out _ (B3.out.next (balloc K1 _)) | exact CB.out _ (B3.out.next K1) | exact CB.out _ (B3.out.next (balloc (Below.refl _ _) _).drew) | exact CB.out _ B3.out | exact CB.out _ (B3.out.next (Below.refl _ _).drew)) (first
      | (go_at_call 23; (with_reducible refine (WH.out _ (btrans B3.out.below KA) v (hsv.out.below (balloc (Below.refl _ _) _))).mono ?_); rintro e w5 h5; replace h5 := Lib.hid h5; obtain ⟨Y, rfl, hr5, hb5⟩ := XX.out _ _ _ h5.out; have rz := hZ.out w4 w5 hb5; have z0 : w5.cell? ⟨w4.heap.size, 0, none⟩ = some (.slice none 0 0) := rz.cell 0; have z1 : w5.cell? ⟨w4.heap.size, 1, none⟩ = some (.slice none 0 0) := rz.cell 1; have z2 : w5.cell? ⟨w4.heap.size, 2, none⟩ = some (.slice none 0 0) := rz.cell 2; have fz0 : w5.frozen? ⟨w4.heap.size, 0, none⟩ = false := rz.free 0; have fz1 : w5.frozen? ⟨w4.heap.size, 1, none⟩ = false := rz.free 1; have fz2 : w5.frozen? ⟨w4.heap.size, 2, none⟩ = false := rz.free 2; replace rz := Lib.hid rz)
      | (go_at_call 23; have tok := KZ; (with_reducible refine (WH.out _ (btrans B3.out.below K1) v hsv.out).mono ?_); rintro e w5 h5; replace h5 := Lib.hid h5; obtain ⟨Y, rfl, hr5, hb5⟩ := XX.out _ _ _ h5.out; have rz := (hZ.out w3 w4 KZ).below hb5; have z0 : w5.cell? ⟨w3.heap.size, 0, none⟩ = some (.slice none 0 0) := rz.cell 0; have z1 : w5.cell? ⟨w3.heap.size, 1, none⟩ = some (.slice none 0 0) := rz.cell 1; have z2 : w5.cell? ⟨w3.heap.size, 2, none⟩ = some (.slice none 0 0) := rz.cell 2; have fz0 : w5.frozen? ⟨w3.heap.size, 0, none⟩ = false := rz.free 0; have fz1 : w5.frozen? ⟨w3.heap.size, 1, none⟩ = false := rz.free 1; have fz2 : w5.frozen? ⟨w3.heap.size, 2, none⟩ = false := rz.free 2; replace rz := Lib.hid rz)
      | (go_at_call 23; (with_reducible refine (WH.out _ (btrans B3.out.below K1) v hsv.out).mono ?_); rintro e w5 h5; replace h5 := Lib.hid h5; obtain ⟨Y, rfl, hr5, hb5⟩ := XX.out _ _ _ h5.out)
      | (go_at_call 10; (with_reducible refine (GR_.out _ (balloc B3.out.below _).drew).mono ?_); rintro e w4 h4; have hb4 := h4.1; replace h4 := Lib.hid h4; obtain ⟨v, rfl, hsv⟩ := h4.out.v; replace hsv := Lib.hid hsv; have KZ : Below (w3.alloc gzc).heap.size (w3.alloc gzc) w4 := ⟨hb4.os, hb4.tape, hb4.output, hb4.size, hb4.block⟩; have K1 : Below w3.heap.size w3 w4 := btrans (balloc (Below.refl _ _) _) KZ; obtain ⟨g0', g1', g2', a0', a1', a2'⟩ := CB.out w4 (B3.out.next K1))
      | (go_at_call 10; (with_reducible refine (GR_.out _ B3.out.below.drew).mono ?_); rintro e w4 h4; have hb4 := h4.1; replace h4 := Lib.hid h4; obtain ⟨v, rfl, hsv⟩ := h4.out.v; replace hsv := Lib.hid hsv; have K1 : Below w3.heap.size w3 w4 := ⟨hb4.os, hb4.tape, hb4.output, hb4.size, hb4.block⟩; obtain ⟨g0', g1', g2', a0', a1', a2'⟩ := CB.out w4 (B3.out.next K1); have KA : Below w3.heap.size w3 (w4.alloc gzc) := balloc K1 _; have h1l4 : W.heap.size < w4.heap.size := (by have := K1.size; omega); have h2l4 : W.heap.size + 1 < w4.heap.size := (by have := K1.size; omega)))
    all_goals (
      go_wp2_with fail
      go_meet
      first
        | exact ⟨w5.heap.size, Y, rfl, rfl, rfl, rfl, RowAt.new #[_, _, _] rfl, (hr5.below (balloc (Below.refl _ _) _)).keeps (Keeps.refl _ _) K1.size, balloc (btrans K1 hb5) _⟩
        | exact ⟨w4.heap.size, Y, rfl, rfl, rfl, rfl, ((rz.out.set 0 _).set 1 _).set 2 _, law_a hr5 K1.size, law_b (btrans KA hb5) K1.size⟩
        | exact ⟨w3.heap.size, Y, rfl, rfl, rfl, rfl, ((rz.out.set 0 _).set 1 _).set 2 _, law_c hr5 KZ, law_b (btrans K1 hb5) (Nat.le_refl _)⟩)
  case rest =>
    obtain ⟨z, Y, rfl, rfl, rfl, rfl, hrz, hRd, hbc⟩ := hcut
    have B4 := Lib.hid (B3.out.next hbc.out)
    obtain ⟨w4, hw4⟩ : ∃ x, x = wc := ⟨_, rfl⟩
    subst hw4
    have hzl := hrz.out.lt
    have u1 : w4.cell? ⟨z, 1, none⟩ = some (.slice Y.ea ne Y.ec) := hrz.out.cell 1
    clear g0 g1 g2 a0 a1 a2 hZ GR_ WH XX h1l h2l
    by_cases he : err = 0
    · subst he
      obtain ⟨hn, hin1, hin2⟩ := hok.out rfl
      obtain ⟨he2, hiff⟩ := hbp.out rfl (ins_map hin1 hin2)
      subst he2
      have hv2 := Lib.hid (hval.out rfl)
      obtain ⟨hs, hc⟩ := newB_split hn
      have s16 := (src_sets hs).2.1
      obtain ⟨_, _, hrow⟩ := src_sets hs
      obtain ⟨c0, c16, _⟩ := chk_sets hc
      obtain ⟨sn, hsn⟩ := Int.eq_ofNat_of_zero_le c0
      obtain ⟨N, hN⟩ : ∃ N, N = sn + sets.length := ⟨_, rfl⟩
      have hall : allS sets A = N := by unfold allS; rw [hsn, hN]; rfl
      have hsn16 : (sn : Int) ≤ 16 := by omega
      have hns16 : (sets.length : Int) ≤ 16 := by omega
      have hN32 : (N : Int) ≤ 32 := by omega
      obtain ⟨bb, hbb⟩ : ∃ b : Bool, b = true ↔ SomeP init s.es [s.ins] := by
        by_cases h : SomeP init s.es [s.ins]
        · exact ⟨true, fun _ => h, fun _ => rfl⟩
        · exact ⟨false, fun h => (by cases h), fun k => absurd k h⟩
      have hbb2 := hbb.trans hiff
      rw [hall] at hbb2
      obtain ⟨S0, hS1, hS2, hS3⟩ := bare_rows (hAU.out.below B4.out.below).nodes
      obtain ⟨nn, hnn⟩ : ∃ n, n = A.nodes.length := ⟨_, rfl⟩
      have hnn8 : (nn : Int) ≤ 8 := by have := lt.out.n; omega
      rw [← hnn] at hS1 RW CB
      obtain ⟨g0, g1, g2, a0, a1, a2⟩ := CB.out w4 B4.out
      have h2l : W.heap.size + 1 < w4.heap.size := B4.out.ra.lt
      have st0 : Hid (BnSt w4 (w4.alloc (.cells #[.int .i64 0, .slice bi A.init.length di, .slice none 0 0] TA)) w4.heap.size (w4.heap.size + 1) (.slice bi A.init.length di) S0 0 none 0) :=
        ⟨balloc (Below.refl _ _) _, RowAt.new #[_, _, _] rfl, OwnR.nil _ _ _ _, Nat.le_refl _, Nat.lt_succ_self _, by simp⟩
      replace hS1 := Lib.hid hS1
      replace hS2 := Lib.hid hS2
      replace hS3 := Lib.hid hS3
      replace hnn := Lib.hid hnn
      replace hbb := Lib.hid hbb
      replace hbb2 := Lib.hid hbb2
      replace hrow := Lib.hid hrow
      replace hsn := Lib.hid hsn
      replace hN := Lib.hid hN
      have hgs := Lib.hid hs
      have hgc := Lib.hid hc
      clear hok hbp hval hes0 hin1 hin2 hiff s16 c0 c16 hall hs hc u1 hn hzl
      go_wp2
      clear a0 a1 a2 g0 g1 g2
      go_loopw [12] (fun iv wr => ∃ (k : Nat) (a : Option Addr) (c : Nat), iv = .int .i64 k ∧ k ≤ nn ∧ Hid (BnSt w4 wr w4.heap.size (w4.heap.size + 1) (.slice bi A.init.length di) S0 k a c)) (fun iv _ => nn - (intOf iv).toNat)
      case atStart => exact ⟨0, none, 0, rfl, Nat.zero_le _, st0⟩
      case round =>
        obtain ⟨k, a, c, rfl, hk, st⟩ := hrel
        clear st0
        have B5 := Lib.hid (B4.out.next st.out.low)
        have a2 : wr.cell? ⟨W.heap.size + 1, 2, none⟩ = some (.slice bn nn dn) := (CB.out wr B5.out).2.2.2.2.2
        by_cases hkn : k < nn
        · have hkN : (k : Int) < (nn : Int) := by omega
          have hkS : k < S0.length := by have := hS1.out; omega
          have hb := hS3.out k hkS
          have hsk : Hid (S0[k]? = some S0[k]) := List.getElem?_eq_getElem hkS
          obtain ⟨b0, o0, rfl, n0, n1, n3⟩ := hb.at_
          have hinn := hb.inn
          generalize S0[k] = sk at hsk n0 n1 n3 hinn
          obtain ⟨xa, xc, xn, xb, xi, xt⟩ := sk
          simp only at n0 n1 n3 hinn
          subst hinn
          have hl0_ := World.block_lt_of_cell? w4 _ n0
          replace n0 := bcell st.out.low n0
          replace n1 := bcell st.out.low n1
          replace n3 := bcell st.out.low n3
          have p3 : wr.cell? ⟨w4.heap.size, 2, none⟩ = some (.slice a k c) := st.out.row.cell 2
          have hpl : w4.heap.size < wr.heap.size := st.out.row.lt
          have hkS2 : Hid ((S0.take k).length = k) := by show _ = _; rw [List.length_take]; omega
          have OW : Hid (OwnR ((wr.alloc (.cells #[.int .u64 xn, .int .u64 xb, .int .u64 0, .slice xa xt.length xc] TN)).drew) (w4.heap.size + 1) TN 4 a k c (ncells (S0.take k))) :=
            st.out.own.keeps (Keeps.of_below (S := fun _ => False) ((balloc (Below.refl _ _) (.cells #[.int .u64 xn, .int .u64 xb, .int .u64 0, .slice xa xt.length xc] TN)).drew)) (fun _ _ h => h)
          have nc : Hid (∀ j u, [Value.int .u64 xn, .int .u64 xb, .int .u64 0, .slice xa xt.length xc][j]? = some u → ((wr.alloc (.cells #[.int .u64 xn, .int .u64 xb, .int .u64 0, .slice xa xt.length xc] TN)).drew).cell? ((⟨wr.heap.size, 0, none⟩ : Addr).add j) = some u) := new_cells wr #[.int .u64 xn, .int .u64 xb, .int .u64 0, .slice xa xt.length xc] TN rfl
          have oc : Hid (∀ u ∈ [Value.int .u64 xn, .int .u64 xb, .int .u64 0, .slice xa xt.length xc], u.oneCell' = true) := fun u hu => by simp at hu; rcases hu with rfl | rfl | rfl | rfl <;> rfl
          have n5 : Hid (k + 1 ≤ maxLen) := by show _ ≤ _; unfold maxLen; omega
          have y5 : Hid ((k + 1) * 48 ≤ 140737488355328) := by show _ ≤ _; omega
          have hAA : Hid (Below wr.heap.size wr ((wr.alloc (.cells #[.int .u64 xn, .int .u64 xb, .int .u64 0, .slice xa xt.length xc] TN)).drew)) := (balloc (Below.refl _ _) _).drew
          have hBA : Hid (w4.heap.size + 1 ≤ ((wr.alloc (.cells #[.int .u64 xn, .int .u64 xb, .int .u64 0, .slice xa xt.length xc] TN)).drew).heap.size) := by
            have := st.out.h3
            have := hAA.out.size
            show _ ≤ _
            omega
          have T3 : Hid (∀ (w5 : World), ((wr.alloc (.cells #[.int .u64 xn, .int .u64 xb, .int .u64 0, .slice xa xt.length xc] TN)).drew).grownBy w5 (OB a k c) → w5.frozen? ⟨w4.heap.size, 2, none⟩ = false ∧ w5.cell? ⟨w4.heap.size, 2, none⟩ = some (.slice a k c)) := fun w5 hg => by
            have hk1 : Keeps wr w5 (fun j => OB a k c = some j) := (Keeps.of_below (S := fun j => OB a k c = some j) hAA.out).trans (Keeps.of_grown (S := fun j => OB a k c = some j) hg (fun j e => e)) (fun _ _ h => h)
            have hr := st.out.row.keeps hk1 (fun e => by have := (OwnR.lt st.out.own e).1; omega)
            exact ⟨hr.free 2, hr.cell 2⟩
          have hl0 : b0 < w4.heap.size := hl0_
          have CL : Hid (∀ w', Keeps wr w' (fun j => w4.heap.size ≤ j) → w'.cell? ⟨W.heap.size + 1, 2, none⟩ = some (.slice (some ⟨b0, o0, none⟩) nn dn) ∧ w'.cell? ⟨b0, o0 + k * 4, none⟩ = some (.int .u64 xn) ∧ w'.cell? ⟨b0, o0 + k * 4 + 1, none⟩ = some (.int .u64 xb) ∧ w'.cell? ⟨b0, o0 + k * 4 + 3, none⟩ = some (.slice xa xt.length xc)) := fun w' hk => by
            have hz4 := st.out.low.size
            refine ⟨?_, ?_, ?_, ?_⟩
            · rw [World.cell?_of_block (a := ⟨W.heap.size + 1, 2, none⟩) (hk.block _ (by simp only; omega) (by simp only; omega))]; exact a2
            · rw [World.cell?_of_block (a := ⟨b0, o0 + k * 4, none⟩) (hk.block _ (by simp only; omega) (by simp only; omega))]; exact n0
            · rw [World.cell?_of_block (a := ⟨b0, o0 + k * 4 + 1, none⟩) (hk.block _ (by simp only; omega) (by simp only; omega))]; exact n1
            · rw [World.cell?_of_block (a := ⟨b0, o0 + k * 4 + 3, none⟩) (hk.block _ (by simp only; omega) (by simp only; omega))]; exact n3
          have T4 : Hid (∀ (w5 : World), ((wr.alloc (.cells #[.int .u64 xn, .int .u64 xb, .int .u64 0, .slice xa xt.length xc] TN)).drew).grownBy w5 (OB a k c) → Keeps wr w5 (fun j => w4.heap.size ≤ j)) := fun w5 hg =>
            (Keeps.of_below (S := fun j => w4.heap.size ≤ j) hAA.out).trans (Keeps.of_grown (S := fun j => w4.heap.size ≤ j) hg (fun j e => by have := (OwnR.lt st.out.own e).1; omega)) (fun _ _ h => h)
          have T5 : Hid (∀ (w5 : World) v, ((wr.alloc (.cells #[.int .u64 xn, .int .u64 xb, .int .u64 0, .slice xa xt.length xc] TN)).drew).grownBy w5 (OB a k c) → Keeps wr (w5.setCell ⟨w4.heap.size, 2, none⟩ v) (fun j => w4.heap.size ≤ j)) := fun w5 v hg =>
            (T4.out w5 hg).trans (Keeps.set (S := fun j => w4.heap.size ≤ j) w5 w4.heap.size 2 v (Nat.le_refl _)) (fun _ _ h => h)
          clear B5 hb hl0_
          go_wp2
          refine wp_region_held_drew (S := (fun w' => w'.cell? ⟨W.heap.size + 1, 2, none⟩ = some (.slice (some ⟨b0, o0, none⟩) nn dn) ∧ w'.cell? ⟨b0, o0 + k * 4, none⟩ = some (.int .u64 xn) ∧ w'.cell? ⟨b0, o0 + k * 4 + 1, none⟩ = some (.int .u64 xb) ∧ w'.cell? ⟨b0, o0 + k * 4 + 3, none⟩ = some (.slice xa xt.length xc))) (by kernel_rfl) (CL.out _ (Keeps.of_below (Below.refl _ _).drew)) (fun hHeld => ?_)
          refine wpAnyH_take (i := 0) (oi := ({ dst := some 56, op := Go.Op.fieldAddr 30 (Go.Operand.tmp 11) 2, type := 0, pos := "law.go:104", after := #[], guard := none } : Oper)) (v := ?_) rfl (by kernel_rfl) (by kernel_rfl) (by kernel_rfl) (fun _ _ _ h => h) (Or.inl ⟨by rfl, ?_⟩) (by assumption) ?_
          case refine_2 => (intro w hSw; (try dsimp only at hSw); go_simp; try with_reducible rfl)
          try simp only [Act.put, List.setIfInBounds_toArray, List.set_cons_zero, List.set_cons_succ]
          refine wpAnyH_take (i := 2) (oi := ({ dst := some 58, op := Go.Op.fieldAddr 30 (Go.Operand.tmp 5) 2, type := 0, pos := "law.go:104", after := #[], guard := none } : Oper)) (v := ?_) rfl (by kernel_rfl) (by kernel_rfl) (by kernel_rfl) (fun _ _ _ h => h) (Or.inl ⟨by rfl, ?_⟩) (by assumption) ?_
          case refine_2 => (intro w hSw; (try dsimp only at hSw); go_simp; try with_reducible rfl)
          try simp only [Act.put, List.setIfInBounds_toArray, List.set_cons_zero, List.set_cons_succ]
          refine wpAnyH_take (i := 3) (oi := ({ dst := some 59, op := Go.Op.load 28 (Go.Operand.tmp 58), type := 28, pos := "law.go:104", after := #[{ on := 2, ground := Go.Ground.data }], guard := none } : Oper)) (v := ?_) rfl (by kernel_rfl) (by kernel_rfl) (by kernel_rfl) (fun _ _ _ h => h) (Or.inl ⟨by rfl, ?_⟩) (by assumption) ?_
          case refine_2 => (intro w hSw; (try dsimp only at hSw); go_simp; try with_reducible rfl)
          try simp only [Act.put, List.setIfInBounds_toArray, List.set_cons_zero, List.set_cons_succ]
          refine wpAnyH_take (i := 4) (oi := ({ dst := some 60, op := Go.Op.move (Go.Operand.tmp 12), type := 3, pos := "law.go:104", after := #[], guard := none } : Oper)) (v := ?_) rfl (by kernel_rfl) (by kernel_rfl) (by kernel_rfl) (fun _ _ _ h => h) (Or.inl ⟨by rfl, ?_⟩) (by assumption) ?_
          case refine_2 => (intro w hSw; (try dsimp only at hSw); go_simp; try with_reducible rfl)
          try simp only [Act.put, List.setIfInBounds_toArray, List.set_cons_zero, List.set_cons_succ]
          refine wpAnyH_take (i := 5) (oi := ({ dst := some 61, op := Go.Op.indexAddr 28 (Go.Operand.tmp 59) (Go.Operand.tmp 60), type := 0, pos := "law.go:104", after := #[{ on := 3, ground := Go.Ground.data }, { on := 4, ground := Go.Ground.data }], guard := none } : Oper)) (v := ?_) rfl (by kernel_rfl) (by kernel_rfl) (by kernel_rfl) (fun _ _ _ h => h) (Or.inl ⟨by rfl, ?_⟩) (by assumption) ?_
          case refine_2 => (intro w hSw; (try dsimp only at hSw); go_simp; try with_reducible rfl)
          try simp only [Act.put, List.setIfInBounds_toArray, List.set_cons_zero, List.set_cons_succ]
          refine wpAnyH_take (i := 6) (oi := ({ dst := some 62, op := Go.Op.fieldAddr 75 (Go.Operand.tmp 61) 0, type := 0, pos := "law.go:104", after := #[{ on := 5, ground := Go.Ground.data }], guard := none } : Oper)) (v := ?_) rfl (by kernel_rfl) (by kernel_rfl) (by kernel_rfl) (fun _ _ _ h => h) (Or.inl ⟨by rfl, ?_⟩) (by assumption) ?_
          case refine_2 => (intro w hSw; (try dsimp only at hSw); go_simp; try with_reducible rfl)
          try simp only [Act.put, List.setIfInBounds_toArray, List.set_cons_zero, List.set_cons_succ]
          refine wpAnyH_take (i := 7) (oi := ({ dst := some 63, op := Go.Op.load 73 (Go.Operand.tmp 62), type := 73, pos := "law.go:104", after := #[{ on := 6, ground := Go.Ground.data }], guard := none } : Oper)) (v := ?_) rfl (by kernel_rfl) (by kernel_rfl) (by kernel_rfl) (fun _ _ _ h => h) (Or.inl ⟨by rfl, ?_⟩) (by assumption) ?_
          case refine_2 => (intro w hSw; (try dsimp only at hSw); go_simp; try with_reducible rfl)
          try simp only [Act.put, List.setIfInBounds_toArray, List.set_cons_zero, List.set_cons_succ]
          refine wpAnyH_take (i := 8) (oi := ({ dst := some 64, op := Go.Op.fieldAddr 30 (Go.Operand.tmp 5) 2, type := 0, pos := "law.go:104", after := #[], guard := none } : Oper)) (v := ?_) rfl (by kernel_rfl) (by kernel_rfl) (by kernel_rfl) (fun _ _ _ h => h) (Or.inl ⟨by rfl, ?_⟩) (by assumption) ?_
          case refine_2 => (intro w hSw; (try dsimp only at hSw); go_simp; try with_reducible rfl)
          try simp only [Act.put, List.setIfInBounds_toArray, List.set_cons_zero, List.set_cons_succ]
          refine wpAnyH_take (i := 9) (oi := ({ dst := some 65, op := Go.Op.load 28 (Go.Operand.tmp 64), type := 28, pos := "law.go:104", after := #[{ on := 8, ground := Go.Ground.data }], guard := none } : Oper)) (v := ?_) rfl (by kernel_rfl) (by kernel_rfl) (by kernel_rfl) (fun _ _ _ h => h) (Or.inl ⟨by rfl, ?_⟩) (by assumption) ?_
          case refine_2 => (intro w hSw; (try dsimp only at hSw); go_simp; try with_reducible rfl)
          try simp only [Act.put, List.setIfInBounds_toArray, List.set_cons_zero, List.set_cons_succ]
          refine wpAnyH_take (i := 10) (oi := ({ dst := some 66, op := Go.Op.move (Go.Operand.tmp 12), type := 3, pos := "law.go:104", after := #[], guard := none } : Oper)) (v := ?_) rfl (by kernel_rfl) (by kernel_rfl) (by kernel_rfl) (fun _ _ _ h => h) (Or.inl ⟨by rfl, ?_⟩) (by assumption) ?_
          case refine_2 => (intro w hSw; (try dsimp only at hSw); go_simp; try with_reducible rfl)
          try simp only [Act.put, List.setIfInBounds_toArray, List.set_cons_zero, List.set_cons_succ]
          refine wpAnyH_take (i := 11) (oi := ({ dst := some 67, op := Go.Op.indexAddr 28 (Go.Operand.tmp 65) (Go.Operand.tmp 66), type := 0, pos := "law.go:104", after := #[{ on := 9, ground := Go.Ground.data }, { on := 10, ground := Go.Ground.data }], guard := none } : Oper)) (v := ?_) rfl (by kernel_rfl) (by kernel_rfl) (by kernel_rfl) (fun _ _ _ h => h) (Or.inl ⟨by rfl, ?_⟩) (by assumption) ?_
          case refine_2 => (intro w hSw; (try dsimp only at hSw); go_simp; try with_reducible rfl)
          try simp only [Act.put, List.setIfInBounds_toArray, List.set_cons_zero, List.set_cons_succ]
          refine wpAnyH_take (i := 12) (oi := ({ dst := some 68, op := Go.Op.fieldAddr 75 (Go.Operand.tmp 67) 1, type := 0, pos := "law.go:104", after := #[{ on := 11, ground := Go.Ground.data }], guard := none } : Oper)) (v := ?_) rfl (by kernel_rfl) (by kernel_rfl) (by kernel_rfl) (fun _ _ _ h => h) (Or.inl ⟨by rfl, ?_⟩) (by assumption) ?_
          case refine_2 => (intro w hSw; (try dsimp only at hSw); go_simp; try with_reducible rfl)
          try simp only [Act.put, List.setIfInBounds_toArray, List.set_cons_zero, List.set_cons_succ]
          refine wpAnyH_take (i := 13) (oi := ({ dst := some 69, op := Go.Op.load 73 (Go.Operand.tmp 68), type := 73, pos := "law.go:104", after := #[{ on := 12, ground := Go.Ground.data }], guard := none } : Oper)) (v := ?_) rfl (by kernel_rfl) (by kernel_rfl) (by kernel_rfl) (fun _ _ _ h => h) (Or.inl ⟨by rfl, ?_⟩) (by assumption) ?_
          case refine_2 => (intro w hSw; (try dsimp only at hSw); go_simp; try with_reducible rfl)
          try simp only [Act.put, List.setIfInBounds_toArray, List.set_cons_zero, List.set_cons_succ]
          refine wpAnyH_take (i := 14) (oi := ({ dst := some 70, op := Go.Op.fieldAddr 30 (Go.Operand.tmp 5) 2, type := 0, pos := "law.go:104", after := #[], guard := none } : Oper)) (v := ?_) rfl (by kernel_rfl) (by kernel_rfl) (by kernel_rfl) (fun _ _ _ h => h) (Or.inl ⟨by rfl, ?_⟩) (by assumption) ?_
          case refine_2 => (intro w hSw; (try dsimp only at hSw); go_simp; try with_reducible rfl)
          try simp only [Act.put, List.setIfInBounds_toArray, List.set_cons_zero, List.set_cons_succ]
          refine wpAnyH_take (i := 15) (oi := ({ dst := some 71, op := Go.Op.load 28 (Go.Operand.tmp 70), type := 28, pos := "law.go:104", after := #[{ on := 14, ground := Go.Ground.data }], guard := none } : Oper)) (v := ?_) rfl (by kernel_rfl) (by kernel_rfl) (by kernel_rfl) (fun _ _ _ h => h) (Or.inl ⟨by rfl, ?_⟩) (by assumption) ?_
          case refine_2 => (intro w hSw; (try dsimp only at hSw); go_simp; try with_reducible rfl)
          try simp only [Act.put, List.setIfInBounds_toArray, List.set_cons_zero, List.set_cons_succ]
          refine wpAnyH_take (i := 16) (oi := ({ dst := some 72, op := Go.Op.move (Go.Operand.tmp 12), type := 3, pos := "law.go:104", after := #[], guard := none } : Oper)) (v := ?_) rfl (by kernel_rfl) (by kernel_rfl) (by kernel_rfl) (fun _ _ _ h => h) (Or.inl ⟨by rfl, ?_⟩) (by assumption) ?_
          case refine_2 => (intro w hSw; (try dsimp only at hSw); go_simp; try with_reducible rfl)
          try simp only [Act.put, List.setIfInBounds_toArray, List.set_cons_zero, List.set_cons_succ]
          refine wpAnyH_take (i := 17) (oi := ({ dst := some 73, op := Go.Op.indexAddr 28 (Go.Operand.tmp 71) (Go.Operand.tmp 72), type := 0, pos := "law.go:104", after := #[{ on := 15, ground := Go.Ground.data }, { on := 16, ground := Go.Ground.data }], guard := none } : Oper)) (v := ?_) rfl (by kernel_rfl) (by kernel_rfl) (by kernel_rfl) (fun _ _ _ h => h) (Or.inl ⟨by rfl, ?_⟩) (by assumption) ?_
          case refine_2 => (intro w hSw; (try dsimp only at hSw); go_simp; try with_reducible rfl)
          try simp only [Act.put, List.setIfInBounds_toArray, List.set_cons_zero, List.set_cons_succ]
          refine wpAnyH_take (i := 18) (oi := ({ dst := some 74, op := Go.Op.fieldAddr 75 (Go.Operand.tmp 73) 3, type := 0, pos := "law.go:104", after := #[{ on := 17, ground := Go.Ground.data }], guard := none } : Oper)) (v := ?_) rfl (by kernel_rfl) (by kernel_rfl) (by kernel_rfl) (fun _ _ _ h => h) (Or.inl ⟨by rfl, ?_⟩) (by assumption) ?_
          case refine_2 => (intro w hSw; (try dsimp only at hSw); go_simp; try with_reducible rfl)
          try simp only [Act.put, List.setIfInBounds_toArray, List.set_cons_zero, List.set_cons_succ]
          refine wpAnyH_take (i := 19) (oi := ({ dst := some 75, op := Go.Op.load 22 (Go.Operand.tmp 74), type := 22, pos := "law.go:104", after := #[{ on := 18, ground := Go.Ground.data }], guard := none } : Oper)) (v := ?_) rfl (by kernel_rfl) (by kernel_rfl) (by kernel_rfl) (fun _ _ _ h => h) (Or.inl ⟨by rfl, ?_⟩) (by assumption) ?_
          case refine_2 => (intro w hSw; (try dsimp only at hSw); go_simp; try with_reducible rfl)
          try simp only [Act.put, List.setIfInBounds_toArray, List.set_cons_zero, List.set_cons_succ]
          refine wpAnyH_take (i := 20) (oi := ({ dst := some 76, op := Go.Op.build 75 #[(0, Go.Operand.tmp 63), (1, Go.Operand.tmp 69), (3, Go.Operand.tmp 75)], type := 75, pos := "law.go:104", after := #[{ on := 7, ground := Go.Ground.data }, { on := 13, ground := Go.Ground.data }, { on := 19, ground := Go.Ground.data }], guard := none } : Oper)) (v := ?_) rfl (by kernel_rfl) (by kernel_rfl) (by kernel_rfl) (fun _ _ _ h => h) (Or.inl ⟨by rfl, ?_⟩) (by assumption) ?_
          case refine_2 => (intro w hSw; (try dsimp only at hSw); go_simp; try with_reducible rfl)
          try simp only [Act.put, List.setIfInBounds_toArray, List.set_cons_zero, List.set_cons_succ]
          refine wpAnyH_ready (rs := [1, 21]) (by kernel_rfl) (by simp) ?_
          refine AllReadyH.cons (o := ({ dst := some 57, op := Go.Op.load 28 (Go.Operand.tmp 56), type := 28, pos := "law.go:104", after := #[{ on := 0, ground := Go.Ground.data }], guard := none } : Oper)) rfl (fun K hK => ?_) (AllReadyH.cons (o := ({ dst := some 77, op := Go.Op.buildSlice 28 1 #[(0, Go.Operand.tmp 76)], type := 28, pos := "law.go:104", after := #[{ on := 20, ground := Go.Ground.data }], guard := none } : Oper)) rfl (fun K hK => ?_) AllReadyH.nil)
          · go_simp
            clear hHeld
            refine hK.out _ _ (CL.out _ (Keeps.of_below (Below.refl _ _).drew)) (fun hHeld => ?_)
            clear hK K
            try simp only [Act.put, List.setIfInBounds_toArray, List.set_cons_zero, List.set_cons_succ]
            refine wpAnyH_ready (rs := [21]) (by kernel_rfl) (by simp) ?_
            refine AllReadyH.cons (o := ({ dst := some 77, op := Go.Op.buildSlice 28 1 #[(0, Go.Operand.tmp 76)], type := 28, pos := "law.go:104", after := #[{ on := 20, ground := Go.Ground.data }], guard := none } : Oper)) rfl (fun K hK => ?_) AllReadyH.nil
            go_simp
            clear hHeld
            refine hK.out _ _ (CL.out _ (Keeps.of_below hAA.out)) (fun hHeld => ?_)
            clear hK K
            try simp only [Act.put, List.setIfInBounds_toArray, List.set_cons_zero, List.set_cons_succ]
            refine wpAnyH_ready (rs := [22]) (by kernel_rfl) (by simp) ?_
            refine AllReadyH.cons (o := ({ dst := some 78, op := Go.Op.call { callee := Go.Callee.builtin Go.Builtin.append, args := #[Go.Operand.tmp 57, Go.Operand.tmp 77], argTypes := #[28, 28] }, type := 28, pos := "law.go:104", after := #[{ on := 1, ground := Go.Ground.data }, { on := 21, ground := Go.Ground.data }], guard := none } : Oper)) rfl (fun K hK => ?_) AllReadyH.nil
            (refine step_appR ?_ (.tmp 57) (.tmp 77) 28 TN (.agg #[.int .u64 0, .int .u64 0, .int .u64 0, .slice none 0 0]) 4 48 ?_ Try.underlying28 infoN rfl (by decide) (w4.heap.size + 1) a k c (ncells (S0.take k)) ?_ OW.out wr.heap.size 1 [.int .u64 xn, .int .u64 xb, .int .u64 0, .slice xa xt.length xc] ?_ rfl nc.out oc.out n5.out y5.out hBA.out ?_; exact rfl; exact rfl; exact rfl; exact rfl; intro a6 c6 w5 ho5 hg5 hat5; obtain ⟨f5, d5⟩ := T3.out w5 hg5; replace ho5 := Lib.hid ho5; replace hg5 := Lib.hid hg5; replace hat5 := Lib.hid hat5)
            clear hHeld
            refine hK.out _ _ (CL.out _ (T4.out _ hg5.out)) (fun hHeld => ?_)
            clear hK K
            try simp only [Act.put, List.setIfInBounds_toArray, List.set_cons_zero, List.set_cons_succ]
            refine wpAnyH_take (i := 23) (oi := ({ dst := some 79, op := Go.Op.fieldAddr 30 (Go.Operand.tmp 11) 2, type := 0, pos := "law.go:104", after := #[{ on := 0, ground := Go.Ground.phase }, { on := 1, ground := Go.Ground.phase }, { on := 2, ground := Go.Ground.phase }, { on := 3, ground := Go.Ground.phase }, { on := 4, ground := Go.Ground.phase }, { on := 5, ground := Go.Ground.phase }, { on := 6, ground := Go.Ground.phase }, { on := 7, ground := Go.Ground.phase }, { on := 8, ground := Go.Ground.phase }, { on := 9, ground := Go.Ground.phase }, { on := 10, ground := Go.Ground.phase }, { on := 11, ground := Go.Ground.phase }, { on := 12, ground := Go.Ground.phase }, { on := 13, ground := Go.Ground.phase }, { on := 14, ground := Go.Ground.phase }, { on := 15, ground := Go.Ground.phase }, { on := 16, ground := Go.Ground.phase }, { on := 17, ground := Go.Ground.phase }, { on := 18, ground := Go.Ground.phase }, { on := 19, ground := Go.Ground.phase }, { on := 20, ground := Go.Ground.phase }, { on := 21, ground := Go.Ground.phase }, { on := 22, ground := Go.Ground.phase }], guard := none } : Oper)) (v := ?_) rfl (by kernel_rfl) (by kernel_rfl) (by kernel_rfl) (fun _ _ _ h => h) (Or.inl ⟨by rfl, ?_⟩) (by assumption) ?_
            case refine_2 => (intro w hSw; (try dsimp only at hSw); go_simp; try with_reducible rfl)
            try simp only [Act.put, List.setIfInBounds_toArray, List.set_cons_zero, List.set_cons_succ]
            refine wpAnyH_ready (rs := [24]) (by kernel_rfl) (by simp) ?_
            refine AllReadyH.cons (o := ({ dst := none, op := Go.Op.store 28 (Go.Operand.tmp 79) (Go.Operand.tmp 78), type := 0, pos := "law.go:104", after := #[{ on := 23, ground := Go.Ground.data }, { on := 22, ground := Go.Ground.data }, { on := 22, ground := Go.Ground.chain }, { on := 0, ground := Go.Ground.phase }, { on := 1, ground := Go.Ground.phase }, { on := 2, ground := Go.Ground.phase }, { on := 3, ground := Go.Ground.phase }, { on := 4, ground := Go.Ground.phase }, { on := 5, ground := Go.Ground.phase }, { on := 6, ground := Go.Ground.phase }, { on := 7, ground := Go.Ground.phase }, { on := 8, ground := Go.Ground.phase }, { on := 9, ground := Go.Ground.phase }, { on := 10, ground := Go.Ground.phase }, { on := 11, ground := Go.Ground.phase }, { on := 12, ground := Go.Ground.phase }, { on := 13, ground := Go.Ground.phase }, { on := 14, ground := Go.Ground.phase }, { on := 15, ground := Go.Ground.phase }, { on := 16, ground := Go.Ground.phase }, { on := 17, ground := Go.Ground.phase }, { on := 18, ground := Go.Ground.phase }, { on := 19, ground := Go.Ground.phase }, { on := 20, ground := Go.Ground.phase }, { on := 21, ground := Go.Ground.phase }, { on := 22, ground := Go.Ground.phase }], guard := none } : Oper)) rfl (fun K hK => ?_) AllReadyH.nil
            go_simp
            clear hHeld
            refine hK.out _ _ (CL.out _ (T5.out _ _ hg5.out)) (fun hHeld => ?_)
            clear hK K
            try simp only [Act.put, List.setIfInBounds_toArray, List.set_cons_zero, List.set_cons_succ]
            refine wpAnyH_done (by kernel_rfl) ?_ _
            have st5 := Lib.hid (BnSt.app st.out (s := (xa, xc, ⟨xn, xb, 0, xt⟩)) hsk.out hAA.out ho5.out hg5.out)
            clear OW nc oc n5 y5 hAA hBA T3 T4 T5 CL n0 n1 n3 p3 st
            go_wp2
            go_roundw
            case rel => exact ⟨k + 1, a6, c6, by go_num, by omega, st5⟩
            case measure => simp [intOf]; omega
          · go_simp
            clear hHeld
            refine hK.out _ _ (CL.out _ (Keeps.of_below hAA.out)) (fun hHeld => ?_)
            clear hK K
            try simp only [Act.put, List.setIfInBounds_toArray, List.set_cons_zero, List.set_cons_succ]
            refine wpAnyH_ready (rs := [1]) (by kernel_rfl) (by simp) ?_
            refine AllReadyH.cons (o := ({ dst := some 57, op := Go.Op.load 28 (Go.Operand.tmp 56), type := 28, pos := "law.go:104", after := #[{ on := 0, ground := Go.Ground.data }], guard := none } : Oper)) rfl (fun K hK => ?_) AllReadyH.nil
            go_simp
            clear hHeld
            refine hK.out _ _ (CL.out _ (Keeps.of_below hAA.out)) (fun hHeld => ?_)
            clear hK K
            try simp only [Act.put, List.setIfInBounds_toArray, List.set_cons_zero, List.set_cons_succ]
            refine wpAnyH_ready (rs := [22]) (by kernel_rfl) (by simp) ?_
            refine AllReadyH.cons (o := ({ dst := some 78, op := Go.Op.call { callee := Go.Callee.builtin Go.Builtin.append, args := #[Go.Operand.tmp 57, Go.Operand.tmp 77], argTypes := #[28, 28] }, type := 28, pos := "law.go:104", after := #[{ on := 1, ground := Go.Ground.data }, { on := 21, ground := Go.Ground.data }], guard := none } : Oper)) rfl (fun K hK => ?_) AllReadyH.nil
            (refine step_appR ?_ (.tmp 57) (.tmp 77) 28 TN (.agg #[.int .u64 0, .int .u64 0, .int .u64 0, .slice none 0 0]) 4 48 ?_ Try.underlying28 infoN rfl (by decide) (w4.heap.size + 1) a k c (ncells (S0.take k)) ?_ OW.out wr.heap.size 1 [.int .u64 xn, .int .u64 xb, .int .u64 0, .slice xa xt.length xc] ?_ rfl nc.out oc.out n5.out y5.out hBA.out ?_; exact rfl; exact rfl; exact rfl; exact rfl; intro a6 c6 w5 ho5 hg5 hat5; obtain ⟨f5, d5⟩ := T3.out w5 hg5; replace ho5 := Lib.hid ho5; replace hg5 := Lib.hid hg5; replace hat5 := Lib.hid hat5)
            clear hHeld
            refine hK.out _ _ (CL.out _ (T4.out _ hg5.out)) (fun hHeld => ?_)
            clear hK K
            try simp only [Act.put, List.setIfInBounds_toArray, List.set_cons_zero, List.set_cons_succ]
            refine wpAnyH_take (i := 23) (oi := ({ dst := some 79, op := Go.Op.fieldAddr 30 (Go.Operand.tmp 11) 2, type := 0, pos := "law.go:104", after := #[{ on := 0, ground := Go.Ground.phase }, { on := 1, ground := Go.Ground.phase }, { on := 2, ground := Go.Ground.phase }, { on := 3, ground := Go.Ground.phase }, { on := 4, ground := Go.Ground.phase }, { on := 5, ground := Go.Ground.phase }, { on := 6, ground := Go.Ground.phase }, { on := 7, ground := Go.Ground.phase }, { on := 8, ground := Go.Ground.phase }, { on := 9, ground := Go.Ground.phase }, { on := 10, ground := Go.Ground.phase }, { on := 11, ground := Go.Ground.phase }, { on := 12, ground := Go.Ground.phase }, { on := 13, ground := Go.Ground.phase }, { on := 14, ground := Go.Ground.phase }, { on := 15, ground := Go.Ground.phase }, { on := 16, ground := Go.Ground.phase }, { on := 17, ground := Go.Ground.phase }, { on := 18, ground := Go.Ground.phase }, { on := 19, ground := Go.Ground.phase }, { on := 20, ground := Go.Ground.phase }, { on := 21, ground := Go.Ground.phase }, { on := 22, ground := Go.Ground.phase }], guard := none } : Oper)) (v := ?_) rfl (by kernel_rfl) (by kernel_rfl) (by kernel_rfl) (fun _ _ _ h => h) (Or.inl ⟨by rfl, ?_⟩) (by assumption) ?_
            case refine_2 => (intro w hSw; (try dsimp only at hSw); go_simp; try with_reducible rfl)
            try simp only [Act.put, List.setIfInBounds_toArray, List.set_cons_zero, List.set_cons_succ]
            refine wpAnyH_ready (rs := [24]) (by kernel_rfl) (by simp) ?_
            refine AllReadyH.cons (o := ({ dst := none, op := Go.Op.store 28 (Go.Operand.tmp 79) (Go.Operand.tmp 78), type := 0, pos := "law.go:104", after := #[{ on := 23, ground := Go.Ground.data }, { on := 22, ground := Go.Ground.data }, { on := 22, ground := Go.Ground.chain }, { on := 0, ground := Go.Ground.phase }, { on := 1, ground := Go.Ground.phase }, { on := 2, ground := Go.Ground.phase }, { on := 3, ground := Go.Ground.phase }, { on := 4, ground := Go.Ground.phase }, { on := 5, ground := Go.Ground.phase }, { on := 6, ground := Go.Ground.phase }, { on := 7, ground := Go.Ground.phase }, { on := 8, ground := Go.Ground.phase }, { on := 9, ground := Go.Ground.phase }, { on := 10, ground := Go.Ground.phase }, { on := 11, ground := Go.Ground.phase }, { on := 12, ground := Go.Ground.phase }, { on := 13, ground := Go.Ground.phase }, { on := 14, ground := Go.Ground.phase }, { on := 15, ground := Go.Ground.phase }, { on := 16, ground := Go.Ground.phase }, { on := 17, ground := Go.Ground.phase }, { on := 18, ground := Go.Ground.phase }, { on := 19, ground := Go.Ground.phase }, { on := 20, ground := Go.Ground.phase }, { on := 21, ground := Go.Ground.phase }, { on := 22, ground := Go.Ground.phase }], guard := none } : Oper)) rfl (fun K hK => ?_) AllReadyH.nil
            go_simp
            clear hHeld
            refine hK.out _ _ (CL.out _ (T5.out _ _ hg5.out)) (fun hHeld => ?_)
            clear hK K
            try simp only [Act.put, List.setIfInBounds_toArray, List.set_cons_zero, List.set_cons_succ]
            refine wpAnyH_done (by kernel_rfl) ?_ _
            have st5 := Lib.hid (BnSt.app st.out (s := (xa, xc, ⟨xn, xb, 0, xt⟩)) hsk.out hAA.out ho5.out hg5.out)
            clear OW nc oc n5 y5 hAA hBA T3 T4 T5 CL n0 n1 n3 p3 st
            go_wp2
            go_roundw
            case rel => exact ⟨k + 1, a6, c6, by go_num, by omega, st5⟩
            case measure => simp [intOf]; omega
        · obtain rfl : nn = k := by omega
          have hNA : Hid (NodesAt wr a (A.nodes.map bareN)) := by
            show NodesAt _ _ _
            rw [← hS2.out]
            have st2 := st.out
            rw [← hS1.out] at st2
            exact st2.nodes hS3.out
          have b0 : wr.cell? ⟨w4.heap.size, 0, none⟩ = some (.int .i64 0) := st.out.row.cell 0
          have b1 : wr.cell? ⟨w4.heap.size, 1, none⟩ = some (.slice bi A.init.length di) := st.out.row.cell 1
          have b2 : wr.cell? ⟨w4.heap.size, 2, none⟩ = some (.slice a nn c) := st.out.row.cell 2
          obtain ⟨g0, g1, g2, _, _, _⟩ := CB.out wr B5.out
          have hlw := Lib.hid st.out.low
          clear st a2 hkn
          go_wp2_with fail
          refine (RW.out _ B5.out.below a c hNA.out).mono ?_
          rintro e w6 h6
          replace h6 := Lib.hid h6
          obtain ⟨Q, rfl, hr6, hb6⟩ := XX2.out _ _ _ h6.out
          have hA6 : Below w6.heap.size w6 (w6.alloc (.cells #[.slice Q.ia mi Q.ic, .slice Q.ea me Q.ec, .slice Q.la ml Q.lc] TG)) := balloc (Below.refl _ _) _
          have rq7 : Hid (RowAt (w6.alloc (.cells #[.slice Q.ia mi Q.ic, .slice Q.ea me Q.ec, .slice Q.la ml Q.lc] TG)) w6.heap.size TG [.slice Q.ia mi Q.ic, .slice Q.ea me Q.ec, .slice Q.la ml Q.lc]) := RowAt.new #[_, _, _] rfl
          have hR7 := Lib.hid (hr6.below hA6)
          have hb47 : Below w4.heap.size w4 (w6.alloc (.cells #[.slice Q.ia mi Q.ic, .slice Q.ea me Q.ec, .slice Q.la ml Q.lc] TG)) := btrans hlw.out (btrans hb6 hA6)
          have hY7 := Lib.hid (hRd.out.below hb47)
          have rz7 := Lib.hid (hrz.out.below hb47)
          have B7 := Lib.hid (B4.out.next hb47)
          have B4w := Lib.hid (B4.out.next hb47).below
          obtain ⟨z2, hz2⟩ : ∃ z2, z2 = w6.heap.size := ⟨_, rfl⟩
          rw [← hz2] at rq7
          have hz00 : ((0 : Int) != 0) = false := rfl
          clear g0 g1 g2 b0 b1 b2 h6 hr6 hb6 hA6 hb47 hRd hrz hNA hlw B5 hS1 hS2 hS3
          go_wp2_with fail
          rw [← hz2]
          generalize w6.alloc (.cells #[.slice Q.ia mi Q.ic, .slice Q.ea me Q.ec, .slice Q.la ml Q.lc] TG) = w7 at rq7 hR7 hY7 rz7 B7 B4w ⊢
          obtain ⟨Yia, Yic, Yea, Yec, Yla, Ylc, Yqa, Yqc, Yba, Ybc, Yra, Yrc⟩ := Y
          obtain ⟨Qia, Qic, Qea, Qec, Qla, Qlc, Qqa, Qqc, Qba, Qbc, Qra, Qrc⟩ := Q
          dsimp only at rq7 rz7 ⊢
          have hPQ := Lib.hid hR7.out.at.2.2.2.1
          obtain ⟨B, hB⟩ : ∃ B, B = w7.heap.size := ⟨_, rfl⟩
          have bl0 : Hid (BlOwn w7 B none 0 []) := BlOwn.nil _ _
          have bo0 : Hid (boolsOf [] = (List.range 0).map fun i => s2.l.map (setB G sets A i)) := rfl
          have hB7 : Hid (B ≤ w7.heap.size) := by show _ ≤ _; omega
          replace hB := Lib.hid hB
          clear hz2 XX2 hz00
          go_loopw [17, 18] (fun av iv wr => ∃ (i : Nat) (S : List BR) (a : Option Addr) (c : Nat), av = .slice a i c ∧ iv = .int .i64 i ∧ i ≤ N ∧ Hid (S.length = i) ∧ Hid (boolsOf S = (List.range i).map fun i => s2.l.map (setB G sets A i)) ∧ Hid (Below w7.heap.size w7 wr) ∧ Hid (BlOwn wr B a c S)) (fun _ iv _ => N - (intOf iv).toNat)
          case atStart => exact ⟨0, [], none, 0, rfl, rfl, Nat.zero_le _, rfl, bo0, Below.refl _ _, bl0⟩
          case round =>
            obtain ⟨i, S, a, c, rfl, rfl, hi, hSi, hSo, hb, bl⟩ := hrel
            clear bl0 bo0
            obtain ⟨wo, hwo⟩ : ∃ wo, wo = wr := ⟨_, rfl⟩
            subst hwo
            have Bo := Lib.hid (B7.out.next hb.out)
            obtain ⟨_, _, _, a0, _, a2⟩ := CB.out wo Bo.out
            rw [hsn.out] at a0
            by_cases hiN : i < N
            · have hilt : (i : Int) < (sn : Int) + (sets.length : Int) := by have := hN.out; omega
              have hi40 : (i : Int) ≤ 40 := by omega
              have ow0 : Hid (OwnR wo wo.heap.size TyB 1 none 0 0 (bcells ((s2.l.take 0).map (setB G sets A i)))) := OwnR.nil _ _ _ _
              go_wp2
              clear a0 a2
              go_loopw [19, 20] (fun rv kv wr => ∃ (k : Nat) (ra : Option Addr) (rc : Nat), rv = .slice ra k rc ∧ kv = .int .i64 k ∧ k ≤ mq ∧ Hid (Below wo.heap.size wo wr) ∧ Hid (OwnR wr wo.heap.size TyB 1 ra k rc (bcells ((s2.l.take k).map (setB G sets A i))))) (fun _ kv _ => mq - (intOf kv).toNat)
              case atStart => exact ⟨0, none, 0, rfl, rfl, Nat.zero_le _, Below.refl _ _, ow0⟩
              case round =>
                obtain ⟨k, ra, rc, rfl, rfl, hk, hbi, ow⟩ := hrel
                clear ow0
                have Bi := Lib.hid (Bo.out.next hbi.out)
                obtain ⟨_, _, _, a0, _, a2⟩ := CB.out wr Bi.out
                rw [hsn.out] at a0
                by_cases hkq : k < mq
                · have hkQ : (k : Int) < (mq : Int) := by omega
                  have hkl : k < s2.l.length := by have := hmq.out; omega
                  obtain ⟨bq, oq, rfl, hbql, x0, x1, x2⟩ := (hPQ.out.below hb.out).at k hkl
                  replace x0 := bcell hbi.out x0
                  replace x1 := bcell hbi.out x1
                  replace x2 := bcell hbi.out x2
                  have hXl : W.heap.size + 1 < wo.heap.size := Bo.out.ra.lt
                  have hval := hv2.out _ (List.getElem_mem hkl)
                  have htk : Hid ((s2.l.take (k + 1)).map (setB G sets A i) = (s2.l.take k).map (setB G sets A i) ++ [setB G sets A i s2.l[k]]) := by
                    show _ = _
                    rw [List.take_add_one, List.getElem?_eq_getElem hkl, Option.toList_some, List.map_append]
                    rfl
                  generalize s2.l[k] = x at x0 x1 x2 hval htk
                  obtain ⟨⟨v1, v2⟩, ⟨v3, v4⟩, _⟩ := hval
                  obtain ⟨xn, xs, xt⟩ := x
                  simp only at x0 x1 x2 v1 v2 v3 v4
                  have e2 : (bare A).nodes.length = A.nodes.length := List.length_map _
                  rw [e2] at v4
                  obtain ⟨kn, rfl⟩ := Int.eq_ofNat_of_zero_le v1
                  obtain ⟨ks, rfl⟩ := Int.eq_ofNat_of_zero_le v3
                  have n5 : Hid (k + 1 ≤ maxLen) := by show _ ≤ _; unfold maxLen; omega
                  have y5 : Hid ((k + 1) * 1 ≤ 140737488355328) := by show _ ≤ _; omega
                  obtain ⟨tv, htv⟩ : ∃ tv, tv = setB G sets A i ⟨(kn : Int), (ks : Int), xt⟩ := ⟨_, rfl⟩
                  rw [← htv] at htk
                  have oc : Hid (∀ u ∈ [Value.bool tv], u.oneCell' = true) := fun u hu => by simp at hu; rw [hu]; rfl
                  have OW : Hid (OwnR ((wr.alloc (.cells #[.bool tv] TyB)).drew) wo.heap.size TyB 1 ra k rc (bcells ((s2.l.take k).map (setB G sets A i)))) :=
                    ow.out.keeps (Keeps.of_below (S := fun _ => False) ((balloc (Below.refl _ _) (.cells #[.bool tv] TyB)).drew)) (fun _ _ h => h)
                  have nc : Hid (∀ j u, [Value.bool tv][j]? = some u → ((wr.alloc (.cells #[.bool tv] TyB)).drew).cell? ((⟨wr.heap.size, 0, none⟩ : Addr).add j) = some u) := new_cells wr #[.bool tv] TyB rfl
                  have hAA : Hid (Below wr.heap.size wr ((wr.alloc (.cells #[.bool tv] TyB)).drew)) := (balloc (Below.refl _ _) _).drew
                  have hBA : Hid (wo.heap.size ≤ ((wr.alloc (.cells #[.bool tv] TyB)).drew).heap.size) := by
                    have := hbi.out.size
                    have := hAA.out.size
                    show _ ≤ _
                    omega
                  have T3 : Hid (∀ a6 c6 w5, OwnR w5 wo.heap.size TyB 1 a6 (k + 1) c6 (bcells ((s2.l.take k).map (setB G sets A i)) ++ [.bool tv]) → ((wr.alloc (.cells #[.bool tv] TyB)).drew).grownBy w5 (OB ra k rc) → Below wo.heap.size wo w5 ∧ OwnR w5 wo.heap.size TyB 1 a6 (k + 1) c6 (bcells ((s2.l.take (k + 1)).map (setB G sets A i)))) := fun a6 c6 w5 ho hg => by
                    have hk1 : Keeps wr w5 (fun j => wo.heap.size ≤ j) := (Keeps.of_below (S := fun j => wo.heap.size ≤ j) hAA.out).trans (Keeps.of_grown (S := fun j => wo.heap.size ≤ j) hg (fun j e => (OwnR.lt ow.out e).1)) (fun _ _ h => h)
                    refine ⟨hk1.below hbi.out (fun _ h => h), ?_⟩
                    rw [htk.out, bcells_snoc]
                    exact ho
                  by_cases his : i < sn
                  · have hiS : (i : Int) < (sn : Int) := by omega
                    have hres : tv = (nodeP A (ks : Int)).inn.testBit i := by
                      rw [htv]
                      show ofP G sets A ⟨(kn : Int), (ks : Int), (i : Int)⟩ = _
                      unfold ofP
                      rw [if_pos (by show (i : Int) < A.sets; rw [hsn.out]; omega)]
                      simp [bitB]
                    have hks : ks < A.nodes.length := by omega
                    rw [nodeP_at hks] at hres
                    obtain ⟨b0, o0, rfl, n0, n1, n2, n3⟩ := (hAU.out.below (btrans B4w.out hb.out)).nodes.at ks hks
                    have hb0l := World.block_lt_of_cell? wo _ n2
                    have u2 := (haok.out.nodes _ (List.getElem_mem hks)).2.2.1
                    have hksN : (ks : Int) < (nn : Int) := by have := hnn.out; omega
                    generalize A.nodes[ks] = nd at n0 n1 n2 n3 u2 hres
                    have q := bit_test (s := i) u2
                    rw [← hres] at q
                    generalize nd.inn = u at n2 q u2
                    have hmn : min (IntKind.u64.wrap (i : Int)).toNat 64 = i := by
                      rw [IntWalk.u64_in _ (by omega), Int.toNat_natCast]
                      omega
                    have q2 : (bits .and .u64 ((u : Int) / 2 ^ min (IntKind.u64.wrap (i : Int)).toNat 64) 1 == 1) = tv := by rw [hmn]; exact q
                    replace n2 := bcell hbi.out n2
                    clear hmn q
                    replace htv := Lib.hid htv
                    simp only at hb0l
                    clear hres n0 n1 n3 x0 x2 v1 v2 v3 v4 e2 hks
                    have CL : Hid (∀ w', Keeps wr w' (fun j => wo.heap.size ≤ j) → w'.cell? ⟨W.heap.size + 1, 2, none⟩ = some (.slice (some ⟨b0, o0, none⟩) nn dn) ∧ w'.cell? ⟨bq, oq + k * 3 + 1, none⟩ = some (.int .i64 (ks : Int)) ∧ w'.cell? ⟨b0, o0 + ks * 4 + 2, none⟩ = some (.int .u64 (u : Int))) := fun w' hk => by
                      have hz4 := hbi.out.size
                      refine ⟨?_, ?_, ?_⟩
                      · rw [World.cell?_of_block (a := ⟨W.heap.size + 1, 2, none⟩) (hk.block _ (by simp only; omega) (by simp only; omega))]; exact a2
                      · rw [World.cell?_of_block (a := ⟨bq, oq + k * 3 + 1, none⟩) (hk.block _ (by simp only; omega) (by simp only; omega))]; exact x1
                      · rw [World.cell?_of_block (a := ⟨b0, o0 + ks * 4 + 2, none⟩) (hk.block _ (by simp only; omega) (by simp only; omega))]; exact n2
                    have T4 : Hid (∀ (w5 : World), ((wr.alloc (.cells #[.bool tv] TyB)).drew).grownBy w5 (OB ra k rc) → Keeps wr w5 (fun j => wo.heap.size ≤ j)) := fun w5 hg =>
                      (Keeps.of_below (S := fun j => wo.heap.size ≤ j) hAA.out).trans (Keeps.of_grown (S := fun j => wo.heap.size ≤ j) hg (fun j e => (OwnR.lt ow.out e).1)) (fun _ _ h => h)
                    go_wp2
                    go_region_held3 (fun w' => w'.cell? ⟨W.heap.size + 1, 2, none⟩ = some (.slice (some ⟨b0, o0, none⟩) nn dn) ∧ w'.cell? ⟨bq, oq + k * 3 + 1, none⟩ = some (.int .i64 (ks : Int)) ∧ w'.cell? ⟨b0, o0 + ks * 4 + 2, none⟩ = some (.int .u64 (u : Int))) (first | exact CL.out _ (Keeps.of_below hAA.out) | exact CL.out _ (Keeps.of_below (Below.refl _ _).drew) | exact CL.out _ (T4.out _ hg5.out)) (first
                      | (refine step_appR ?_ (.tmp 109) (.tmp 125) 65 TyB (.bool false) 1 1 ?_ Try.underlying65 infoB rfl (by decide) wo.heap.size ra k rc (bcells ((s2.l.take k).map (setB G sets A i))) ?_ OW.out wr.heap.size 1 [.bool tv] ?_ rfl nc.out oc.out n5.out y5.out hBA.out ?_; exact rfl; exact rfl; exact rfl; exact rfl; intro a6 c6 w5 ho5 hg5 hat5; replace ho5 := Lib.hid ho5; replace hg5 := Lib.hid hg5; replace hat5 := Lib.hid hat5))
                    all_goals (
                      obtain ⟨hb5, ow5⟩ := T3.out _ _ _ ho5.out hg5.out
                      replace hb5 := Lib.hid hb5
                      replace ow5 := Lib.hid ow5
                      clear OW nc oc n5 y5 hAA hBA T3 T4 CL ow ho5 hg5 hat5 q2 n2 x1 a0 a2 hbi
                      go_wp2
                      go_roundw
                      case rel => exact ⟨k + 1, a6, c6, rfl, by go_num, by omega, hb5, ow5⟩
                      case measure => simp [intOf]; omega)
                  · obtain ⟨j, hij⟩ : ∃ j, i = sn + j := ⟨i - sn, by omega⟩
                    have hjs : j < sets.length := by have := hN.out; omega
                    have hiS : decide (i < sn) = false := decide_eq_false his
                    have hwr : IntKind.i64.wrap ((i : Int) - (sn : Int)) = (j : Int) := by rw [show (i : Int) - (sn : Int) = (j : Int) by omega]; exact IntWalk.i64_in _ (by omega)
                    have hj2 : (j : Int) < (sets.length : Int) := by omega
                    have hres : tv = (sets.getD j []).getD kn false := by
                      rw [htv]
                      show ofP G sets A ⟨(kn : Int), (ks : Int), (i : Int)⟩ = _
                      rw [hij, ofP_set hsn.out hjs, inG_yes v1, decide_eq_true v2, Bool.true_and, Int.toNat_natCast]
                    obtain ⟨b0, o0, a7, c7, rfl, hb0l, n0, hrw⟩ := (hS.out.below (btrans B4w.out hb.out)).at j hjs
                    have hrl := hrow.out _ (List.getElem_mem hjs)
                    have hrow2 : (sets.getD j []) = sets[j] := by rw [List.getD_eq_getElem?_getD, List.getElem?_eq_getElem hjs]; rfl
                    rw [hrow2] at hres
                    generalize sets[j] = row at n0 hrw hrl hres
                    have hknr : kn < row.length := by omega
                    obtain ⟨b3, o3, rfl, hb3l, cv⟩ := hrw.at kn hknr
                    have hvv : row.getD kn false = row[kn] := by rw [List.getD_eq_getElem?_getD, List.getElem?_eq_getElem hknr]; rfl
                    rw [← hvv, ← hres] at cv
                    have hkrI : (kn : Int) < (row.length : Int) := by omega
                    replace n0 := bcell hbi.out n0
                    replace cv := bcell hbi.out cv
                    replace htv := Lib.hid htv
                    have hw0 : (0 : Int) ≤ (j : Int) := by omega
                    clear hres hvv hrow2 hrw hrl x1 x2 v1 v2 v3 v4 e2 hij
                    have CL : Hid (∀ w', Keeps wr w' (fun j => wo.heap.size ≤ j) → w'.cell? ⟨W.heap.size + 1, 0, none⟩ = some (.int .i64 sn) ∧ w'.cell? ⟨b0, o0 + j, none⟩ = some (.slice (some ⟨b3, o3, none⟩) row.length c7) ∧ w'.cell? ⟨bq, oq + k * 3, none⟩ = some (.int .i64 (kn : Int)) ∧ w'.cell? ⟨b3, o3 + kn, none⟩ = some (.bool tv)) := fun w' hk => by
                      have hz4 := hbi.out.size
                      refine ⟨?_, ?_, ?_, ?_⟩
                      · rw [World.cell?_of_block (a := ⟨W.heap.size + 1, 0, none⟩) (hk.block _ (by simp only; omega) (by simp only; omega))]; exact a0
                      · rw [World.cell?_of_block (a := ⟨b0, o0 + j, none⟩) (hk.block _ (by simp only; omega) (by simp only; omega))]; exact n0
                      · rw [World.cell?_of_block (a := ⟨bq, oq + k * 3, none⟩) (hk.block _ (by simp only; omega) (by simp only; omega))]; exact x0
                      · rw [World.cell?_of_block (a := ⟨b3, o3 + kn, none⟩) (hk.block _ (by simp only; omega) (by simp only; omega))]; exact cv
                    have T4 : Hid (∀ (w5 : World), ((wr.alloc (.cells #[.bool tv] TyB)).drew).grownBy w5 (OB ra k rc) → Keeps wr w5 (fun j => wo.heap.size ≤ j)) := fun w5 hg =>
                      (Keeps.of_below (S := fun j => wo.heap.size ≤ j) hAA.out).trans (Keeps.of_grown (S := fun j => wo.heap.size ≤ j) hg (fun j e => (OwnR.lt ow.out e).1)) (fun _ _ h => h)
                    go_wp2
                    go_region_held3 (fun w' => w'.cell? ⟨W.heap.size + 1, 0, none⟩ = some (.int .i64 sn) ∧ w'.cell? ⟨b0, o0 + j, none⟩ = some (.slice (some ⟨b3, o3, none⟩) row.length c7) ∧ w'.cell? ⟨bq, oq + k * 3, none⟩ = some (.int .i64 (kn : Int)) ∧ w'.cell? ⟨b3, o3 + kn, none⟩ = some (.bool tv)) (first | exact CL.out _ (Keeps.of_below hAA.out) | exact CL.out _ (Keeps.of_below (Below.refl _ _).drew) | exact CL.out _ (T4.out _ hg5.out)) (first
                      | (refine step_appR ?_ (.tmp 127) (.tmp 142) 65 TyB (.bool false) 1 1 ?_ Try.underlying65 infoB rfl (by decide) wo.heap.size ra k rc (bcells ((s2.l.take k).map (setB G sets A i))) ?_ OW.out wr.heap.size 1 [.bool tv] ?_ rfl nc.out oc.out n5.out y5.out hBA.out ?_; exact rfl; exact rfl; exact rfl; exact rfl; intro a6 c6 w5 ho5 hg5 hat5; replace ho5 := Lib.hid ho5; replace hg5 := Lib.hid hg5; replace hat5 := Lib.hid hat5))
                    all_goals (
                      obtain ⟨hb5, ow5⟩ := T3.out _ _ _ ho5.out hg5.out
                      replace hb5 := Lib.hid hb5
                      replace ow5 := Lib.hid ow5
                      clear OW nc oc n5 y5 hAA hBA T3 T4 CL ow ho5 hg5 hat5 n0 cv x0 a0 a2 hbi hwr
                      go_wp2
                      go_roundw
                      case rel => exact ⟨k + 1, a6, c6, rfl, by go_num, by omega, hb5, ow5⟩
                      case measure => simp [intOf]; omega)
                · obtain rfl : mq = k := by omega
                  have hrowl : Hid (((s2.l.take mq).map (setB G sets A i)).length = mq) := by show _ = _; rw [List.length_map, List.length_take]; have := hmq.out; omega
                  have htake : Hid ((s2.l.take mq).map (setB G sets A i) = s2.l.map (setB G sets A i)) := by show _ = _; rw [hmq.out, List.take_length]
                  have hAA : Hid (Below wr.heap.size wr (wr.alloc (.cells #[.slice ra mq rc] TBl))) := balloc (Below.refl _ _) _
                  have bl2 := bl.out.below hbi.out
                  have OW : Hid (OwnR (wr.alloc (.cells #[.slice ra mq rc] TBl)) B TBl 1 a i c (S.map blcell)) := by
                    have h := (bl2.below hAA.out).own
                    rw [hSi.out] at h
                    exact h
                  have nc : Hid (∀ j u, [Value.slice ra mq rc][j]? = some u → (wr.alloc (.cells #[.slice ra mq rc] TBl)).cell? ((⟨wr.heap.size, 0, none⟩ : Addr).add j) = some u) := new_cells wr #[.slice ra mq rc] TBl rfl
                  have oc : Hid (∀ u ∈ [Value.slice ra mq rc], u.oneCell' = true) := fun u hu => by simp at hu; rw [hu]; rfl
                  have n5 : Hid (i + 1 ≤ maxLen) := by show _ ≤ _; unfold maxLen; omega
                  have y5 : Hid ((i + 1) * 24 ≤ 140737488355328) := by show _ ≤ _; omega
                  have hzB : Hid (B ≤ wo.heap.size) := by show _ ≤ _; have := hb.out.size; have := hB7.out; omega
                  have hBA : Hid (B ≤ (wr.alloc (.cells #[.slice ra mq rc] TBl)).heap.size) := by
                    have := hbi.out.size
                    have := hAA.out.size
                    have := hzB.out
                    show _ ≤ _
                    omega
                  have T3 : Hid (∀ a6 c6 w5, OwnR w5 B TBl 1 a6 (i + 1) c6 (S.map blcell ++ [.slice ra mq rc]) → (wr.alloc (.cells #[.slice ra mq rc] TBl)).grownBy w5 (OB a i c) → (OB a6 (i + 1) c6 = OB a i c ∨ OB a6 (i + 1) c6 = some (wr.heap.size + 1)) → Below w7.heap.size w7 w5 ∧ BlOwn w5 B a6 c6 (S ++ [(ra, rc, s2.l.map (setB G sets A i))])) := fun a6 c6 w5 ho hg hat => by
                    have hl : (s2.l.map (setB G sets A i)).length = mq := by rw [← htake.out]; exact hrowl.out
                    have hk1 : Keeps wr w5 (fun j => B ≤ j) := (Keeps.of_below (S := fun j => B ≤ j) hAA.out).trans (Keeps.of_grown (S := fun j => B ≤ j) hg (fun j e => by
                      have h := bl2.own
                      rw [hSi.out] at h
                      exact (OwnR.lt h e).1)) (fun _ _ h => h)
                    refine ⟨hk1.below (btrans hb.out hbi.out) (fun j h => by have := hB.out; omega), BlOwn.app (w := wr) (s := (ra, rc, s2.l.map (setB G sets A i))) bl2 ?_ ?_ hAA.out ?_ ?_ ?_⟩
                    · show OwnR wr B TyB 1 ra (s2.l.map (setB G sets A i)).length rc (bcells (s2.l.map (setB G sets A i)))
                      rw [hl, ← htake.out]
                      exact OwnR.base ow.out hzB.out
                    · intro j hj e
                      have hj' : OB ra (s2.l.map (setB G sets A i)).length rc = some j := hj
                      rw [hl] at hj'
                      have h1 := (OwnR.lt ow.out hj').1
                      have h2 := (OwnR.lt bl.out.own e).2
                      omega
                    · show OwnR w5 B TBl 1 a6 (S.length + 1) c6 (S.map blcell ++ [.slice ra (s2.l.map (setB G sets A i)).length rc])
                      rw [hl, hSi.out]
                      exact ho
                    · rw [hSi.out]; exact hg
                    · rw [hSi.out]
                      have hz : (wr.alloc (.cells #[.slice ra mq rc] TBl)).heap.size = wr.heap.size + 1 := by simp
                      rw [hz]
                      exact hat
                  have hSi2 : Hid ((S ++ [(ra, rc, s2.l.map (setB G sets A i))]).length = i + 1) := by show _ = _; rw [List.length_append, hSi.out]; rfl
                  have hSo2 : Hid (boolsOf (S ++ [(ra, rc, s2.l.map (setB G sets A i))]) = (List.range (i + 1)).map fun i => s2.l.map (setB G sets A i)) := by
                    show _ = _
                    rw [boolsOf_snoc, hSo.out, List.range_succ, List.map_append]
                    rfl
                  replace bl2 := Lib.hid bl2
                  clear a0 a2 Bi Bo hkq
                  go_wp2_with (at_builtin; refine wp_appR rfl _ _ 27 TBl (.slice none 0 0) 1 24 rfl Try.underlying27 infoBl rfl (by decide) B a i c (S.map blcell) rfl OW.out wr.heap.size 1 [.slice ra mq rc] rfl rfl nc.out oc.out n5.out y5.out hBA.out ?_)
                  intro a6 c6 w5 ho5 hg5 hat5
                  obtain ⟨hb5, bl5⟩ := T3.out a6 c6 w5 ho5 hg5 hat5
                  replace hb5 := Lib.hid hb5
                  replace bl5 := Lib.hid bl5
                  clear OW nc oc n5 y5 hAA hBA T3 ho5 hg5 hat5 bl2 bl ow hbi hb
                  go_wp2
                  go_roundw
                  case rel => exact ⟨i + 1, _, a6, c6, rfl, by go_num, by omega, hSi2, hSo2, hb5, bl5⟩
                  case measure => simp [intOf]; omega
            · obtain rfl : N = i := by omega
              have hn2lt : ¬ ((N : Int) < (sn : Int) + (sets.length : Int)) := by have := hN.out; omega
              have hReY := hY7.out.below hb.out
              have hReQ := hR7.out.below hb.out
              have rzY := rz7.out.below hb.out
              have rqQ := rq7.out.below hb.out
              have hAB : Below wo.heap.size wo (wo.alloc (.cells #[.slice Yba nb Ybc] TBl)) := balloc (Below.refl _ _) _
              have rin : RowAt (wo.alloc (.cells #[.slice Yba nb Ybc] TBl)) wo.heap.size TBl [.slice Yba nb Ybc] := RowAt.new #[.slice Yba nb Ybc] rfl
              have y0 : wo.cell? ⟨z, 0, none⟩ = some (.slice Yia ni Yic) := rzY.cell 0
              have y1 : wo.cell? ⟨z, 1, none⟩ = some (.slice Yea ne Yec) := rzY.cell 1
              have y2 : wo.cell? ⟨z, 2, none⟩ = some (.slice Yla nl Ylc) := rzY.cell 2
              have q0 : wo.cell? ⟨z2, 0, none⟩ = some (.slice Qia mi Qic) := rqQ.cell 0
              have q1 : wo.cell? ⟨z2, 1, none⟩ = some (.slice Qea me Qec) := rqQ.cell 1
              have q2 : wo.cell? ⟨z2, 2, none⟩ = some (.slice Qla ml Qlc) := rqQ.cell 2
              have hzl := rzY.lt
              have hql := rqQ.lt
              have hSt := bl.out.sets
              rw [hSo.out] at hSt
              obtain ⟨l1, l2, l3, l4, m1, m2, m3, m4⟩ := hz12.out
              have SO1 : Hid (∀ w, Below (wo.alloc (.cells #[.slice Yba nb Ybc] TBl)).heap.size (wo.alloc (.cells #[.slice Yba nb Ybc] TBl)) w → Calls Try.prog 26 #[.agg #[.slice Yia ni Yic, .slice Yea ne Yec, .slice Yla nl Ylc], .slice (some ⟨wo.heap.size, 0, none⟩) 1 1] w fun e w' => e = .returned (.bool bb) ∧ Below w.heap.size w w') := fun w hw => by
                have hr := (hReY.below (btrans hAB hw)).at
                have hs1 : SetsAt w (some ⟨wo.heap.size, 0, none⟩) [s.ins] := fun _ => ⟨wo.heap.size, 0, rfl, fun i hi => by
                  have e : i = 0 := by simp at hi; exact hi
                  subst e
                  refine ⟨Yba, Ybc, ?_, hr.2.2.2.2⟩
                  have h := (rin.below hw).cell 0
                  rw [h]
                  simp [hnb.out]⟩
                have h := some_any w Yia Yic init hr.1 l1 Yea Yec Yla nl Ylc s.es hr.2.1 l2 l4 (some ⟨wo.heap.size, 0, none⟩) 1 [s.ins] hs1 (by simp) (fun F hF => by rw [List.mem_singleton] at hF; rw [hF]; exact l3)
                rw [← hni.out, ← hne.out] at h
                exact h.mono fun e w' hh => hh.known hbb.out
              have SO2 : Hid (∀ w, Below wo.heap.size wo w → Calls Try.prog 26 #[.agg #[.slice Qia mi Qic, .slice Qea me Qec, .slice Qla ml Qlc], .slice a N c] w fun e w' => e = .returned (.bool bb) ∧ Below w.heap.size w w') := fun w hw => by
                have hr := (hReQ.below hw).at
                have h := some_any w Qia Qic init2 hr.1 m1 Qea Qec Qla ml Qlc s2.es hr.2.1 m2 m4 a c _ (hSt.below hw) (by rw [List.length_map, List.length_range]; omega) (fun F hF => by
                  obtain ⟨i, _, rfl⟩ := List.mem_map.1 hF
                  rw [List.length_map]
                  exact m3)
                rw [← hmi.out, ← hme.out, List.length_map, List.length_range] at h
                exact h.mono fun e w' hh => hh.known hbb2.out
              have hbe : (bb == bb) = true := by simp
              have hlow := Lib.hid (btrans B4w.out hb.out)
              have CZ : Hid (∀ w', Below wo.heap.size wo w' → w'.cell? ⟨z, 0, none⟩ = some (.slice Yia ni Yic) ∧ w'.cell? ⟨z, 1, none⟩ = some (.slice Yea ne Yec) ∧ w'.cell? ⟨z, 2, none⟩ = some (.slice Yla nl Ylc) ∧ w'.cell? ⟨z2, 0, none⟩ = some (.slice Qia mi Qic) ∧ w'.cell? ⟨z2, 1, none⟩ = some (.slice Qea me Qec) ∧ w'.cell? ⟨z2, 2, none⟩ = some (.slice Qla ml Qlc)) := fun w' hw => ⟨bcell hw y0, bcell hw y1, bcell hw y2, bcell hw q0, bcell hw q1, bcell hw q2⟩
              replace hAB := Lib.hid hAB
              clear hReY hReQ rzY rqQ rin hSt l1 l2 l3 l4 m1 m2 m3 m4 Bo bl
              go_wp2
              go_region_held3 (fun w' => w'.cell? ⟨z, 0, none⟩ = some (.slice Yia ni Yic) ∧ w'.cell? ⟨z, 1, none⟩ = some (.slice Yea ne Yec) ∧ w'.cell? ⟨z, 2, none⟩ = some (.slice Yla nl Ylc) ∧ w'.cell? ⟨z2, 0, none⟩ = some (.slice Qia mi Qic) ∧ w'.cell? ⟨z2, 1, none⟩ = some (.slice Qea me Qec) ∧ w'.cell? ⟨z2, 2, none⟩ = some (.slice Qla ml Qlc)) (first | exact CZ.out _ K3 | exact CZ.out _ K2 | exact CZ.out _ K1 | exact CZ.out _ hAB.out.drew | exact CZ.out _ (Below.refl _ _).drew) (first
                | (go_at_call 9; have tok := K2; (with_reducible refine (awake_true _).mono ?_); rintro e w9 ⟨rfl, hb9⟩; have K3 : Below wo.heap.size wo w9 := btrans K2 hb9)
                | (go_at_call 26; have tok := K1; (with_reducible refine (SO2.out _ K1).mono ?_); rintro e w8 ⟨rfl, hb8⟩; have K2 : Below wo.heap.size wo w8 := btrans K1 hb8)
                | (go_at_call 26; (with_reducible refine (SO1.out _ (Below.refl _ _).drew).mono ?_); rintro e w7_ ⟨rfl, hb7⟩; have K1 : Below wo.heap.size wo w7_ := btrans hAB.out ⟨hb7.os, hb7.tape, hb7.output, hb7.size, hb7.block⟩))
              all_goals (
                go_wp2
                go_ret
                exact ⟨rfl, btrans hlow.out K3⟩)
    · have hne0 : ne = 0 := by rw [hne.out, hes0.out he]; rfl
      have hed : (err != 0) = true := by simpa using he
      have hb4 := Lib.hid B4.out.below
      subst hne0
      clear hok hbp hval hes0 hrz hRd hbc B4
      go_wp2_with fail
      refine (awake_true _).mono ?_
      rintro e w5 ⟨rfl, hb5⟩
      go_wp2
      go_ret
      exact ⟨rfl, btrans hb4.out hb5⟩
theorem prodBoth_walk (W : World) (c : Array Value) (G : GR) (h : rGR W c.toList G) (v : Value) (sets : List (List Bool)) (hv : rSl 1 24 (rSl 1 1 rBool) W [v] sets) (ca : Array Value) (A : AU) (ha : rAU W ca.toList A) :
    Calls Try.prog 6 #[.agg c, v, .agg ca] W fun e w' => e = .returned (.bool true) ∧ Below W.heap.size W w' := by
  obtain ⟨X, rfl, rfl, rfl, L⟩ := LawIn.of h hv ha
  cases hl : lightB G sets A with
  | false => exact both_dark W X G sets A L hl
  | true => exact both_light W X G sets A L hl
end Go.Proofs.Ytmlbjfaofppikaa
