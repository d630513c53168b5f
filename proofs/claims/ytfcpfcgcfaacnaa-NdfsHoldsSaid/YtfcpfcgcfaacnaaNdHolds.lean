/- The walk of 'NdfsHolds'. No conditions but the form's reach. -/
import Derived.Test.YtfcpfcgcfaacnaaNdOps
import Derived.Test.YtfcpfcgcfaacnaaNdLaw2
import Derived.Test.YtfcpfcgcfaacnaaNdHoldsP
import Derived.Test.YtfcpfcgcfaacnaaPrReads
import Derived.Test.YtfcpfcgcfaacnaaPrSome
import Derived.BigRegion
namespace Go.Proofs.Ytfcpfcgcfaacnaa
open Go.RowKit

theorem frame67 (arr : Array Value) (h : arr.size = 67) : ∃ q : Nat → Value, arr = #[q 0, q 1, q 2, q 3, q 4, q 5, q 6, q 7, q 8, q 9, q 10, q 11, q 12, q 13, q 14, q 15, q 16, q 17, q 18, q 19, q 20, q 21, q 22, q 23, q 24, q 25, q 26, q 27, q 28, q 29, q 30, q 31, q 32, q 33, q 34, q 35, q 36, q 37, q 38, q 39, q 40, q 41, q 42, q 43, q 44, q 45, q 46, q 47, q 48, q 49, q 50, q 51, q 52, q 53, q 54, q 55, q 56, q 57, q 58, q 59, q 60, q 61, q 62, q 63, q 64, q 65, q 66] := by
  refine ⟨fun i => arr.toList.getD i undef, ?_⟩
  have h1 := list_getN (l := arr.toList) (n := 67) (by simpa using h)
  apply Array.ext'
  exact h1
set_option maxRecDepth 20000 in
set_option maxHeartbeats 8000000 in
theorem holds_heavy (W : World) (X : RX) (G : GR) (sets : List (List Bool)) (A : AU) (h : LawIn W X G sets A) (hl : lightK G sets A = false) :
    Calls Try.prog 5 #[.agg (tcells X G sets A).toArray] W fun e w' => e = .returned (.bool true) ∧ Below W.heap.size W w' := by
  obtain ⟨ai, ae, al, as_, bi, bn, ci, ce, cl, cs, di, dn⟩ := X
  dsimp only [tcells]
  have r0 := RowAt.new (w := W) (T := TTk) #[.slice ai G.init.length ci, .slice ae G.edges.length ce, .slice al G.labels.length cl, .slice as_ sets.length cs, .int .i64 A.sets, .slice bi A.init.length di, .slice bn A.nodes.length dn] rfl
  obtain ⟨w2, hw2⟩ : ∃ w2, w2 = W.alloc (.cells #[.slice ai G.init.length ci, .slice ae G.edges.length ce, .slice al G.labels.length cl, .slice as_ sets.length cs, .int .i64 A.sets, .slice bi A.init.length di, .slice bn A.nodes.length dn] TTk) := ⟨_, rfl⟩
  have hb0 : Below W.heap.size W w2 := by rw [hw2]; exact balloc (Below.refl _ _) _
  replace r0 : RowAt w2 W.heap.size TTk [.slice ai G.init.length ci, .slice ae G.edges.length ce, .slice al G.labels.length cl, .slice as_ sets.length cs, .int .i64 A.sets, .slice bi A.init.length di, .slice bn A.nodes.length dn] := by rw [hw2]; exact r0
  have HV : Hid (∀ w, Below W.heap.size W w → Calls Try.prog 9 #[.agg #[.slice ai G.init.length ci, .slice ae G.edges.length ce, .slice al G.labels.length cl, .slice as_ sets.length cs, .int .i64 A.sets, .slice bi A.init.length di, .slice bn A.nodes.length dn]] w fun e w' => e = .returned (.int .i64 1) ∧ Below w.heap.size w w') := fun w hb => by
    have := heavy_any w ⟨ai, ae, al, as_, bi, bn, ci, ce, cl, cs, di, dn⟩ G sets A (h.below hb)
    rw [heavyN_1 hl] at this
    exact this
  have t0 : w2.cell? ⟨W.heap.size, 0, none⟩ = some (.slice ai G.init.length ci) := r0.cell 0
  have t1 : w2.cell? ⟨W.heap.size, 1, none⟩ = some (.slice ae G.edges.length ce) := r0.cell 1
  have t2 : w2.cell? ⟨W.heap.size, 2, none⟩ = some (.slice al G.labels.length cl) := r0.cell 2
  have t3 : w2.cell? ⟨W.heap.size, 3, none⟩ = some (.slice as_ sets.length cs) := r0.cell 3
  have t4 : w2.cell? ⟨W.heap.size, 4, none⟩ = some (.int .i64 A.sets) := r0.cell 4
  have t5 : w2.cell? ⟨W.heap.size, 5, none⟩ = some (.slice bi A.init.length di) := r0.cell 5
  have t6 : w2.cell? ⟨W.heap.size, 6, none⟩ = some (.slice bn A.nodes.length dn) := r0.cell 6
  replace hw2 := Lib.hid hw2
  replace hb0 := Lib.hid hb0
  replace r0 := Lib.hid r0
  go_enter Try.func5, Try.ntmps5
  go_upto_region 1 with (fail)
  rw [← hw2.out]
  clear hw2
  go_wp2_with fail
  refine (HV.out _ hb0.out).mono ?_
  rintro e w3 ⟨rfl, hb3⟩
  clear t0 t1 t2 t3 t4 t5 t6
  go_wp2_with fail
  refine (works_true _).mono ?_
  rintro e w4 ⟨rfl, hb4⟩
  go_wp2
  go_ret
  exact ⟨rfl, btrans hb0.out (btrans hb3 hb4)⟩
set_option maxRecDepth 20000 in
set_option maxHeartbeats 8000000 in
theorem holds_light (W : World) (X : RX) (G : GR) (sets : List (List Bool)) (A : AU) (h : LawIn W X G sets A) (hl : lightK G sets A = true) :
    Calls Try.prog 5 #[.agg (tcells X G sets A).toArray] W fun e w' => e = .returned (.bool true) ∧ Below W.heap.size W w' := by
  obtain ⟨ai, ae, al, as_, bi, bn, ci, ce, cl, cs, di, dn⟩ := X
  dsimp only [tcells]
  have lt := lightK_lt hl
  have HR := fun hq => holds_res (G := G) (sets := sets) (A := A) lt hq
  obtain ⟨z1, z2, z3, z4, z5, z6⟩ := wholeP_len lt 400
  have GRC : Hid (∀ w, Below W.heap.size W w → Calls Try.prog 13 #[.agg #[.slice ai G.init.length ci, .slice ae G.edges.length ce, .slice al G.labels.length cl], .slice as_ sets.length cs] w (SrcMade G sets w)) := fun w hb => graph_any w ai ae al as_ ci ce cl cs G sets (h.g.below hb) h.ok (h.s.below hb)
  have NVC : Hid (∀ w, Below W.heap.size W w → ∀ v, SrcV w G sets v → Calls Try.prog 12 #[v, .agg #[.int .i64 A.sets, .slice bi A.init.length di, .slice bn A.nodes.length dn]] w (NewMade G sets A w)) := fun w hb v hv => new_v w bi bn di dn G sets A v hv h.ok (h.au.below hb) h.aok
  have RW : Hid (∀ w, Below W.heap.size W w → Calls Try.prog 27 #[.agg #[.slice ai G.init.length ci, .slice ae G.edges.length ce, .slice al G.labels.length cl], .slice as_ sets.length cs, .agg #[.int .i64 A.sets, .slice bi A.init.length di, .slice bn A.nodes.length dn], .int .i64 400] w (Whole4 (wholeP G sets A 400).1 (wholeP G sets A 400).2.1 (wholeP G sets A 400).2.2 w)) := fun w hb => rwhole_any w ⟨ai, ae, al, as_, bi, bn, ci, ce, cl, cs, di, dn⟩ G sets A 400 (h.below hb) lt
  obtain ⟨⟨err, init, s⟩, hP⟩ : ∃ P, P = wholeP G sets A 400 := ⟨_, rfl⟩
  rw [← hP] at HR z1 z2 z3 z4 z5 z6 RW
  simp only at HR z1 z2 z3 z4 z5 z6 RW
  have XX : Hid (∀ w e w', Whole4 err init s w e w' → ∃ Y : WX, e = .returned (.tuple #[.agg #[.slice Y.ia init.length Y.ic, .slice Y.ea s.es.length Y.ec, .slice Y.la s.labs.length Y.lc], .slice Y.qa s.l.length Y.qc, .slice Y.ba s.ins.length Y.bc, .int .i64 err]) ∧ Reads w' Y init s ∧ Below w.heap.size w w') := fun w e w' hh => by
    obtain ⟨Y, y1, y2, y3⟩ := hh.x
    exact ⟨Y, y1, y2.at, y3⟩
  replace hP := Lib.hid hP
  replace HR := Lib.hid HR
  replace z1 := Lib.hid z1
  replace z2 := Lib.hid z2
  replace z3 := Lib.hid z3
  replace z4 := Lib.hid z4
  replace z5 := Lib.hid z5
  replace z6 := Lib.hid z6
  have r0 := RowAt.new (w := W) (T := TTk) #[.slice ai G.init.length ci, .slice ae G.edges.length ce, .slice al G.labels.length cl, .slice as_ sets.length cs, .int .i64 A.sets, .slice bi A.init.length di, .slice bn A.nodes.length dn] rfl
  obtain ⟨w2, hw2⟩ : ∃ w2, w2 = W.alloc (.cells #[.slice ai G.init.length ci, .slice ae G.edges.length ce, .slice al G.labels.length cl, .slice as_ sets.length cs, .int .i64 A.sets, .slice bi A.init.length di, .slice bn A.nodes.length dn] TTk) := ⟨_, rfl⟩
  have hb0 : Below W.heap.size W w2 := by rw [hw2]; exact balloc (Below.refl _ _) _
  replace r0 : RowAt w2 W.heap.size TTk [.slice ai G.init.length ci, .slice ae G.edges.length ce, .slice al G.labels.length cl, .slice as_ sets.length cs, .int .i64 A.sets, .slice bi A.init.length di, .slice bn A.nodes.length dn] := by rw [hw2]; exact r0
  have HV : Hid (∀ w, Below W.heap.size W w → Calls Try.prog 9 #[.agg #[.slice ai G.init.length ci, .slice ae G.edges.length ce, .slice al G.labels.length cl, .slice as_ sets.length cs, .int .i64 A.sets, .slice bi A.init.length di, .slice bn A.nodes.length dn]] w fun e w' => e = .returned (.int .i64 0) ∧ Below w.heap.size w w') := fun w hb => by
    have := heavy_any w ⟨ai, ae, al, as_, bi, bn, ci, ce, cl, cs, di, dn⟩ G sets A (h.below hb)
    rw [heavyN_0 hl] at this
    exact this
  have t0 : w2.cell? ⟨W.heap.size, 0, none⟩ = some (.slice ai G.init.length ci) := r0.cell 0
  have t1 : w2.cell? ⟨W.heap.size, 1, none⟩ = some (.slice ae G.edges.length ce) := r0.cell 1
  have t2 : w2.cell? ⟨W.heap.size, 2, none⟩ = some (.slice al G.labels.length cl) := r0.cell 2
  have t3 : w2.cell? ⟨W.heap.size, 3, none⟩ = some (.slice as_ sets.length cs) := r0.cell 3
  have t4 : w2.cell? ⟨W.heap.size, 4, none⟩ = some (.int .i64 A.sets) := r0.cell 4
  have t5 : w2.cell? ⟨W.heap.size, 5, none⟩ = some (.slice bi A.init.length di) := r0.cell 5
  have t6 : w2.cell? ⟨W.heap.size, 6, none⟩ = some (.slice bn A.nodes.length dn) := r0.cell 6
  replace hw2 := Lib.hid hw2
  replace hb0 := Lib.hid hb0
  replace r0 := Lib.hid r0
  go_enter Try.func5, Try.ntmps5
  go_upto_region 1 with (fail)
  rw [← hw2.out]
  clear hw2
  go_wp2_with fail
  refine (HV.out _ hb0.out).mono ?_
  rintro e w3 ⟨rfl, hb3⟩
  clear t0 t1 t2 t3 t4 t5 t6
  have hbw3 := btrans hb0.out hb3
  have r3 := r0.out.below hb3
  have t0 : w3.cell? ⟨W.heap.size, 0, none⟩ = some (.slice ai G.init.length ci) := r3.cell 0
  have t1 : w3.cell? ⟨W.heap.size, 1, none⟩ = some (.slice ae G.edges.length ce) := r3.cell 1
  have t2 : w3.cell? ⟨W.heap.size, 2, none⟩ = some (.slice al G.labels.length cl) := r3.cell 2
  have t3 : w3.cell? ⟨W.heap.size, 3, none⟩ = some (.slice as_ sets.length cs) := r3.cell 3
  have t4 : w3.cell? ⟨W.heap.size, 4, none⟩ = some (.int .i64 A.sets) := r3.cell 4
  have t5 : w3.cell? ⟨W.heap.size, 5, none⟩ = some (.slice bi A.init.length di) := r3.cell 5
  have t6 : w3.cell? ⟨W.heap.size, 6, none⟩ = some (.slice bn A.nodes.length dn) := r3.cell 6
  clear h hl r0 hb0 hb3 HV
  go_wp2_with fail
  refine (RW.out w3 hbw3).mono ?_
  rintro e w4 h4
  obtain ⟨Y, rfl, hRd, hb4⟩ := XX.out _ _ _ h4
  clear t0 t1 t2 t3 t4 t5 t6 XX RW h4
  obtain ⟨Yia, Yic, Yea, Yec, Yla, Ylc, Yqa, Yqc, Yba, Ybc, Yra, Yrc⟩ := Y
  obtain ⟨R1, R2, _, _, R5⟩ := hRd
  dsimp only at R1 R2 R5 ⊢
  by_cases he : err = 0
  rotate_left
  · have heb : (err != 0) = true := by simpa using he
    go_wp2_with fail
    refine (works_true _).mono ?_
    rintro e w5 ⟨rfl, hb5⟩
    go_wp2
    go_ret
    exact ⟨rfl, btrans (btrans hbw3 hb4) (btrans (balloc (Below.refl _ _) _) hb5)⟩
  subst he
  have HS := HR.out rfl
  obtain ⟨w5, hw5⟩ : ∃ w5, w5 = w4.alloc (.cells #[.slice Yia init.length Yic, .slice Yea s.es.length Yec, .slice Yla s.labs.length Ylc] TG) := ⟨_, rfl⟩
  obtain ⟨gb, hgb⟩ : ∃ gb, gb = w4.heap.size := ⟨_, rfl⟩
  have rg5 : RowAt w5 gb TG [.slice Yia init.length Yic, .slice Yea s.es.length Yec, .slice Yla s.labs.length Ylc] := by rw [hw5]; exact RowAt.new #[.slice Yia init.length Yic, .slice Yea s.es.length Yec, .slice Yla s.labs.length Ylc] hgb
  have hb45 : Below w4.heap.size w4 w5 := by rw [hw5]; exact balloc (Below.refl _ _) _
  have hb5 := btrans (btrans hbw3 hb4) hb45
  have r5 := r3.below (btrans hb4 hb45)
  have R1' := Lib.hid (R1.below hb45)
  have R2' := Lib.hid (R2.below hb45)
  have R5' := Lib.hid (R5.below hb45)
  replace hw5 := Lib.hid hw5
  replace hgb := Lib.hid hgb
  replace HS := Lib.hid HS
  clear r3 hbw3 hb4 hb45 R1 R2 R5 HR
  go_upto_region 6 with (fail)
  rw [← hw5.out, ← hgb.out]
  clear hw5
  refine wp_region_ops (by kernel_rfl) w5 G sets A 11 [.fix (.pointer (some ⟨W.heap.size, 0, none⟩)), .fix (.agg #[.slice ai G.init.length ci, .slice ae G.edges.length ce, .slice al G.labels.length cl]), .fix (.pointer (some ⟨W.heap.size, 3, none⟩)), .fix (.slice as_ sets.length cs), .src, .fix (.pointer (some ⟨W.heap.size, 4, none⟩)), .fix (.agg #[.int .i64 A.sets, .slice bi A.init.length di, .slice bn A.nodes.length dn]), .new, .fix (.agg #[.int .i64 4000, .int .i64 4000]), .found (4000) (4000), .box] (by kernel_rfl) (by kernel_rfl) (by kernel_rfl) (Below.refl _ _) ?_ ?_
  · intro i hi
    match i, hi with
    | 0, _ =>
      intro o ho a w hR hF hD K hK
      simp only [List.getElem?_toArray, List.getElem?_cons_zero, Option.some.injEq] at ho
      subst ho
      have e1 : a.tmps.getD 1 undef = .pointer (some ⟨W.heap.size, 0, none⟩) := hF 1 (notDst_spec (by kernel_rfl))
      go_simp
      exact hK _ _ hR (Below.refl _ _) trivial rfl
    | 1, _ =>
      intro o ho a w hR hF hD K hK
      simp only [List.getElem?_toArray, List.getElem?_cons_zero, List.getElem?_cons_succ, Option.some.injEq] at ho
      subst ho
      have e28 : a.tmps.getD 28 undef = .pointer (some ⟨W.heap.size, 0, none⟩) := hD 0 (dep_spec (by kernel_rfl)) 28 rfl
      have c0 : w.cell? ⟨W.heap.size, 0, none⟩ = some (.slice ai G.init.length ci) := (r5.below hR).cell 0
      have c1 : w.cell? ⟨W.heap.size, 1, none⟩ = some (.slice ae G.edges.length ce) := (r5.below hR).cell 1
      have c2 : w.cell? ⟨W.heap.size, 2, none⟩ = some (.slice al G.labels.length cl) := (r5.below hR).cell 2
      go_simp
      exact hK _ _ hR (Below.refl _ _) trivial rfl
    | 2, _ =>
      intro o ho a w hR hF hD K hK
      simp only [List.getElem?_toArray, List.getElem?_cons_zero, List.getElem?_cons_succ, Option.some.injEq] at ho
      subst ho
      have e1 : a.tmps.getD 1 undef = .pointer (some ⟨W.heap.size, 0, none⟩) := hF 1 (notDst_spec (by kernel_rfl))
      go_simp
      exact hK _ _ hR (Below.refl _ _) trivial rfl
    | 3, _ =>
      intro o ho a w hR hF hD K hK
      simp only [List.getElem?_toArray, List.getElem?_cons_zero, List.getElem?_cons_succ, Option.some.injEq] at ho
      subst ho
      have e30 : a.tmps.getD 30 undef = .pointer (some ⟨W.heap.size, 3, none⟩) := hD 2 (dep_spec (by kernel_rfl)) 30 rfl
      have c0 : w.cell? ⟨W.heap.size, 3, none⟩ = some (.slice as_ sets.length cs) := (r5.below hR).cell 3
      go_simp
      exact hK _ _ hR (Below.refl _ _) trivial rfl
    | 4, _ =>
      intro o ho a w hR hF hD K hK
      simp only [List.getElem?_toArray, List.getElem?_cons_zero, List.getElem?_cons_succ, Option.some.injEq] at ho
      subst ho
      have e29 : a.tmps.getD 29 undef = .agg #[.slice ai G.init.length ci, .slice ae G.edges.length ce, .slice al G.labels.length cl] := hD 1 (dep_spec (by kernel_rfl)) 29 rfl
      have e31 : a.tmps.getD 31 undef = .slice as_ sets.length cs := hD 3 (dep_spec (by kernel_rfl)) 31 rfl
      go_simp
      refine (GRC.out w (btrans hb5 hR)).mono ?_
      rintro e w1 h1
      have hb := h1.1
      obtain ⟨v, rfl, hv⟩ := h1.v
      exact hK _ _ (btrans hR hb) hb trivial hv
    | 5, _ =>
      intro o ho a w hR hF hD K hK
      simp only [List.getElem?_toArray, List.getElem?_cons_zero, List.getElem?_cons_succ, Option.some.injEq] at ho
      subst ho
      have e1 : a.tmps.getD 1 undef = .pointer (some ⟨W.heap.size, 0, none⟩) := hF 1 (notDst_spec (by kernel_rfl))
      go_simp
      exact hK _ _ hR (Below.refl _ _) trivial rfl
    | 6, _ =>
      intro o ho a w hR hF hD K hK
      simp only [List.getElem?_toArray, List.getElem?_cons_zero, List.getElem?_cons_succ, Option.some.injEq] at ho
      subst ho
      have e33 : a.tmps.getD 33 undef = .pointer (some ⟨W.heap.size, 4, none⟩) := hD 5 (dep_spec (by kernel_rfl)) 33 rfl
      have c0 : w.cell? ⟨W.heap.size, 4, none⟩ = some (.int .i64 A.sets) := (r5.below hR).cell 4
      have c1 : w.cell? ⟨W.heap.size, 5, none⟩ = some (.slice bi A.init.length di) := (r5.below hR).cell 5
      have c2 : w.cell? ⟨W.heap.size, 6, none⟩ = some (.slice bn A.nodes.length dn) := (r5.below hR).cell 6
      go_simp
      exact hK _ _ hR (Below.refl _ _) trivial rfl
    | 7, _ =>
      intro o ho a w hR hF hD K hK
      simp only [List.getElem?_toArray, List.getElem?_cons_zero, List.getElem?_cons_succ, Option.some.injEq] at ho
      subst ho
      have s32 : SrcV w G sets (a.tmps.getD 32 undef) := hD 4 (dep_spec (by kernel_rfl)) 32 rfl
      have e34 : a.tmps.getD 34 undef = .agg #[.int .i64 A.sets, .slice bi A.init.length di, .slice bn A.nodes.length dn] := hD 6 (dep_spec (by kernel_rfl)) 34 rfl
      obtain ⟨x32, hx32⟩ : ∃ x, x = a.tmps.getD 32 undef := ⟨_, rfl⟩
      rw [← hx32] at s32
      have e32 := hx32.symm
      clear hx32
      go_simp
      refine (NVC.out w (btrans hb5 hR) _ s32).mono ?_
      rintro e w1 h1
      have hb := h1.1
      obtain ⟨v, rfl, hv⟩ := h1.v
      exact hK _ _ (btrans hR hb) hb trivial hv
    | 8, _ =>
      intro o ho a w hR hF hD K hK
      simp only [List.getElem?_toArray, List.getElem?_cons_zero, List.getElem?_cons_succ, Option.some.injEq] at ho
      subst ho
      go_simp
      exact hK _ _ hR (Below.refl _ _) trivial rfl
    | 9, _ =>
      intro o ho a w hR hF hD K hK
      simp only [List.getElem?_toArray, List.getElem?_cons_zero, List.getElem?_cons_succ, Option.some.injEq] at ho
      subst ho
      have s35 : NewV w G sets A (a.tmps.getD 35 undef) := hD 7 (dep_spec (by kernel_rfl)) 35 rfl
      have e36 : a.tmps.getD 36 undef = .agg #[.int .i64 4000, .int .i64 4000] := hD 8 (dep_spec (by kernel_rfl)) 36 rfl
      obtain ⟨x35, hx35⟩ : ∃ x, x = a.tmps.getD 35 undef := ⟨_, rfl⟩
      rw [← hx35] at s35
      have e35 := hx35.symm
      clear hx35
      go_simp
      refine (search_v w G sets A x35 s35 lt 4000 4000).mono ?_
      rintro e w1 ⟨v, rfl, hb, hf⟩
      exact hK _ _ (btrans hR hb) hb (fun b hb' => (hf.blk hb').1) (hf.weak hR.size)
    | 10, _ =>
      intro o ho a w hR hF hD K hK
      simp only [List.getElem?_toArray, List.getElem?_cons_zero, List.getElem?_cons_succ, Option.some.injEq] at ho
      subst ho
      go_simp
      exact hK _ _ (balloc hR _) (balloc (Below.refl _ _) _) rfl ⟨w.heap.size, rfl, hR.size, RowAt.new zfound.toArray rfl⟩
    | k + 11, hk => omega
  · rintro ⟨tm, df⟩ w hdf hsz hF hR hV hU
    obtain rfl : df = [] := hdf
    obtain ⟨q, rfl⟩ := frame67 tm hsz
    obtain ⟨sa, sc, la, lc, k37, ps, pl⟩ := FoundNew.at (hV 9 37 (by decide) rfl)
    obtain ⟨g, k7, hg, rg⟩ := hV 10 7 (by decide) rfl
    have v7 := hU 9 10 37 7 (by decide) (by decide) (by decide) rfl rfl
    replace k37 : q 37 = _ := k37
    replace k7 : q 7 = _ := k7
    replace v7 : ∀ b, blkOf (q 37) b → q 7 ≠ _ := v7
    rw [k37, k7] at v7
    replace v7 : ∀ b, blkOf (.agg (fcells (resP G sets A 4000 4000) sa sc la lc).toArray) b → b ≠ g := fun b hb e => v7 b hb (by rw [e])
    rw [k7, k37]
    clear k7 k37
    have k0 := hF 0 (notDst_spec (by kernel_rfl))
    have k1 := hF 1 (notDst_spec (by kernel_rfl))
    have k2 := hF 2 (notDst_spec (by kernel_rfl))
    have k3 := hF 3 (notDst_spec (by kernel_rfl))
    have k4 := hF 4 (notDst_spec (by kernel_rfl))
    have k5 := hF 5 (notDst_spec (by kernel_rfl))
    have k6 := hF 6 (notDst_spec (by kernel_rfl))
    have k8 := hF 8 (notDst_spec (by kernel_rfl))
    have k9 := hF 9 (notDst_spec (by kernel_rfl))
    have k10 := hF 10 (notDst_spec (by kernel_rfl))
    have k11 := hF 11 (notDst_spec (by kernel_rfl))
    have k12 := hF 12 (notDst_spec (by kernel_rfl))
    have k13 := hF 13 (notDst_spec (by kernel_rfl))
    have k14 := hF 14 (notDst_spec (by kernel_rfl))
    have k15 := hF 15 (notDst_spec (by kernel_rfl))
    have k16 := hF 16 (notDst_spec (by kernel_rfl))
    have k17 := hF 17 (notDst_spec (by kernel_rfl))
    have k18 := hF 18 (notDst_spec (by kernel_rfl))
    have k19 := hF 19 (notDst_spec (by kernel_rfl))
    have k20 := hF 20 (notDst_spec (by kernel_rfl))
    have k21 := hF 21 (notDst_spec (by kernel_rfl))
    have k22 := hF 22 (notDst_spec (by kernel_rfl))
    have k23 := hF 23 (notDst_spec (by kernel_rfl))
    have k24 := hF 24 (notDst_spec (by kernel_rfl))
    have k25 := hF 25 (notDst_spec (by kernel_rfl))
    have k26 := hF 26 (notDst_spec (by kernel_rfl))
    have k27 := hF 27 (notDst_spec (by kernel_rfl))
    have k38 := hF 38 (notDst_spec (by kernel_rfl))
    have k39 := hF 39 (notDst_spec (by kernel_rfl))
    have k40 := hF 40 (notDst_spec (by kernel_rfl))
    have k41 := hF 41 (notDst_spec (by kernel_rfl))
    have k42 := hF 42 (notDst_spec (by kernel_rfl))
    have k43 := hF 43 (notDst_spec (by kernel_rfl))
    have k44 := hF 44 (notDst_spec (by kernel_rfl))
    have k45 := hF 45 (notDst_spec (by kernel_rfl))
    have k46 := hF 46 (notDst_spec (by kernel_rfl))
    have k47 := hF 47 (notDst_spec (by kernel_rfl))
    have k48 := hF 48 (notDst_spec (by kernel_rfl))
    have k49 := hF 49 (notDst_spec (by kernel_rfl))
    have k50 := hF 50 (notDst_spec (by kernel_rfl))
    have k51 := hF 51 (notDst_spec (by kernel_rfl))
    have k52 := hF 52 (notDst_spec (by kernel_rfl))
    have k53 := hF 53 (notDst_spec (by kernel_rfl))
    have k54 := hF 54 (notDst_spec (by kernel_rfl))
    have k55 := hF 55 (notDst_spec (by kernel_rfl))
    have k56 := hF 56 (notDst_spec (by kernel_rfl))
    have k57 := hF 57 (notDst_spec (by kernel_rfl))
    have k58 := hF 58 (notDst_spec (by kernel_rfl))
    have k59 := hF 59 (notDst_spec (by kernel_rfl))
    have k60 := hF 60 (notDst_spec (by kernel_rfl))
    have k61 := hF 61 (notDst_spec (by kernel_rfl))
    have k62 := hF 62 (notDst_spec (by kernel_rfl))
    have k63 := hF 63 (notDst_spec (by kernel_rfl))
    have k64 := hF 64 (notDst_spec (by kernel_rfl))
    have k65 := hF 65 (notDst_spec (by kernel_rfl))
    have k66 := hF 66 (notDst_spec (by kernel_rfl))
    simp only [Array.getD_eq_getD_getElem?, List.getElem?_toArray, List.getElem?_cons_succ, List.getElem?_cons_zero, Option.getD_some] at k0 k1 k2 k3 k4 k5 k6 k8 k9 k10 k11 k12 k13 k14 k15 k16 k17 k18 k19 k20 k21 k22 k23 k24 k25 k26 k27 k38 k39 k40 k41 k42 k43 k44 k45 k46 k47 k48 k49 k50 k51 k52 k53 k54 k55 k56 k57 k58 k59 k60 k61 k62 k63 k64 k65 k66
    simp only [k0, k1, k2, k3, k4, k5, k6, k8, k9, k10, k11, k12, k13, k14, k15, k16, k17, k18, k19, k20, k21, k22, k23, k24, k25, k26, k27, k38, k39, k40, k41, k42, k43, k44, k45, k46, k47, k48, k49, k50, k51, k52, k53, k54, k55, k56, k57, k58, k59, k60, k61, k62, k63, k64, k65, k66]
    clear k0 k1 k2 k3 k4 k5 k6 k8 k9 k10 k11 k12 k13 k14 k15 k16 k17 k18 k19 k20 k21 k22 k23 k24 k25 k26 k27 k38 k39 k40 k41 k42 k43 k44 k45 k46 k47 k48 k49 k50 k51 k52 k53 k54 k55 k56 k57 k58 k59 k60 k61 k62 k63 k64 k65 k66
    clear hF hV hU hsz
    replace rg : RowAt w g TFd [.int .i64 0, .int .i64 0, .int .i64 0, .int .i64 0, .int .i64 0, .slice none 0 0, .slice none 0 0] := rg
    generalize resP G sets A 4000 4000 = f at HS ps pl v7 ⊢
    have FB := Lib.hid (fun w' hw => found_box (w' := w') (sc := sc) (lc := lc) rg hR hg ps pl v7 hw)
    rw [show (Value.agg (fcells f sa sc la lc).toArray) = .agg #[.int .i64 (f.kind : Int), .int .i64 (f.why : Int), .int .i64 (f.nodes : Int), .int .i64 (f.edges : Int), .int .i64 (f.depth : Int), .slice sa f.stem.length sc, .slice la f.loop.length lc] from rfl]
    change wpAny _ _ _ _ 1 _ _ _
    have f0 := rg.free 0
    have c0 := rg.cell 0
    have f1 := rg.free 1
    have c1 := rg.cell 1
    have f2 := rg.free 2
    have c2 := rg.cell 2
    have f3 := rg.free 3
    have c3 := rg.cell 3
    have f4 := rg.free 4
    have c4 := rg.cell 4
    have f5 := rg.free 5
    have c5 := rg.cell 5
    have f6 := rg.free 6
    have c6 := rg.cell 6
    simp only [List.getElem?_cons_zero, List.getElem?_cons_succ] at c0 c1 c2 c3 c4 c5 c6
    refine wpAny_ready (rs := [11]) (by kernel_rfl) (by simp) ?_
    refine AllReady.cons (i := 11) rfl (fun K hK => ?_) AllReady.nil
    go_simp
    refine hK _ _ ?_
    refine ⟨by kernel_rfl, ?_⟩
    clear hK K f0 c0 f1 c1 f2 c2 f3 c3 f4 c4 f5 c5 f6 c6 ps pl v7
    obtain ⟨rf, hbw, _, _, _⟩ := FB.out _ rfl
    generalize (((((((w.setCell _ _).setCell _ _).setCell _ _).setCell _ _).setCell _ _).setCell _ _).setCell _ _) = wz at rf hbw ⊢
    clear FB rg hR GRC NVC lt hg r5
    have rgz := rg5.below hbw
    have S1 := R1'.out.below hbw
    have S2 := R2'.out.below hbw
    have S5 := R5'.out.below hbw
    have hbz := Lib.hid (btrans hb5 hbw)
    clear rg5 R1' R2' R5' hb5
    obtain ⟨fk, fy, fn, fe, fd, fs, fl⟩ := f
    dsimp only at HS ⊢
    have SM : Hid (∀ v, v = wz.alloc (.cells #[.slice Yba s.ins.length Ybc] 73) → Calls Try.prog 28 #[.agg #[.slice Yia init.length Yic, .slice Yea s.es.length Yec, .slice Yla s.labs.length Ylc], .slice (some ⟨wz.heap.size, 0, none⟩) 1 1] v (TellsB v (SomeP init s.es [s.ins]))) := by
      intro v hv
      have hb : Below wz.heap.size wz v := by rw [hv]; exact balloc (Below.refl _ _) _
      have rr : RowAt v wz.heap.size 73 [.slice Yba s.ins.length Ybc] := by rw [hv]; exact RowAt.new #[.slice Yba s.ins.length Ybc] rfl
      refine some_any v Yia Yic init (S1.below hb) z1.out Yea Yec Yla s.labs.length Ylc s.es (S2.below hb) z2.out z6.out (some ⟨wz.heap.size, 0, none⟩) 1 [s.ins] ?_ (by show 1 ≤ 1000000; decide) (fun F hF => ?_)
      · intro _
        refine ⟨wz.heap.size, 0, rfl, fun i hi => ?_⟩
        obtain rfl : i = 0 := by simpa using hi
        exact ⟨Yba, Ybc, rr.cell 0, S5.below hb⟩
      · rw [List.mem_singleton] at hF
        subst hF
        exact z4.out
    have q0 : wz.cell? ⟨gb, 0, none⟩ = some (.slice Yia init.length Yic) := rgz.cell 0
    have q1 : wz.cell? ⟨gb, 1, none⟩ = some (.slice Yea s.es.length Yec) := rgz.cell 1
    have q2 : wz.cell? ⟨gb, 2, none⟩ = some (.slice Yla s.labs.length Ylc) := rgz.cell 2
    have rgz' := Lib.hid rgz
    have rf' := Lib.hid rf
    clear S1 S2 S5 hbw rgz rf
    go_wp2_with fail
    refine (SM.out _ rfl).mono ?_
    rintro e wy ⟨b, rfl, hbP, hby⟩
    have hbzy : Below wz.heap.size wz wy := btrans (balloc (Below.refl _ _) _) hby
    have x1 : wy.cell? ⟨gb, 1, none⟩ = some (.slice Yea s.es.length Yec) := (rgz'.out.below hbzy).cell 1
    have x2 : wy.cell? ⟨g, 2, none⟩ = some (.int .i64 (fn : Int)) := (rf'.out.below hbzy).cell 2
    have hle : fn ≤ s.es.length := HS.out.2
    have hbf := Lib.hid (btrans hbz.out hbzy)
    clear q0 q1 q2 hby SM
    have WT := Lib.hid (works_true wy)
    rcases HS.out.1 with ⟨hk, hs⟩ | ⟨hk, hs⟩
    · subst hk
      obtain rfl : b = true := hbP.2 hs
      have x0 : wy.cell? ⟨g, 0, none⟩ = some (.int .i64 2) := (rf'.out.below hbzy).cell 0
      clear hbP hs HS hbzy rgz' rf'
      go_wp2_with fail
      refine WT.out.mono ?_
      rintro e w9 ⟨rfl, hb9⟩
      go_wp2
      go_ret
      exact ⟨rfl, btrans hbf.out hb9⟩
    · subst hk
      obtain rfl : b = false := by
        cases b with
        | false => rfl
        | true => exact absurd (hbP.1 rfl) hs
      have x0 : wy.cell? ⟨g, 0, none⟩ = some (.int .i64 1) := (rf'.out.below hbzy).cell 0
      clear hbP hs HS hbzy rgz' rf'
      go_wp2_with fail
      refine WT.out.mono ?_
      rintro e w9 ⟨rfl, hb9⟩
      go_wp2
      go_ret
      exact ⟨rfl, btrans hbf.out hb9⟩
theorem ndfsHolds_walk (W : World) (c0 : Array Value) (t : TK) (s0 : rTask W c0.toList t) :
    Calls Try.prog 5 #[.agg c0] W fun e w' => e = .returned (.bool true) ∧ Below W.heap.size W w' := by
  obtain ⟨X, rfl, h⟩ := LawIn.task s0
  cases hl : lightK t.G t.sets t.A with
  | false => exact holds_heavy W X t.G t.sets t.A h hl
  | true => exact holds_light W X t.G t.sets t.A h hl
end Go.Proofs.Ytfcpfcgcfaacnaa
