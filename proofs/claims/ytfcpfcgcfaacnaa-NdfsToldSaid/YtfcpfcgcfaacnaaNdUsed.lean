/- The walk of 'NdfsUsed'. No conditions but the form's reach. -/
import Derived.Test.YtfcpfcgcfaacnaaNdOps
import Derived.Test.YtfcpfcgcfaacnaaNdLaw2
import Derived.BigRegion
namespace Go.Proofs.Ytfcpfcgcfaacnaa
open Go.RowKit

theorem frame94 (arr : Array Value) (h : arr.size = 94) : ∃ q : Nat → Value, arr = #[q 0, q 1, q 2, q 3, q 4, q 5, q 6, q 7, q 8, q 9, q 10, q 11, q 12, q 13, q 14, q 15, q 16, q 17, q 18, q 19, q 20, q 21, q 22, q 23, q 24, q 25, q 26, q 27, q 28, q 29, q 30, q 31, q 32, q 33, q 34, q 35, q 36, q 37, q 38, q 39, q 40, q 41, q 42, q 43, q 44, q 45, q 46, q 47, q 48, q 49, q 50, q 51, q 52, q 53, q 54, q 55, q 56, q 57, q 58, q 59, q 60, q 61, q 62, q 63, q 64, q 65, q 66, q 67, q 68, q 69, q 70, q 71, q 72, q 73, q 74, q 75, q 76, q 77, q 78, q 79, q 80, q 81, q 82, q 83, q 84, q 85, q 86, q 87, q 88, q 89, q 90, q 91, q 92, q 93] := by
  refine ⟨fun i => arr.toList.getD i undef, ?_⟩
  have h1 := list_getN (l := arr.toList) (n := 94) (by simpa using h)
  apply Array.ext'
  exact h1
/-- where a law begins: the task and the budget in boxes -/
structure BoxT (W : World) (X : RX) (G : GR) (sets : List (List Bool)) (A : AU) (b1 b2 : Int) (w : World) : Prop where
  rt : RowAt w W.heap.size TTk (tcells X G sets A)
  rb : RowAt w (W.heap.size + 1) TBu [.int .i64 b1, .int .i64 b2]
  below : Below W.heap.size W w
theorem BoxT.start (W : World) (X : RX) (G : GR) (sets : List (List Bool)) (A : AU) (b1 b2 : Int) : BoxT W X G sets A b1 b2 ((W.alloc (.cells (tcells X G sets A).toArray TTk)).alloc (.cells #[.int .i64 b1, .int .i64 b2] TBu)) :=
  ⟨(RowAt.new (tcells X G sets A).toArray rfl).alloc _, RowAt.new #[.int .i64 b1, .int .i64 b2] (by simp), balloc (balloc (Below.refl _ _) _) _⟩
theorem BoxT.next {W : World} {X : RX} {G : GR} {sets : List (List Bool)} {A : AU} {b1 b2 : Int} {w w' : World} (h : BoxT W X G sets A b1 b2 w) (hb : Below w.heap.size w w') : BoxT W X G sets A b1 b2 w' := ⟨h.rt.below hb, h.rb.below hb, btrans h.below hb⟩
set_option maxRecDepth 20000 in
set_option maxHeartbeats 8000000 in
theorem used_heavy (W : World) (X : RX) (G : GR) (sets : List (List Bool)) (A : AU) (b1 b2 : Int) (h : LawIn W X G sets A) (hl : lightK G sets A = false) :
    Calls Try.prog 7 #[.agg (tcells X G sets A).toArray, .agg #[.int .i64 b1, .int .i64 b2]] W fun e w' => e = .returned (.bool true) ∧ Below W.heap.size W w' := by
  obtain ⟨ai, ae, al, as_, bi, bn, ci, ce, cl, cs, di, dn⟩ := X
  dsimp only [tcells]
  have B0 := BoxT.start W ⟨ai, ae, al, as_, bi, bn, ci, ce, cl, cs, di, dn⟩ G sets A b1 b2
  obtain ⟨w2, hw2⟩ : ∃ w2, w2 = (W.alloc (.cells #[.slice ai G.init.length ci, .slice ae G.edges.length ce, .slice al G.labels.length cl, .slice as_ sets.length cs, .int .i64 A.sets, .slice bi A.init.length di, .slice bn A.nodes.length dn] TTk)).alloc (.cells #[.int .i64 b1, .int .i64 b2] TBu) := ⟨_, rfl⟩
  replace B0 : BoxT W ⟨ai, ae, al, as_, bi, bn, ci, ce, cl, cs, di, dn⟩ G sets A b1 b2 w2 := by rw [hw2]; exact B0
  have HV : Hid (∀ w, Below W.heap.size W w → Calls Try.prog 9 #[.agg #[.slice ai G.init.length ci, .slice ae G.edges.length ce, .slice al G.labels.length cl, .slice as_ sets.length cs, .int .i64 A.sets, .slice bi A.init.length di, .slice bn A.nodes.length dn]] w fun e w' => e = .returned (.int .i64 1) ∧ Below w.heap.size w w') := fun w hb => by
    have := heavy_any w ⟨ai, ae, al, as_, bi, bn, ci, ce, cl, cs, di, dn⟩ G sets A (h.below hb)
    rw [heavyN_1 hl] at this
    exact this
  have hb0 := Lib.hid B0.below
  replace B0 := Lib.hid B0
  have r0 := Lib.hid B0.out.rt
  have t0 : w2.cell? ⟨W.heap.size, 0, none⟩ = some (.slice ai G.init.length ci) := B0.out.rt.cell 0
  have t1 : w2.cell? ⟨W.heap.size, 1, none⟩ = some (.slice ae G.edges.length ce) := B0.out.rt.cell 1
  have t2 : w2.cell? ⟨W.heap.size, 2, none⟩ = some (.slice al G.labels.length cl) := B0.out.rt.cell 2
  have t3 : w2.cell? ⟨W.heap.size, 3, none⟩ = some (.slice as_ sets.length cs) := B0.out.rt.cell 3
  have t4 : w2.cell? ⟨W.heap.size, 4, none⟩ = some (.int .i64 A.sets) := B0.out.rt.cell 4
  have t5 : w2.cell? ⟨W.heap.size, 5, none⟩ = some (.slice bi A.init.length di) := B0.out.rt.cell 5
  have t6 : w2.cell? ⟨W.heap.size, 6, none⟩ = some (.slice bn A.nodes.length dn) := B0.out.rt.cell 6
  replace hw2 := Lib.hid hw2
  clear r0
  go_enter Try.func7, Try.ntmps7
  go_upto_region 1 with (fail)
  rw [← hw2.out]
  clear hw2
  go_wp2_with fail
  refine (HV.out _ hb0.out).mono ?_
  rintro e w3 ⟨rfl, hb3⟩
  clear t0 t1 t2 t3 t4 t5 t6
  go_wp2_with fail
  refine (works_true _).mono ?_
  rintro e w4 ⟨rfl, hb4⟩
  go_wp2
  go_ret
  exact ⟨rfl, btrans hb0.out (btrans hb3 hb4)⟩
set_option maxRecDepth 20000 in
set_option maxHeartbeats 8000000 in
theorem used_light (W : World) (X : RX) (G : GR) (sets : List (List Bool)) (A : AU) (b1 b2 : Int) (h : LawIn W X G sets A) (hl : lightK G sets A = true) :
    Calls Try.prog 7 #[.agg (tcells X G sets A).toArray, .agg #[.int .i64 b1, .int .i64 b2]] W fun e w' => e = .returned (.bool true) ∧ Below W.heap.size W w' := by
  obtain ⟨ai, ae, al, as_, bi, bn, ci, ce, cl, cs, di, dn⟩ := X
  dsimp only [tcells]
  have lt := lightK_lt hl
  have U := used_ok lt b1 b2
  have GRC : Hid (∀ w, Below W.heap.size W w → Calls Try.prog 13 #[.agg #[.slice ai G.init.length ci, .slice ae G.edges.length ce, .slice al G.labels.length cl], .slice as_ sets.length cs] w (SrcMade G sets w)) := fun w hb => graph_any w ai ae al as_ ci ce cl cs G sets (h.g.below hb) h.ok (h.s.below hb)
  have NVC : Hid (∀ w, Below W.heap.size W w → ∀ v, SrcV w G sets v → Calls Try.prog 12 #[v, .agg #[.int .i64 A.sets, .slice bi A.init.length di, .slice bn A.nodes.length dn]] w (NewMade G sets A w)) := fun w hb v hv => new_v w bi bn di dn G sets A v hv h.ok (h.au.below hb) h.aok
  have B0 := BoxT.start W ⟨ai, ae, al, as_, bi, bn, ci, ce, cl, cs, di, dn⟩ G sets A b1 b2
  obtain ⟨w2, hw2⟩ : ∃ w2, w2 = (W.alloc (.cells #[.slice ai G.init.length ci, .slice ae G.edges.length ce, .slice al G.labels.length cl, .slice as_ sets.length cs, .int .i64 A.sets, .slice bi A.init.length di, .slice bn A.nodes.length dn] TTk)).alloc (.cells #[.int .i64 b1, .int .i64 b2] TBu) := ⟨_, rfl⟩
  replace B0 : BoxT W ⟨ai, ae, al, as_, bi, bn, ci, ce, cl, cs, di, dn⟩ G sets A b1 b2 w2 := by rw [hw2]; exact B0
  have HV : Hid (∀ w, Below W.heap.size W w → Calls Try.prog 9 #[.agg #[.slice ai G.init.length ci, .slice ae G.edges.length ce, .slice al G.labels.length cl, .slice as_ sets.length cs, .int .i64 A.sets, .slice bi A.init.length di, .slice bn A.nodes.length dn]] w fun e w' => e = .returned (.int .i64 0) ∧ Below w.heap.size w w') := fun w hb => by
    have := heavy_any w ⟨ai, ae, al, as_, bi, bn, ci, ce, cl, cs, di, dn⟩ G sets A (h.below hb)
    rw [heavyN_0 hl] at this
    exact this
  have hb0 := Lib.hid B0.below
  replace B0 := Lib.hid B0
  have r0 := Lib.hid B0.out.rt
  have t0 : w2.cell? ⟨W.heap.size, 0, none⟩ = some (.slice ai G.init.length ci) := B0.out.rt.cell 0
  have t1 : w2.cell? ⟨W.heap.size, 1, none⟩ = some (.slice ae G.edges.length ce) := B0.out.rt.cell 1
  have t2 : w2.cell? ⟨W.heap.size, 2, none⟩ = some (.slice al G.labels.length cl) := B0.out.rt.cell 2
  have t3 : w2.cell? ⟨W.heap.size, 3, none⟩ = some (.slice as_ sets.length cs) := B0.out.rt.cell 3
  have t4 : w2.cell? ⟨W.heap.size, 4, none⟩ = some (.int .i64 A.sets) := B0.out.rt.cell 4
  have t5 : w2.cell? ⟨W.heap.size, 5, none⟩ = some (.slice bi A.init.length di) := B0.out.rt.cell 5
  have t6 : w2.cell? ⟨W.heap.size, 6, none⟩ = some (.slice bn A.nodes.length dn) := B0.out.rt.cell 6
  replace hw2 := Lib.hid hw2
  clear r0
  go_enter Try.func7, Try.ntmps7
  go_upto_region 1 with (fail)
  rw [← hw2.out]
  clear hw2
  go_wp2_with fail
  refine (HV.out _ hb0.out).mono ?_
  rintro e w3 ⟨rfl, hb3⟩
  clear t0 t1 t2 t3 t4 t5 t6
  have BT := B0.out.next hb3
  clear B0 HV hb0
  go_upto_region 3 with (fail)
  refine wp_region_ops (by kernel_rfl) w3 G sets A 11 [.fix (.pointer (some ⟨W.heap.size, 0, none⟩)), .fix (.agg #[.slice ai G.init.length ci, .slice ae G.edges.length ce, .slice al G.labels.length cl]), .fix (.pointer (some ⟨W.heap.size, 3, none⟩)), .fix (.slice as_ sets.length cs), .src, .fix (.pointer (some ⟨W.heap.size, 4, none⟩)), .fix (.agg #[.int .i64 A.sets, .slice bi A.init.length di, .slice bn A.nodes.length dn]), .new, .fix (.agg #[.int .i64 b1, .int .i64 b2]), .found (b1) (b2), .box] (by kernel_rfl) (by kernel_rfl) (by kernel_rfl) (Below.refl _ _) ?_ ?_
  · intro i hi
    match i, hi with
    | 0, _ =>
      intro o ho a w hR hF hD K hK
      simp only [List.getElem?_toArray, List.getElem?_cons_zero, Option.some.injEq] at ho
      subst ho
      have e2 : a.tmps.getD 2 undef = .pointer (some ⟨W.heap.size, 0, none⟩) := hF 2 (notDst_spec (by kernel_rfl))
      go_simp
      exact hK _ _ hR (Below.refl _ _) trivial rfl
    | 1, _ =>
      intro o ho a w hR hF hD K hK
      simp only [List.getElem?_toArray, List.getElem?_cons_zero, List.getElem?_cons_succ, Option.some.injEq] at ho
      subst ho
      have e10 : a.tmps.getD 10 undef = .pointer (some ⟨W.heap.size, 0, none⟩) := hD 0 (dep_spec (by kernel_rfl)) 10 rfl
      have c0 : w.cell? ⟨W.heap.size, 0, none⟩ = some (.slice ai G.init.length ci) := (BT.rt.below hR).cell 0
      have c1 : w.cell? ⟨W.heap.size, 1, none⟩ = some (.slice ae G.edges.length ce) := (BT.rt.below hR).cell 1
      have c2 : w.cell? ⟨W.heap.size, 2, none⟩ = some (.slice al G.labels.length cl) := (BT.rt.below hR).cell 2
      go_simp
      exact hK _ _ hR (Below.refl _ _) trivial rfl
    | 2, _ =>
      intro o ho a w hR hF hD K hK
      simp only [List.getElem?_toArray, List.getElem?_cons_zero, List.getElem?_cons_succ, Option.some.injEq] at ho
      subst ho
      have e2 : a.tmps.getD 2 undef = .pointer (some ⟨W.heap.size, 0, none⟩) := hF 2 (notDst_spec (by kernel_rfl))
      go_simp
      exact hK _ _ hR (Below.refl _ _) trivial rfl
    | 3, _ =>
      intro o ho a w hR hF hD K hK
      simp only [List.getElem?_toArray, List.getElem?_cons_zero, List.getElem?_cons_succ, Option.some.injEq] at ho
      subst ho
      have e12 : a.tmps.getD 12 undef = .pointer (some ⟨W.heap.size, 3, none⟩) := hD 2 (dep_spec (by kernel_rfl)) 12 rfl
      have c0 : w.cell? ⟨W.heap.size, 3, none⟩ = some (.slice as_ sets.length cs) := (BT.rt.below hR).cell 3
      go_simp
      exact hK _ _ hR (Below.refl _ _) trivial rfl
    | 4, _ =>
      intro o ho a w hR hF hD K hK
      simp only [List.getElem?_toArray, List.getElem?_cons_zero, List.getElem?_cons_succ, Option.some.injEq] at ho
      subst ho
      have e11 : a.tmps.getD 11 undef = .agg #[.slice ai G.init.length ci, .slice ae G.edges.length ce, .slice al G.labels.length cl] := hD 1 (dep_spec (by kernel_rfl)) 11 rfl
      have e13 : a.tmps.getD 13 undef = .slice as_ sets.length cs := hD 3 (dep_spec (by kernel_rfl)) 13 rfl
      go_simp
      refine (GRC.out w (btrans BT.below hR)).mono ?_
      rintro e w1 h1
      have hb := h1.1
      obtain ⟨v, rfl, hv⟩ := h1.v
      exact hK _ _ (btrans hR hb) hb trivial hv
    | 5, _ =>
      intro o ho a w hR hF hD K hK
      simp only [List.getElem?_toArray, List.getElem?_cons_zero, List.getElem?_cons_succ, Option.some.injEq] at ho
      subst ho
      have e2 : a.tmps.getD 2 undef = .pointer (some ⟨W.heap.size, 0, none⟩) := hF 2 (notDst_spec (by kernel_rfl))
      go_simp
      exact hK _ _ hR (Below.refl _ _) trivial rfl
    | 6, _ =>
      intro o ho a w hR hF hD K hK
      simp only [List.getElem?_toArray, List.getElem?_cons_zero, List.getElem?_cons_succ, Option.some.injEq] at ho
      subst ho
      have e15 : a.tmps.getD 15 undef = .pointer (some ⟨W.heap.size, 4, none⟩) := hD 5 (dep_spec (by kernel_rfl)) 15 rfl
      have c0 : w.cell? ⟨W.heap.size, 4, none⟩ = some (.int .i64 A.sets) := (BT.rt.below hR).cell 4
      have c1 : w.cell? ⟨W.heap.size, 5, none⟩ = some (.slice bi A.init.length di) := (BT.rt.below hR).cell 5
      have c2 : w.cell? ⟨W.heap.size, 6, none⟩ = some (.slice bn A.nodes.length dn) := (BT.rt.below hR).cell 6
      go_simp
      exact hK _ _ hR (Below.refl _ _) trivial rfl
    | 7, _ =>
      intro o ho a w hR hF hD K hK
      simp only [List.getElem?_toArray, List.getElem?_cons_zero, List.getElem?_cons_succ, Option.some.injEq] at ho
      subst ho
      have s14 : SrcV w G sets (a.tmps.getD 14 undef) := hD 4 (dep_spec (by kernel_rfl)) 14 rfl
      have e16 : a.tmps.getD 16 undef = .agg #[.int .i64 A.sets, .slice bi A.init.length di, .slice bn A.nodes.length dn] := hD 6 (dep_spec (by kernel_rfl)) 16 rfl
      obtain ⟨x14, hx14⟩ : ∃ x, x = a.tmps.getD 14 undef := ⟨_, rfl⟩
      rw [← hx14] at s14
      have e14 := hx14.symm
      clear hx14
      go_simp
      refine (NVC.out w (btrans BT.below hR) _ s14).mono ?_
      rintro e w1 h1
      have hb := h1.1
      obtain ⟨v, rfl, hv⟩ := h1.v
      exact hK _ _ (btrans hR hb) hb trivial hv
    | 8, _ =>
      intro o ho a w hR hF hD K hK
      simp only [List.getElem?_toArray, List.getElem?_cons_zero, List.getElem?_cons_succ, Option.some.injEq] at ho
      subst ho
      have e3 : a.tmps.getD 3 undef = .pointer (some ⟨W.heap.size + 1, 0, none⟩) := hF 3 (notDst_spec (by kernel_rfl))
      have c0 : w.cell? ⟨W.heap.size + 1, 0, none⟩ = some (.int .i64 b1) := (BT.rb.below hR).cell 0
      have c1 : w.cell? ⟨W.heap.size + 1, 1, none⟩ = some (.int .i64 b2) := (BT.rb.below hR).cell 1
      go_simp
      exact hK _ _ hR (Below.refl _ _) trivial rfl
    | 9, _ =>
      intro o ho a w hR hF hD K hK
      simp only [List.getElem?_toArray, List.getElem?_cons_zero, List.getElem?_cons_succ, Option.some.injEq] at ho
      subst ho
      have s17 : NewV w G sets A (a.tmps.getD 17 undef) := hD 7 (dep_spec (by kernel_rfl)) 17 rfl
      have e18 : a.tmps.getD 18 undef = .agg #[.int .i64 b1, .int .i64 b2] := hD 8 (dep_spec (by kernel_rfl)) 18 rfl
      obtain ⟨x17, hx17⟩ : ∃ x, x = a.tmps.getD 17 undef := ⟨_, rfl⟩
      rw [← hx17] at s17
      have e17 := hx17.symm
      clear hx17
      go_simp
      refine (search_v w G sets A x17 s17 lt b1 b2).mono ?_
      rintro e w1 ⟨v, rfl, hb, hf⟩
      exact hK _ _ (btrans hR hb) hb (fun b hb' => (hf.blk hb').1) (hf.weak hR.size)
    | 10, _ =>
      intro o ho a w hR hF hD K hK
      simp only [List.getElem?_toArray, List.getElem?_cons_zero, List.getElem?_cons_succ, Option.some.injEq] at ho
      subst ho
      go_simp
      exact hK _ _ (balloc hR _) (balloc (Below.refl _ _) _) rfl ⟨w.heap.size, rfl, hR.size, RowAt.new zfound.toArray rfl⟩
    | k + 11, hk => omega
  · rintro ⟨tm, df⟩ w hdf hsz hF hR hV hU
    obtain rfl : df = [] := hdf
    obtain ⟨q, rfl⟩ := frame94 tm hsz
    have k2 : q 2 = .pointer (some ⟨W.heap.size, 0, none⟩) := hF 2 (notDst_spec (by kernel_rfl))
    have k3 : q 3 = .pointer (some ⟨W.heap.size + 1, 0, none⟩) := hF 3 (notDst_spec (by kernel_rfl))
    obtain ⟨sa, sc, la, lc, k19, ps, pl⟩ := FoundNew.at (hV 9 19 (by decide) rfl)
    obtain ⟨g, k5, hg, rg⟩ := hV 10 5 (by decide) rfl
    have v5 := hU 9 10 19 5 (by decide) (by decide) (by decide) rfl rfl
    replace k19 : q 19 = _ := k19
    replace k5 : q 5 = _ := k5
    replace v5 : ∀ b, blkOf (q 19) b → q 5 ≠ _ := v5
    rw [k19, k5] at v5
    replace v5 : ∀ b, blkOf (.agg (fcells (resP G sets A b1 b2) sa sc la lc).toArray) b → b ≠ g := fun b hb e => v5 b hb (by rw [e])
    rw [k2, k3, k5, k19]
    clear k2 k3 k5 k19 hF hV hU hsz
    replace rg : RowAt w g TFd [.int .i64 0, .int .i64 0, .int .i64 0, .int .i64 0, .int .i64 0, .slice none 0 0, .slice none 0 0] := rg
    generalize resP G sets A b1 b2 = f at U ps pl v5 ⊢
    have FB := Lib.hid (fun w' hw => found_box (w' := w') (sc := sc) (lc := lc) rg (btrans BT.below hR) (Nat.le_trans BT.below.size hg) ps pl v5 hw)
    rw [show (Value.agg (fcells f sa sc la lc).toArray) = .agg #[.int .i64 (f.kind : Int), .int .i64 (f.why : Int), .int .i64 (f.nodes : Int), .int .i64 (f.edges : Int), .int .i64 (f.depth : Int), .slice sa f.stem.length sc, .slice la f.loop.length lc] from rfl]
    change wpAny _ _ _ _ 1 _ _ _
    have f0 := rg.free 0
    have c0 := rg.cell 0
    have f1 := rg.free 1
    have c1 := rg.cell 1
    have f2 := rg.free 2
    have c2 := rg.cell 2
    have f3 := rg.free 3
    have c3 := rg.cell 3
    have f4 := rg.free 4
    have c4 := rg.cell 4
    have f5 := rg.free 5
    have c5 := rg.cell 5
    have f6 := rg.free 6
    have c6 := rg.cell 6
    simp only [List.getElem?_cons_zero, List.getElem?_cons_succ] at c0 c1 c2 c3 c4 c5 c6
    have hrb := Lib.hid (BT.next hR).rb
    have hng : W.heap.size + 1 ≠ g := by have := BT.rb.lt; omega
    refine wpAny_ready (rs := [11]) (by kernel_rfl) (by simp) ?_
    refine AllReady.cons (i := 11) rfl (fun K hK => ?_) AllReady.nil
    go_simp
    refine hK _ _ ?_
    refine ⟨by kernel_rfl, ?_⟩
    clear hK K f0 c0 f1 c1 f2 c2 f3 c3 f4 c4 f5 c5 f6 c6 ps pl v5
    obtain ⟨rf, hbw, _, _, KW⟩ := FB.out _ rfl
    have rb := hrb.out.keeps KW hng
    generalize (((((((w.setCell _ _).setCell _ _).setCell _ _).setCell _ _).setCell _ _).setCell _ _).setCell _ _) = wz at rf hbw rb ⊢
    clear KW FB rg hrb hng hR BT GRC NVC lt hb3
    obtain ⟨fk, fy, fn, fe, fd, fs, fl⟩ := f
    obtain ⟨u1, u2, u3, u4, u5, u6, u7⟩ := U
    dsimp only at u1 u2 u3 u4 u5 u6 u7 ⊢
    have b0 : wz.cell? ⟨W.heap.size + 1, 0, none⟩ = some (.int .i64 b1) := rb.cell 0
    have b1' : wz.cell? ⟨W.heap.size + 1, 1, none⟩ = some (.int .i64 b2) := rb.cell 1
    have c1 : wz.cell? ⟨g, 1, none⟩ = some (.int .i64 (fy : Int)) := rf.cell 1
    have c2 : wz.cell? ⟨g, 2, none⟩ = some (.int .i64 (fn : Int)) := rf.cell 2
    have c4 : wz.cell? ⟨g, 4, none⟩ = some (.int .i64 (fd : Int)) := rf.cell 4
    have WT := Lib.hid (works_true wz)
    rcases u1 with rfl | rfl | rfl
    · have c0 : wz.cell? ⟨g, 0, none⟩ = some (.int .i64 1) := rf.cell 0
      have hy : fy = 0 := u7 (by decide)
      subst hy
      clear rf rb u6 u7
      go_wp2_with fail
      all_goals (refine WT.out.mono ?_; rintro e w9 ⟨rfl, hb9⟩; go_wp2; go_ret; exact ⟨rfl, btrans hbw hb9⟩)
    · have c0 : wz.cell? ⟨g, 0, none⟩ = some (.int .i64 2) := rf.cell 0
      have hy : fy = 0 := u7 (by decide)
      subst hy
      clear rf rb u6 u7
      go_wp2_with fail
      all_goals (refine WT.out.mono ?_; rintro e w9 ⟨rfl, hb9⟩; go_wp2; go_ret; exact ⟨rfl, btrans hbw hb9⟩)
    · have c0 : wz.cell? ⟨g, 0, none⟩ = some (.int .i64 3) := rf.cell 0
      clear rf rb u7
      rcases u6 rfl with ⟨rfl, u8⟩ | ⟨rfl, u8⟩
      · clear u6
        by_cases hb0 : b1 ≤ 0
        · obtain rfl : fn = 0 := by omega
          clear u8
          go_wp2_with fail
          all_goals (refine WT.out.mono ?_; rintro e w9 ⟨rfl, hb9⟩; go_wp2; go_ret; exact ⟨rfl, btrans hbw hb9⟩)
        · obtain rfl : b1 = (fn : Int) := by omega
          have hpos : 0 < fn := by omega
          clear u8 hb0
          go_wp2_with fail
          all_goals (refine WT.out.mono ?_; rintro e w9 ⟨rfl, hb9⟩; go_wp2; go_ret; exact ⟨rfl, btrans hbw hb9⟩)
      · clear u6
        by_cases hb0 : b2 ≤ 0
        · obtain rfl : fd = 0 := by omega
          clear u8
          go_wp2_with fail
          all_goals (refine WT.out.mono ?_; rintro e w9 ⟨rfl, hb9⟩; go_wp2; go_ret; exact ⟨rfl, btrans hbw hb9⟩)
        · obtain rfl : b2 = (fd : Int) := by omega
          have hpos : 0 < fd := by omega
          clear u8 hb0
          go_wp2_with fail
          all_goals (refine WT.out.mono ?_; rintro e w9 ⟨rfl, hb9⟩; go_wp2; go_ret; exact ⟨rfl, btrans hbw hb9⟩)
theorem bud_cells {W : World} {c : Array Value} {b : Int × Int} (s : rBud W c.toList b) : c = #[.int .i64 b.1, .int .i64 b.2] := by
  cases c; simpa [rBud] using s
theorem ndfsUsed_walk (W : World) (c0 : Array Value) (t : TK) (s0 : rTask W c0.toList t) (c1 : Array Value) (b : Int × Int) (s1 : rBud W c1.toList b) :
    Calls Try.prog 7 #[.agg c0, .agg c1] W fun e w' => e = .returned (.bool true) ∧ Below W.heap.size W w' := by
  obtain ⟨X, rfl, h⟩ := LawIn.task s0
  rw [bud_cells s1]
  cases hl : lightK t.G t.sets t.A with
  | true => exact used_light W X t.G t.sets t.A b.1 b.2 h hl
  | false => exact used_heavy W X t.G t.sets t.A b.1 b.2 h hl
end Go.Proofs.Ytfcpfcgcfaacnaa
