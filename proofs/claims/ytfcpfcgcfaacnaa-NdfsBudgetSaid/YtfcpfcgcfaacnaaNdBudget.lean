/- The walk of 'NdfsBudget'. No conditions but the form's reach. -/
import Derived.Test.YtfcpfcgcfaacnaaNdUsed
import Derived.Test.YtfcpfcgcfaacnaaNdEqPp
import Derived.BigRegion
namespace Go.Proofs.Ytfcpfcgcfaacnaa
open Go.RowKit

theorem frame120 (arr : Array Value) (h : arr.size = 120) : ∃ q : Nat → Value, arr = #[q 0, q 1, q 2, q 3, q 4, q 5, q 6, q 7, q 8, q 9, q 10, q 11, q 12, q 13, q 14, q 15, q 16, q 17, q 18, q 19, q 20, q 21, q 22, q 23, q 24, q 25, q 26, q 27, q 28, q 29, q 30, q 31, q 32, q 33, q 34, q 35, q 36, q 37, q 38, q 39, q 40, q 41, q 42, q 43, q 44, q 45, q 46, q 47, q 48, q 49, q 50, q 51, q 52, q 53, q 54, q 55, q 56, q 57, q 58, q 59, q 60, q 61, q 62, q 63, q 64, q 65, q 66, q 67, q 68, q 69, q 70, q 71, q 72, q 73, q 74, q 75, q 76, q 77, q 78, q 79, q 80, q 81, q 82, q 83, q 84, q 85, q 86, q 87, q 88, q 89, q 90, q 91, q 92, q 93, q 94, q 95, q 96, q 97, q 98, q 99, q 100, q 101, q 102, q 103, q 104, q 105, q 106, q 107, q 108, q 109, q 110, q 111, q 112, q 113, q 114, q 115, q 116, q 117, q 118, q 119] := by
  refine ⟨fun i => arr.toList.getD i undef, ?_⟩
  have h1 := list_getN (l := arr.toList) (n := 120) (by simpa using h)
  apply Array.ext'
  exact h1
abbrev TU2 : Nat := 80
/-- where the law begins: the task, the budget and the two numbers in boxes -/
structure BoxM (W : World) (X : RX) (G : GR) (sets : List (List Bool)) (A : AU) (b1 b2 : Int) (m1 m2 : Nat) (w : World) : Prop where
  rt : RowAt w W.heap.size TTk (tcells X G sets A)
  rb : RowAt w (W.heap.size + 1) TBu [.int .i64 b1, .int .i64 b2]
  rm : RowAt w (W.heap.size + 2) TU2 [.int .u16 (m1 : Int), .int .u16 (m2 : Int)]
  below : Below W.heap.size W w
theorem BoxM.start (W : World) (X : RX) (G : GR) (sets : List (List Bool)) (A : AU) (b1 b2 : Int) (m1 m2 : Nat) : BoxM W X G sets A b1 b2 m1 m2 (((W.alloc (.cells (tcells X G sets A).toArray TTk)).alloc (.cells #[.int .i64 b1, .int .i64 b2] TBu)).alloc (.cells #[.int .u16 (m1 : Int), .int .u16 (m2 : Int)] TU2)) :=
  ⟨((RowAt.new (tcells X G sets A).toArray rfl).alloc _).alloc _, (RowAt.new #[.int .i64 b1, .int .i64 b2] (by simp)).alloc _, RowAt.new #[.int .u16 (m1 : Int), .int .u16 (m2 : Int)] (by simp), balloc (balloc (balloc (Below.refl _ _) _) _) _⟩
theorem BoxM.next {W : World} {X : RX} {G : GR} {sets : List (List Bool)} {A : AU} {b1 b2 : Int} {m1 m2 : Nat} {w w' : World} (h : BoxM W X G sets A b1 b2 m1 m2 w) (hb : Below w.heap.size w w') : BoxM W X G sets A b1 b2 m1 m2 w' := ⟨h.rt.below hb, h.rb.below hb, h.rm.below hb, btrans h.below hb⟩
set_option maxRecDepth 20000 in
set_option maxHeartbeats 8000000 in
theorem budget_heavy (W : World) (X : RX) (G : GR) (sets : List (List Bool)) (A : AU) (b1 b2 : Int) (m1 m2 : Nat) (h : LawIn W X G sets A) (hm1 : m1 ≤ 65535) (hm2 : m2 ≤ 65535) (hl : lightK G sets A = false) :
    Calls Try.prog 6 #[.agg (tcells X G sets A).toArray, .agg #[.int .i64 b1, .int .i64 b2], .agg #[.int .u16 (m1 : Int), .int .u16 (m2 : Int)]] W fun e w' => e = .returned (.bool true) ∧ Below W.heap.size W w' := by
  obtain ⟨ai, ae, al, as_, bi, bn, ci, ce, cl, cs, di, dn⟩ := X
  dsimp only [tcells]
  have B0 := BoxM.start W ⟨ai, ae, al, as_, bi, bn, ci, ce, cl, cs, di, dn⟩ G sets A b1 b2 m1 m2
  obtain ⟨w2, hw2⟩ : ∃ w2, w2 = ((W.alloc (.cells #[.slice ai G.init.length ci, .slice ae G.edges.length ce, .slice al G.labels.length cl, .slice as_ sets.length cs, .int .i64 A.sets, .slice bi A.init.length di, .slice bn A.nodes.length dn] TTk)).alloc (.cells #[.int .i64 b1, .int .i64 b2] TBu)).alloc (.cells #[.int .u16 (m1 : Int), .int .u16 (m2 : Int)] TU2) := ⟨_, rfl⟩
  replace B0 : BoxM W ⟨ai, ae, al, as_, bi, bn, ci, ce, cl, cs, di, dn⟩ G sets A b1 b2 m1 m2 w2 := by rw [hw2]; exact B0
  have HV : Hid (∀ w, Below W.heap.size W w → Calls Try.prog 9 #[.agg #[.slice ai G.init.length ci, .slice ae G.edges.length ce, .slice al G.labels.length cl, .slice as_ sets.length cs, .int .i64 A.sets, .slice bi A.init.length di, .slice bn A.nodes.length dn]] w fun e w' => e = .returned (.int .i64 1) ∧ Below w.heap.size w w') := fun w hb => by
    have := heavy_any w ⟨ai, ae, al, as_, bi, bn, ci, ce, cl, cs, di, dn⟩ G sets A (h.below hb)
    rw [heavyN_1 hl] at this
    exact this
  have hb0 := Lib.hid B0.below
  replace B0 := Lib.hid B0
  have t0 : w2.cell? ⟨W.heap.size, 0, none⟩ = some (.slice ai G.init.length ci) := B0.out.rt.cell 0
  have t1 : w2.cell? ⟨W.heap.size, 1, none⟩ = some (.slice ae G.edges.length ce) := B0.out.rt.cell 1
  have t2 : w2.cell? ⟨W.heap.size, 2, none⟩ = some (.slice al G.labels.length cl) := B0.out.rt.cell 2
  have t3 : w2.cell? ⟨W.heap.size, 3, none⟩ = some (.slice as_ sets.length cs) := B0.out.rt.cell 3
  have t4 : w2.cell? ⟨W.heap.size, 4, none⟩ = some (.int .i64 A.sets) := B0.out.rt.cell 4
  have t5 : w2.cell? ⟨W.heap.size, 5, none⟩ = some (.slice bi A.init.length di) := B0.out.rt.cell 5
  have t6 : w2.cell? ⟨W.heap.size, 6, none⟩ = some (.slice bn A.nodes.length dn) := B0.out.rt.cell 6
  replace hw2 := Lib.hid hw2
  go_enter Try.func6, Try.ntmps6
  go_upto_region 1 with (fail)
  rw [← hw2.out]
  clear hw2
  go_wp2_with fail
  refine (HV.out _ hb0.out).mono ?_
  rintro e w3 ⟨rfl, hb3⟩
  clear t0 t1 t2 t3 t4 t5 t6
  go_wp2_with fail
  refine (works_true _).mono ?_
  rintro e w4 ⟨rfl, hb4⟩
  go_wp2
  go_ret
  exact ⟨rfl, btrans hb0.out (btrans hb3 hb4)⟩
set_option maxRecDepth 20000 in
set_option maxHeartbeats 8000000 in
theorem budget_light (W : World) (X : RX) (G : GR) (sets : List (List Bool)) (A : AU) (b1 b2 : Int) (m1 m2 : Nat) (h : LawIn W X G sets A) (hm1 : m1 ≤ 65535) (hm2 : m2 ≤ 65535) (hl : lightK G sets A = true) :
    Calls Try.prog 6 #[.agg (tcells X G sets A).toArray, .agg #[.int .i64 b1, .int .i64 b2], .agg #[.int .u16 (m1 : Int), .int .u16 (m2 : Int)]] W fun e w' => e = .returned (.bool true) ∧ Below W.heap.size W w' := by
  obtain ⟨ai, ae, al, as_, bi, bn, ci, ce, cl, cs, di, dn⟩ := X
  dsimp only [tcells]
  have lt := lightK_lt hl
  have GRC : Hid (∀ w, Below W.heap.size W w → Calls Try.prog 13 #[.agg #[.slice ai G.init.length ci, .slice ae G.edges.length ce, .slice al G.labels.length cl], .slice as_ sets.length cs] w (SrcMade G sets w)) := fun w hb => graph_any w ai ae al as_ ci ce cl cs G sets (h.g.below hb) h.ok (h.s.below hb)
  have NVC : Hid (∀ w, Below W.heap.size W w → ∀ v, SrcV w G sets v → Calls Try.prog 12 #[v, .agg #[.int .i64 A.sets, .slice bi A.init.length di, .slice bn A.nodes.length dn]] w (NewMade G sets A w)) := fun w hb v hv => new_v w bi bn di dn G sets A v hv h.ok (h.au.below hb) h.aok
  have B0 := BoxM.start W ⟨ai, ae, al, as_, bi, bn, ci, ce, cl, cs, di, dn⟩ G sets A b1 b2 m1 m2
  obtain ⟨w2, hw2⟩ : ∃ w2, w2 = ((W.alloc (.cells #[.slice ai G.init.length ci, .slice ae G.edges.length ce, .slice al G.labels.length cl, .slice as_ sets.length cs, .int .i64 A.sets, .slice bi A.init.length di, .slice bn A.nodes.length dn] TTk)).alloc (.cells #[.int .i64 b1, .int .i64 b2] TBu)).alloc (.cells #[.int .u16 (m1 : Int), .int .u16 (m2 : Int)] TU2) := ⟨_, rfl⟩
  replace B0 : BoxM W ⟨ai, ae, al, as_, bi, bn, ci, ce, cl, cs, di, dn⟩ G sets A b1 b2 m1 m2 w2 := by rw [hw2]; exact B0
  have HV : Hid (∀ w, Below W.heap.size W w → Calls Try.prog 9 #[.agg #[.slice ai G.init.length ci, .slice ae G.edges.length ce, .slice al G.labels.length cl, .slice as_ sets.length cs, .int .i64 A.sets, .slice bi A.init.length di, .slice bn A.nodes.length dn]] w fun e w' => e = .returned (.int .i64 0) ∧ Below w.heap.size w w') := fun w hb => by
    have := heavy_any w ⟨ai, ae, al, as_, bi, bn, ci, ce, cl, cs, di, dn⟩ G sets A (h.below hb)
    rw [heavyN_0 hl] at this
    exact this
  have hb0 := Lib.hid B0.below
  replace B0 := Lib.hid B0
  have t0 : w2.cell? ⟨W.heap.size, 0, none⟩ = some (.slice ai G.init.length ci) := B0.out.rt.cell 0
  have t1 : w2.cell? ⟨W.heap.size, 1, none⟩ = some (.slice ae G.edges.length ce) := B0.out.rt.cell 1
  have t2 : w2.cell? ⟨W.heap.size, 2, none⟩ = some (.slice al G.labels.length cl) := B0.out.rt.cell 2
  have t3 : w2.cell? ⟨W.heap.size, 3, none⟩ = some (.slice as_ sets.length cs) := B0.out.rt.cell 3
  have t4 : w2.cell? ⟨W.heap.size, 4, none⟩ = some (.int .i64 A.sets) := B0.out.rt.cell 4
  have t5 : w2.cell? ⟨W.heap.size, 5, none⟩ = some (.slice bi A.init.length di) := B0.out.rt.cell 5
  have t6 : w2.cell? ⟨W.heap.size, 6, none⟩ = some (.slice bn A.nodes.length dn) := B0.out.rt.cell 6
  replace hw2 := Lib.hid hw2
  go_enter Try.func6, Try.ntmps6
  go_upto_region 1 with (fail)
  rw [← hw2.out]
  clear hw2
  go_wp2_with fail
  refine (HV.out _ hb0.out).mono ?_
  rintro e w3 ⟨rfl, hb3⟩
  clear t0 t1 t2 t3 t4 t5 t6
  have BT := B0.out.next hb3
  clear B0 HV hb0
  go_upto_region 3 with (fail)
  refine wp_region_ops (by kernel_rfl) w3 G sets A 9 [.fix (.pointer (some ⟨W.heap.size, 0, none⟩)), .fix (.agg #[.slice ai G.init.length ci, .slice ae G.edges.length ce, .slice al G.labels.length cl]), .fix (.pointer (some ⟨W.heap.size, 3, none⟩)), .fix (.slice as_ sets.length cs), .src, .fix (.pointer (some ⟨W.heap.size, 4, none⟩)), .fix (.agg #[.int .i64 A.sets, .slice bi A.init.length di, .slice bn A.nodes.length dn]), .new, .new] (by kernel_rfl) (by kernel_rfl) (by kernel_rfl) (Below.refl _ _) ?_ ?_
  · intro i hi
    match i, hi with
    | 0, _ =>
      intro o ho a w hR hF hD K hK
      simp only [List.getElem?_toArray, List.getElem?_cons_zero, Option.some.injEq] at ho
      subst ho
      have e3 : a.tmps.getD 3 undef = .pointer (some ⟨W.heap.size, 0, none⟩) := hF 3 (notDst_spec (by kernel_rfl))
      go_simp
      exact hK _ _ hR (Below.refl _ _) trivial rfl
    | 1, _ =>
      intro o ho a w hR hF hD K hK
      simp only [List.getElem?_toArray, List.getElem?_cons_zero, List.getElem?_cons_succ, Option.some.injEq] at ho
      subst ho
      have e15 : a.tmps.getD 15 undef = .pointer (some ⟨W.heap.size, 0, none⟩) := hD 0 (dep_spec (by kernel_rfl)) 15 rfl
      have c0 : w.cell? ⟨W.heap.size, 0, none⟩ = some (.slice ai G.init.length ci) := (BT.rt.below hR).cell 0
      have c1 : w.cell? ⟨W.heap.size, 1, none⟩ = some (.slice ae G.edges.length ce) := (BT.rt.below hR).cell 1
      have c2 : w.cell? ⟨W.heap.size, 2, none⟩ = some (.slice al G.labels.length cl) := (BT.rt.below hR).cell 2
      go_simp
      exact hK _ _ hR (Below.refl _ _) trivial rfl
    | 2, _ =>
      intro o ho a w hR hF hD K hK
      simp only [List.getElem?_toArray, List.getElem?_cons_zero, List.getElem?_cons_succ, Option.some.injEq] at ho
      subst ho
      have e3 : a.tmps.getD 3 undef = .pointer (some ⟨W.heap.size, 0, none⟩) := hF 3 (notDst_spec (by kernel_rfl))
      go_simp
      exact hK _ _ hR (Below.refl _ _) trivial rfl
    | 3, _ =>
      intro o ho a w hR hF hD K hK
      simp only [List.getElem?_toArray, List.getElem?_cons_zero, List.getElem?_cons_succ, Option.some.injEq] at ho
      subst ho
      have e17 : a.tmps.getD 17 undef = .pointer (some ⟨W.heap.size, 3, none⟩) := hD 2 (dep_spec (by kernel_rfl)) 17 rfl
      have c0 : w.cell? ⟨W.heap.size, 3, none⟩ = some (.slice as_ sets.length cs) := (BT.rt.below hR).cell 3
      go_simp
      exact hK _ _ hR (Below.refl _ _) trivial rfl
    | 4, _ =>
      intro o ho a w hR hF hD K hK
      simp only [List.getElem?_toArray, List.getElem?_cons_zero, List.getElem?_cons_succ, Option.some.injEq] at ho
      subst ho
      have e16 : a.tmps.getD 16 undef = .agg #[.slice ai G.init.length ci, .slice ae G.edges.length ce, .slice al G.labels.length cl] := hD 1 (dep_spec (by kernel_rfl)) 16 rfl
      have e18 : a.tmps.getD 18 undef = .slice as_ sets.length cs := hD 3 (dep_spec (by kernel_rfl)) 18 rfl
      go_simp
      refine (GRC.out w (btrans BT.below hR)).mono ?_
      rintro e w1 h1
      have hb := h1.1
      obtain ⟨v, rfl, hv⟩ := h1.v
      exact hK _ _ (btrans hR hb) hb trivial hv
    | 5, _ =>
      intro o ho a w hR hF hD K hK
      simp only [List.getElem?_toArray, List.getElem?_cons_zero, List.getElem?_cons_succ, Option.some.injEq] at ho
      subst ho
      have e3 : a.tmps.getD 3 undef = .pointer (some ⟨W.heap.size, 0, none⟩) := hF 3 (notDst_spec (by kernel_rfl))
      go_simp
      exact hK _ _ hR (Below.refl _ _) trivial rfl
    | 6, _ =>
      intro o ho a w hR hF hD K hK
      simp only [List.getElem?_toArray, List.getElem?_cons_zero, List.getElem?_cons_succ, Option.some.injEq] at ho
      subst ho
      have e20 : a.tmps.getD 20 undef = .pointer (some ⟨W.heap.size, 4, none⟩) := hD 5 (dep_spec (by kernel_rfl)) 20 rfl
      have c0 : w.cell? ⟨W.heap.size, 4, none⟩ = some (.int .i64 A.sets) := (BT.rt.below hR).cell 4
      have c1 : w.cell? ⟨W.heap.size, 5, none⟩ = some (.slice bi A.init.length di) := (BT.rt.below hR).cell 5
      have c2 : w.cell? ⟨W.heap.size, 6, none⟩ = some (.slice bn A.nodes.length dn) := (BT.rt.below hR).cell 6
      go_simp
      exact hK _ _ hR (Below.refl _ _) trivial rfl
    | 7, _ =>
      intro o ho a w hR hF hD K hK
      simp only [List.getElem?_toArray, List.getElem?_cons_zero, List.getElem?_cons_succ, Option.some.injEq] at ho
      subst ho
      have s19 : SrcV w G sets (a.tmps.getD 19 undef) := hD 4 (dep_spec (by kernel_rfl)) 19 rfl
      have e21 : a.tmps.getD 21 undef = .agg #[.int .i64 A.sets, .slice bi A.init.length di, .slice bn A.nodes.length dn] := hD 6 (dep_spec (by kernel_rfl)) 21 rfl
      obtain ⟨x19, hx19⟩ : ∃ x, x = a.tmps.getD 19 undef := ⟨_, rfl⟩
      rw [← hx19] at s19
      have e19 := hx19.symm
      clear hx19
      go_simp
      refine (NVC.out w (btrans BT.below hR) _ s19).mono ?_
      rintro e w1 h1
      have hb := h1.1
      obtain ⟨v, rfl, hv⟩ := h1.v
      exact hK _ _ (btrans hR hb) hb trivial hv
    | 8, _ =>
      intro o ho a w hR hF hD K hK
      simp only [List.getElem?_toArray, List.getElem?_cons_zero, List.getElem?_cons_succ, Option.some.injEq] at ho
      subst ho
      have s22 : NewV w G sets A (a.tmps.getD 22 undef) := hD 7 (dep_spec (by kernel_rfl)) 22 rfl
      obtain ⟨x22, hx22⟩ : ∃ x, x = a.tmps.getD 22 undef := ⟨_, rfl⟩
      rw [← hx22] at s22
      have e22 := hx22.symm
      clear hx22
      go_simp
      exact hK _ _ hR (Below.refl _ _) trivial s22
    | k + 9, hk => omega
  · rintro ⟨tm, df⟩ w hdf hsz hF hR hV hU
    obtain rfl : df = [] := hdf
    obtain ⟨q, rfl⟩ := frame120 tm hsz
    have k3 : q 3 = .pointer (some ⟨W.heap.size, 0, none⟩) := hF 3 (notDst_spec (by kernel_rfl))
    have k4 : q 4 = .pointer (some ⟨W.heap.size + 1, 0, none⟩) := hF 4 (notDst_spec (by kernel_rfl))
    have k5 : q 5 = .pointer (some ⟨W.heap.size + 2, 0, none⟩) := hF 5 (notDst_spec (by kernel_rfl))
    have k7 : NewV w G sets A (q 7) := hV 8 7 (by decide) rfl
    obtain ⟨x, hx⟩ : ∃ x, x = q 7 := ⟨_, rfl⟩
    rw [← hx] at k7
    rw [k3, k4, k5, ← hx]
    clear k3 k4 k5 hF hV hU hsz hx GRC NVC
    change wpAny _ _ _ _ 0 _ _ _
    refine ⟨by kernel_rfl, ?_⟩
    have BW := Lib.hid (BT.next hR)
    have SE := Lib.hid (fun v hv c1 c2 => search_v v G sets A x (k7.below (w' := v) hv) lt c1 c2)
    have R1 := Lib.hid (res_same lt b1 b2)
    have R2 := Lib.hid (res_more lt b1 b2 m1 m2)
    have U := used_ok lt b1 b2
    obtain ⟨f, hf⟩ : ∃ f, f = resP G sets A b1 b2 := ⟨_, rfl⟩
    rw [← hf] at R1 R2 U
    replace hf := Lib.hid hf
    have b0 : w.cell? ⟨W.heap.size + 1, 0, none⟩ = some (.int .i64 b1) := BW.out.rb.cell 0
    have b1' : w.cell? ⟨W.heap.size + 1, 1, none⟩ = some (.int .i64 b2) := BW.out.rb.cell 1
    have lth := lt
    clear BT hR k7 hb3 lt h hl
    go_wp2_with fail
    refine (SE.out w (Below.refl _ _) b1 b2).mono ?_
    rintro e w4 ⟨v, rfl, hb4, hv⟩
    rw [← hf.out] at hv
    obtain ⟨sa, sc, la, lc, rfl, ⟨ps, _⟩, pl, _⟩ := hv
    rw [show (Value.agg (fcells f sa sc la lc).toArray) = .agg #[.int .i64 (f.kind : Int), .int .i64 (f.why : Int), .int .i64 (f.nodes : Int), .int .i64 (f.edges : Int), .int .i64 (f.depth : Int), .slice sa f.stem.length sc, .slice la f.loop.length lc] from rfl]
    clear b0 b1'
    have BW4 := Lib.hid (BW.out.next hb4)
    replace ps := Lib.hid ps
    replace pl := Lib.hid pl
    obtain ⟨fk, fy, fn, fe, fd, fs, fl⟩ := f
    obtain ⟨u1, u2, u3, u4, u5, u6, u7⟩ := U
    dsimp only at u1 u4 u5 ps pl R1 R2 hf ⊢
    have hfs : Hid (fs.length ≤ 1000000 ∧ fl.length ≤ 1000000) := len_ok lth b1 b2 hf.out
    obtain ⟨w5, hw5⟩ : ∃ w5, w5 = w4.alloc (.cells #[.int .i64 (fk : Int), .int .i64 (fy : Int), .int .i64 (fn : Int), .int .i64 (fe : Int), .int .i64 (fd : Int), .slice sa fs.length sc, .slice la fl.length lc] TFd) := ⟨_, rfl⟩
    obtain ⟨g1, hg1⟩ : ∃ g1, g1 = w4.heap.size := ⟨_, rfl⟩
    have r1 : RowAt w5 g1 TFd [.int .i64 (fk : Int), .int .i64 (fy : Int), .int .i64 (fn : Int), .int .i64 (fe : Int), .int .i64 (fd : Int), .slice sa fs.length sc, .slice la fl.length lc] := by rw [hw5]; exact RowAt.new #[.int .i64 (fk : Int), .int .i64 (fy : Int), .int .i64 (fn : Int), .int .i64 (fe : Int), .int .i64 (fd : Int), .slice sa fs.length sc, .slice la fl.length lc] hg1
    have hb5 : Below w4.heap.size w4 w5 := by rw [hw5]; exact balloc (Below.refl _ _) _
    replace r1 := Lib.hid r1
    have hk5 := Lib.hid (btrans hb4 hb5)
    have s5 := Lib.hid (SE.out w5 hk5.out (fn : Int) (fd : Int))
    replace hw5 := Lib.hid hw5
    replace hg1 := Lib.hid hg1
    clear hb4 u2 u3 u6 u7 hf
    go_wp2_with fail
    rw [← hw5.out, ← hg1.out]
    clear hw5
    refine s5.out.mono ?_
    rintro e w6 ⟨v, rfl, hb6, hv⟩
    rw [R1.out] at hv
    obtain ⟨sa2, sc2, la2, lc2, rfl, ⟨ps2, _⟩, pl2, _⟩ := hv
    rw [show (Value.agg (fcells ⟨fk, fy, fn, fe, fd, fs, fl⟩ sa2 sc2 la2 lc2).toArray) = .agg #[.int .i64 (fk : Int), .int .i64 (fy : Int), .int .i64 (fn : Int), .int .i64 (fe : Int), .int .i64 (fd : Int), .slice sa2 fs.length sc2, .slice la2 fl.length lc2] from rfl]
    dsimp only at ps2 pl2
    obtain ⟨w7, hw7⟩ : ∃ w7, w7 = w6.alloc (.cells #[.int .i64 (fk : Int), .int .i64 (fy : Int), .int .i64 (fn : Int), .int .i64 (fe : Int), .int .i64 (fd : Int), .slice sa2 fs.length sc2, .slice la2 fl.length lc2] TFd) := ⟨_, rfl⟩
    obtain ⟨g2, hg2⟩ : ∃ g2, g2 = w6.heap.size := ⟨_, rfl⟩
    have r2 : RowAt w7 g2 TFd [.int .i64 (fk : Int), .int .i64 (fy : Int), .int .i64 (fn : Int), .int .i64 (fe : Int), .int .i64 (fd : Int), .slice sa2 fs.length sc2, .slice la2 fl.length lc2] := by rw [hw7]; exact RowAt.new #[.int .i64 (fk : Int), .int .i64 (fy : Int), .int .i64 (fn : Int), .int .i64 (fe : Int), .int .i64 (fd : Int), .slice sa2 fs.length sc2, .slice la2 fl.length lc2] hg2
    have hb7 : Below w6.heap.size w6 w7 := by rw [hw7]; exact balloc (Below.refl _ _) _
    have r1' : RowAt w7 g1 TFd [.int .i64 (fk : Int), .int .i64 (fy : Int), .int .i64 (fn : Int), .int .i64 (fe : Int), .int .i64 (fd : Int), .slice sa fs.length sc, .slice la fl.length lc] := r1.out.below (btrans hb6 hb7)
    have hk7 := Lib.hid (btrans hk5.out (btrans hb6 hb7))
    have E1 := Lib.hid (fun v (hv : Below w7.heap.size w7 v) => eq_pps v sa2 sa sc2 sc fs ((ps2.below hb7).below hv) ((ps.out.below (btrans hb5 (btrans hb6 hb7))).below hv) hfs.out.1)
    have E2 := Lib.hid (fun v (hv : Below w7.heap.size w7 v) => eq_pps v la2 la lc2 lc fl ((pl2.below hb7).below hv) ((pl.out.below (btrans hb5 (btrans hb6 hb7))).below hv) hfs.out.2)
    have CA : Hid (∀ v, Below w7.heap.size w7 v → v.cell? ⟨g1, 0, none⟩ = some (.int .i64 (fk : Int)) ∧ v.cell? ⟨g1, 1, none⟩ = some (.int .i64 (fy : Int)) ∧ v.cell? ⟨g1, 2, none⟩ = some (.int .i64 (fn : Int)) ∧ v.cell? ⟨g1, 3, none⟩ = some (.int .i64 (fe : Int)) ∧ v.cell? ⟨g1, 4, none⟩ = some (.int .i64 (fd : Int)) ∧ v.cell? ⟨g1, 5, none⟩ = some (.slice sa fs.length sc) ∧ v.cell? ⟨g1, 6, none⟩ = some (.slice la fl.length lc)) := fun v hv => ⟨(r1'.below hv).cell 0, (r1'.below hv).cell 1, (r1'.below hv).cell 2, (r1'.below hv).cell 3, (r1'.below hv).cell 4, (r1'.below hv).cell 5, (r1'.below hv).cell 6⟩
    have CB : Hid (∀ v, Below w7.heap.size w7 v → v.cell? ⟨g2, 0, none⟩ = some (.int .i64 (fk : Int)) ∧ v.cell? ⟨g2, 1, none⟩ = some (.int .i64 (fy : Int)) ∧ v.cell? ⟨g2, 2, none⟩ = some (.int .i64 (fn : Int)) ∧ v.cell? ⟨g2, 3, none⟩ = some (.int .i64 (fe : Int)) ∧ v.cell? ⟨g2, 4, none⟩ = some (.int .i64 (fd : Int)) ∧ v.cell? ⟨g2, 5, none⟩ = some (.slice sa2 fs.length sc2) ∧ v.cell? ⟨g2, 6, none⟩ = some (.slice la2 fl.length lc2)) := fun v hv => ⟨(r2.below hv).cell 0, (r2.below hv).cell 1, (r2.below hv).cell 2, (r2.below hv).cell 3, (r2.below hv).cell 4, (r2.below hv).cell 5, (r2.below hv).cell 6⟩
    have BW7 := Lib.hid (BW4.out.next (btrans hb5 (btrans hb6 hb7)))
    have ps' := Lib.hid (ps.out.below (btrans hb5 (btrans hb6 hb7)))
    have pl' := Lib.hid (pl.out.below (btrans hb5 (btrans hb6 hb7)))
    obtain ⟨a0, a1, a2, a3, a4, a5, a6⟩ := CA.out w7 (Below.refl _ _)
    obtain ⟨z0, z1, z2, z3, z4, z5, z6⟩ := CB.out w7 (Below.refl _ _)
    replace hw7 := Lib.hid hw7
    replace hg2 := Lib.hid hg2
    clear r1 r2 r1' hb5 hb6 hb7 ps2 pl2 ps pl s5 BW4 BW hk5 R1
    go_upto_region 6 with (fail)
    rw [← hw7.out, ← hg2.out]
    clear hw7
    go_wp2_with fail
    refine (E1.out w7 (Below.refl _ _)).mono ?_
    rintro e w8 ⟨rfl, hq8⟩
    have k8 := Lib.hid (hq8.below w7.heap.size)
    obtain ⟨a0', a1', a2', a3', a4', a5', a6'⟩ := CA.out w8 k8.out
    obtain ⟨z0', z1', z2', z3', z4', z5', z6'⟩ := CB.out w8 k8.out
    clear a0 a1 a2 a3 a4 a5 a6 z0 z1 z2 z3 z4 z5 z6 hq8 E1
    go_wp2_with fail
    refine (E2.out w8 k8.out).mono ?_
    rintro e w9 ⟨rfl, hq9⟩
    have k9 := Lib.hid (btrans k8.out (hq9.below w8.heap.size))
    obtain ⟨a0, a1, a2, a3, a4, a5, a6⟩ := CA.out w9 k9.out
    clear a0' a1' a2' a3' a4' a5' a6' z0' z1' z2' z3' z4' z5' z6' hq9 E2 k8
    by_cases h3 : fk = 3
    · subst h3
      clear R2
      go_wp2_with fail
      refine (works_true _).mono ?_
      rintro e wa ⟨rfl, hba⟩
      go_wp2
      go_ret
      exact ⟨rfl, btrans BW7.out.below (btrans k9.out hba)⟩
    · have h3b : ((fk : Int) == 3) = false := by simp; omega
      have R3 := Lib.hid (R2.out h3)
      have m0 : w9.cell? ⟨W.heap.size + 2, 0, none⟩ = some (.int .u16 (m1 : Int)) := (BW7.out.next k9.out).rm.cell 0
      have m1' : w9.cell? ⟨W.heap.size + 2, 1, none⟩ = some (.int .u16 (m2 : Int)) := (BW7.out.next k9.out).rm.cell 1
      have i1 : (fn : Int) ≤ 3072 := by omega
      have i2 : (fd : Int) ≤ 3072 := by omega
      have i3 : (m1 : Int) ≤ 65535 := by omega
      have i4 : (m2 : Int) ≤ 65535 := by omega
      have hk9 := Lib.hid (btrans hk7.out k9.out)
      have s9 := Lib.hid (SE.out w9 hk9.out ((fn : Int) + m1) ((fd : Int) + m2))
      clear R2 h3 u1 u4 u5 hm1 hm2 SE
      go_wp2_with fail
      refine s9.out.mono ?_
      rintro e wa ⟨v, rfl, hba, hv⟩
      rw [R3.out] at hv
      obtain ⟨sa3, sc3, la3, lc3, rfl, ⟨ps3, _⟩, pl3, _⟩ := hv
      rw [show (Value.agg (fcells ⟨fk, fy, fn, fe, fd, fs, fl⟩ sa3 sc3 la3 lc3).toArray) = .agg #[.int .i64 (fk : Int), .int .i64 (fy : Int), .int .i64 (fn : Int), .int .i64 (fe : Int), .int .i64 (fd : Int), .slice sa3 fs.length sc3, .slice la3 fl.length lc3] from rfl]
      dsimp only at ps3 pl3
      obtain ⟨wb, hwb⟩ : ∃ w, w = wa.alloc (.cells #[.int .i64 (fk : Int), .int .i64 (fy : Int), .int .i64 (fn : Int), .int .i64 (fe : Int), .int .i64 (fd : Int), .slice sa3 fs.length sc3, .slice la3 fl.length lc3] TFd) := ⟨_, rfl⟩
      obtain ⟨g3, hg3⟩ : ∃ g, g = wa.heap.size := ⟨_, rfl⟩
      have r3 : RowAt wb g3 TFd [.int .i64 (fk : Int), .int .i64 (fy : Int), .int .i64 (fn : Int), .int .i64 (fe : Int), .int .i64 (fd : Int), .slice sa3 fs.length sc3, .slice la3 fl.length lc3] := by rw [hwb]; exact RowAt.new #[.int .i64 (fk : Int), .int .i64 (fy : Int), .int .i64 (fn : Int), .int .i64 (fe : Int), .int .i64 (fd : Int), .slice sa3 fs.length sc3, .slice la3 fl.length lc3] hg3
      have hbb : Below wa.heap.size wa wb := by rw [hwb]; exact balloc (Below.refl _ _) _
      have kb := Lib.hid (btrans k9.out (btrans hba hbb))
      have E1 := Lib.hid (fun v (hv : Below wb.heap.size wb v) => eq_pps v sa3 sa sc3 sc fs ((ps3.below hbb).below hv) (ps'.out.below (btrans kb.out hv)) hfs.out.1)
      have E2 := Lib.hid (fun v (hv : Below wb.heap.size wb v) => eq_pps v la3 la lc3 lc fl ((pl3.below hbb).below hv) (pl'.out.below (btrans kb.out hv)) hfs.out.2)
      have CC : Hid (∀ v, Below wb.heap.size wb v → v.cell? ⟨g3, 0, none⟩ = some (.int .i64 (fk : Int)) ∧ v.cell? ⟨g3, 1, none⟩ = some (.int .i64 (fy : Int)) ∧ v.cell? ⟨g3, 2, none⟩ = some (.int .i64 (fn : Int)) ∧ v.cell? ⟨g3, 3, none⟩ = some (.int .i64 (fe : Int)) ∧ v.cell? ⟨g3, 4, none⟩ = some (.int .i64 (fd : Int)) ∧ v.cell? ⟨g3, 5, none⟩ = some (.slice sa3 fs.length sc3) ∧ v.cell? ⟨g3, 6, none⟩ = some (.slice la3 fl.length lc3)) := fun v hv => ⟨(r3.below hv).cell 0, (r3.below hv).cell 1, (r3.below hv).cell 2, (r3.below hv).cell 3, (r3.below hv).cell 4, (r3.below hv).cell 5, (r3.below hv).cell 6⟩
      obtain ⟨d0, d1, d2, d3, d4, d5, d6⟩ := CA.out wb kb.out
      obtain ⟨z0, z1, z2, z3, z4, z5, z6⟩ := CC.out wb (Below.refl _ _)
      replace hwb := Lib.hid hwb
      replace hg3 := Lib.hid hg3
      clear r3 hba hbb ps3 pl3 s9 m0 m1' a0 a1 a2 a3 a4 a5 a6
      go_upto_region 11 with (fail)
      rw [← hwb.out, ← hg3.out]
      clear hwb
      go_wp2_with fail
      refine (E1.out wb (Below.refl _ _)).mono ?_
      rintro e wc ⟨rfl, hqc⟩
      have kc := Lib.hid (hqc.below wb.heap.size)
      obtain ⟨a0, a1, a2, a3, a4, a5, a6⟩ := CA.out wc (btrans kb.out kc.out)
      obtain ⟨z0', z1', z2', z3', z4', z5', z6'⟩ := CC.out wc kc.out
      clear d0 d1 d2 d3 d4 d5 d6 z0 z1 z2 z3 z4 z5 z6 hqc E1
      go_wp2_with fail
      refine (E2.out wc kc.out).mono ?_
      rintro e wd ⟨rfl, hqd⟩
      have kd := Lib.hid (btrans kc.out (hqd.below wc.heap.size))
      go_wp2_with fail
      refine (works_true _).mono ?_
      rintro e we ⟨rfl, hbe⟩
      go_wp2
      go_ret
      exact ⟨rfl, btrans BW7.out.below (btrans kb.out (btrans kd.out hbe))⟩
end Go.Proofs.Ytfcpfcgcfaacnaa

namespace Go.Proofs.Ytfcpfcgcfaacnaa
open Go.RowKit Go.ChangeShapes Go.WideShapes Go.ChangeAt

theorem range_u16 {x : Int} (h : (Lit.int .u16 x).wf = true) : ∃ m : Nat, x = (m : Int) ∧ m ≤ 65535 := by
  simp [Lit.wf, IntKind.min, IntKind.max, IntKind.signed, IntKind.bits] at h
  exact ⟨x.toNat, by omega, by omega⟩
def rU2 : Rd (Nat × Nat) := fun _ cs x => cs = [.int .u16 (x.1 : Int), .int .u16 (x.2 : Int)] ∧ x.1 ≤ 65535 ∧ x.2 ≤ 65535
theorem opens_U2 : Opens Try.prog TU2 rU2 := by
  intro H enc w fuel cs d ps hd hwt
  obtain ⟨xs, n, rfl, hx, hlen, hxl, hf'⟩ := DataW.trod_array Try.underlying80 hd
  have hc : Try.prog.cellsOf TU2 = 2 := by kernel_rfl
  have hc1 : Try.prog.cellsOf 79 = 1 := by kernel_rfl
  obtain ⟨c0, c1, rfl⟩ := list2 (hlen.trans hc)
  simp only [Prod.mk.injEq] at hx
  obtain ⟨rfl, _⟩ := hx
  have one : ∀ i (hi : i < 2), ∃ x, rInt .u16 w (([c0, c1].drop (i * 1)).take 1) x := fun i hi => by
    have h1 := hf' i hi
    have hj : i < xs.length := by omega
    rw [List.getElem?_eq_getElem hj, hc1] at h1
    refine opens_int Try.underlying79 H enc w n _ xs[i].1 xs[i].2 h1 ?_
    refine List.all_eq_true.2 fun k hk => List.all_eq_true.1 hwt k ?_
    simp only [DataW.weights, Try.underlying80]
    exact weights_mem_all (i := i) (by simp [List.getElem?_eq_getElem hj]) k hk
  obtain ⟨x, hx⟩ := one 0 (by decide)
  obtain ⟨y, hy⟩ := one 1 (by decide)
  simp only [Nat.zero_mul, Nat.one_mul, List.drop_zero, List.drop_succ_cons, List.take_succ_cons, List.take_zero, rInt, List.cons.injEq, and_true] at hx hy
  obtain ⟨rfl, wx⟩ := hx
  obtain ⟨rfl, wy⟩ := hy
  obtain ⟨m1, rfl, q1⟩ := range_u16 wx
  obtain ⟨m2, rfl, q2⟩ := range_u16 wy
  exact ⟨(m1, m2), rfl, q1, q2⟩
theorem ndfsBudget_walk (W : World) (c0 : Array Value) (t : TK) (s0 : rTask W c0.toList t) (c1 : Array Value) (b : Int × Int) (s1 : rBud W c1.toList b) (c2 : Array Value) (m : Nat × Nat) (s2 : rU2 W c2.toList m) :
    Calls Try.prog 6 #[.agg c0, .agg c1, .agg c2] W fun e w' => e = .returned (.bool true) ∧ Below W.heap.size W w' := by
  obtain ⟨X, rfl, h⟩ := LawIn.task s0
  obtain ⟨e2, q1, q2⟩ := s2
  rw [bud_cells s1, show c2 = #[.int .u16 (m.1 : Int), .int .u16 (m.2 : Int)] by cases c2; simpa using e2]
  cases hl : lightK t.G t.sets t.A with
  | true => exact budget_light W X t.G t.sets t.A b.1 b.2 m.1 m.2 h q1 q2 hl
  | false => exact budget_heavy W X t.G t.sets t.A b.1 b.2 m.1 m.2 h q1 q2 hl
end Go.Proofs.Ytfcpfcgcfaacnaa
