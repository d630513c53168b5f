/- The walk of 'NdfsTold'. No conditions but the form's reach. -/
import Derived.Test.YtfcpfcgcfaacnaaNdUsed
import Derived.Test.YtfcpfcgcfaacnaaNdEqPp
import Derived.Test.YtfcpfcgcfaacnaaNdPlain
import Derived.Test.YtfcpfcgcfaacnaaNdAppG
import Derived.Test.YtfcpfcgcfaacnaaNdHas
import Derived.BigRegion
import Derived.IntWalk
namespace Go.Proofs.Ytfcpfcgcfaacnaa
open Go.RowKit

theorem frame128 (arr : Array Value) (h : arr.size = 128) : ∃ q : Nat → Value, arr = #[q 0, q 1, q 2, q 3, q 4, q 5, q 6, q 7, q 8, q 9, q 10, q 11, q 12, q 13, q 14, q 15, q 16, q 17, q 18, q 19, q 20, q 21, q 22, q 23, q 24, q 25, q 26, q 27, q 28, q 29, q 30, q 31, q 32, q 33, q 34, q 35, q 36, q 37, q 38, q 39, q 40, q 41, q 42, q 43, q 44, q 45, q 46, q 47, q 48, q 49, q 50, q 51, q 52, q 53, q 54, q 55, q 56, q 57, q 58, q 59, q 60, q 61, q 62, q 63, q 64, q 65, q 66, q 67, q 68, q 69, q 70, q 71, q 72, q 73, q 74, q 75, q 76, q 77, q 78, q 79, q 80, q 81, q 82, q 83, q 84, q 85, q 86, q 87, q 88, q 89, q 90, q 91, q 92, q 93, q 94, q 95, q 96, q 97, q 98, q 99, q 100, q 101, q 102, q 103, q 104, q 105, q 106, q 107, q 108, q 109, q 110, q 111, q 112, q 113, q 114, q 115, q 116, q 117, q 118, q 119, q 120, q 121, q 122, q 123, q 124, q 125, q 126, q 127] := by
  refine ⟨fun i => arr.toList.getD i undef, ?_⟩
  have h1 := list_getN (l := arr.toList) (n := 128) (by simpa using h)
  apply Array.ext'
  exact h1
/-- pairs that lie somewhere -/
def Kp.pps (l : List PP) : Kp := ⟨fun v w => ∃ a c, v = .slice a l.length c ∧ PpsAt w a l, fun v w w' h hb => by
  obtain ⟨a, c, h1, h2⟩ := h
  exact ⟨a, c, h1, h2.below hb⟩⟩
theorem told_res {G : GR} {sets : List (List Bool)} {A : AU} (lt : Lt G sets A) (hn : newB G sets A = true) (bn bd : Int) : ((resP G sets A bn bd).kind = 2 ∧ LassoP (nextP G sets A) (inP G sets A) (firstP G A) (resP G sets A bn bd).stem (resP G sets A bn bd).loop) ∨ (((resP G sets A bn bd).kind = 1 ∨ (resP G sets A bn bd).kind = 3) ∧ (resP G sets A bn bd).stem = [] ∧ (resP G sets A bn bd).loop = []) := by
  unfold resP
  rw [if_pos hn]
  rcases search_told (b := ⟨heldP bn, heldP bd⟩) (inq := inP G sets A) (nice_of lt hn) (by decide) (first_ok hn) with h | h
  · rcases h.kind with ⟨h1, _, h2⟩ | ⟨h1, h2, h3, _⟩
    · exact .inl ⟨h1, h2⟩
    · exact .inr ⟨.inr h1, h2, h3⟩
  · exact .inr ⟨.inl h.kind.1, h.kind.2.2.1, h.kind.2.2.2⟩
theorem qcells_append (a b : List PP) : qcells (a ++ b) = qcells a ++ qcells b := by simp [qcells]
theorem any_takeT {p : PP → Bool} {l : List PP} {k : Nat} (hk : k < l.length) : (l.take (k + 1)).any p = ((l.take k).any p || p l[k]) := by
  rw [List.take_succ_eq_append_getElem hk, List.any_append]
  simp
set_option maxRecDepth 20000 in
set_option maxHeartbeats 8000000 in
theorem told_heavy (W : World) (X : RX) (G : GR) (sets : List (List Bool)) (A : AU) (b1 b2 : Int) (h : LawIn W X G sets A) (hl : lightK G sets A = false) :
    Calls Try.prog 4 #[.agg (tcells X G sets A).toArray, .agg #[.int .i64 b1, .int .i64 b2]] W fun e w' => e = .returned (.bool true) ∧ Below W.heap.size W w' := by
  obtain ⟨ai, ae, al, as_, bi, bn, ci, ce, cl, cs, di, dn⟩ := X
  dsimp only [tcells]
  have B0 := BoxT.start W ⟨ai, ae, al, as_, bi, bn, ci, ce, cl, cs, di, dn⟩ G sets A b1 b2
  obtain ⟨w2, hw2⟩ : ∃ w2, w2 = (W.alloc (.cells #[.slice ai G.init.length ci, .slice ae G.edges.length ce, .slice al G.labels.length cl, .slice as_ sets.length cs, .int .i64 A.sets, .slice bi A.init.length di, .slice bn A.nodes.length dn] TTk)).alloc (.cells #[.int .i64 b1, .int .i64 b2] TBu) := ⟨_, rfl⟩
  replace B0 : BoxT W ⟨ai, ae, al, as_, bi, bn, ci, ce, cl, cs, di, dn⟩ G sets A b1 b2 w2 := by rw [hw2]; exact B0
  have HV : Hid (∀ w, Below W.heap.size W w → Calls Try.prog 9 #[.agg #[.slice ai G.init.length ci, .slice ae G.edges.length ce, .slice al G.labels.length cl, .slice as_ sets.length cs, .int .i64 A.sets, .slice bi A.init.length di, .slice bn A.nodes.length dn]] w fun e w' => e = .returned (.int .i64 1) ∧ Below w.heap.size w w') := fun w hb => by
    have := heavy_any w ⟨ai, ae, al, as_, bi, bn, ci, ce, cl, cs, di, dn⟩ G sets A (h.below hb)
    rw [heavyN_1 hl] at this
    exact this
  have hb0 := Lib.hid B0.below
  replace B0 := Lib.hid B0
  have r0 := Lib.hid B0.out.rt
  have t0 : w2.cell? ⟨W.heap.size, 0, none⟩ = some (.slice ai G.init.length ci) := B0.out.rt.cell 0
  have t1 : w2.cell? ⟨W.heap.size, 1, none⟩ = some (.slice ae G.edges.length ce) := B0.out.rt.cell 1
  have t2 : w2.cell? ⟨W.heap.size, 2, none⟩ = some (.slice al G.labels.length cl) := B0.out.rt.cell 2
  have t3 : w2.cell? ⟨W.heap.size, 3, none⟩ = some (.slice as_ sets.length cs) := B0.out.rt.cell 3
  have t4 : w2.cell? ⟨W.heap.size, 4, none⟩ = some (.int .i64 A.sets) := B0.out.rt.cell 4
  have t5 : w2.cell? ⟨W.heap.size, 5, none⟩ = some (.slice bi A.init.length di) := B0.out.rt.cell 5
  have t6 : w2.cell? ⟨W.heap.size, 6, none⟩ = some (.slice bn A.nodes.length dn) := B0.out.rt.cell 6
  replace hw2 := Lib.hid hw2
  clear r0
  go_enter Try.func4, Try.ntmps4
  go_upto_region 1 with (fail)
  rw [← hw2.out]
  clear hw2
  go_wp2_with fail
  refine (HV.out _ hb0.out).mono ?_
  rintro e w3 ⟨rfl, hb3⟩
  clear t0 t1 t2 t3 t4 t5 t6
  go_wp2_with fail
  refine (works_true _).mono ?_
  rintro e w4 ⟨rfl, hb4⟩
  go_wp2
  go_ret
  exact ⟨rfl, btrans hb0.out (btrans hb3 hb4)⟩
set_option maxRecDepth 20000 in
set_option maxHeartbeats 8000000 in
theorem told_none (W : World) (X : RX) (G : GR) (sets : List (List Bool)) (A : AU) (b1 b2 : Int) (h : LawIn W X G sets A) (hl : lightK G sets A = true) (hn : newB G sets A = false) :
    Calls Try.prog 4 #[.agg (tcells X G sets A).toArray, .agg #[.int .i64 b1, .int .i64 b2]] W fun e w' => e = .returned (.bool true) ∧ Below W.heap.size W w' := by
  obtain ⟨ai, ae, al, as_, bi, bn, ci, ce, cl, cs, di, dn⟩ := X
  dsimp only [tcells]
  have RN := Lib.hid (fun w (hb : Below W.heap.size W w) => rnew_any w ⟨ai, ae, al, as_, bi, bn, ci, ce, cl, cs, di, dn⟩ G sets A (h.g.below hb) h.ok (h.s.below hb) (h.au.below hb) h.aok)
  have RN2 : Hid (∀ w, Below W.heap.size W w → Calls Try.prog 11 #[.agg #[.slice ai G.init.length ci, .slice ae G.edges.length ce, .slice al G.labels.length cl], .slice as_ sets.length cs, .agg #[.int .i64 A.sets, .slice bi A.init.length di, .slice bn A.nodes.length dn]] w fun e w' => e = .returned (.tuple #[.agg rz.toArray, .bool false]) ∧ Below w.heap.size w w') := fun w hb => (RN.out w hb).mono fun e w' hh => by rw [hn] at hh; exact hh
  clear RN
  have B0 := BoxT.start W ⟨ai, ae, al, as_, bi, bn, ci, ce, cl, cs, di, dn⟩ G sets A b1 b2
  obtain ⟨w2, hw2⟩ : ∃ w2, w2 = (W.alloc (.cells #[.slice ai G.init.length ci, .slice ae G.edges.length ce, .slice al G.labels.length cl, .slice as_ sets.length cs, .int .i64 A.sets, .slice bi A.init.length di, .slice bn A.nodes.length dn] TTk)).alloc (.cells #[.int .i64 b1, .int .i64 b2] TBu) := ⟨_, rfl⟩
  replace B0 : BoxT W ⟨ai, ae, al, as_, bi, bn, ci, ce, cl, cs, di, dn⟩ G sets A b1 b2 w2 := by rw [hw2]; exact B0
  have HV : Hid (∀ w, Below W.heap.size W w → Calls Try.prog 9 #[.agg #[.slice ai G.init.length ci, .slice ae G.edges.length ce, .slice al G.labels.length cl, .slice as_ sets.length cs, .int .i64 A.sets, .slice bi A.init.length di, .slice bn A.nodes.length dn]] w fun e w' => e = .returned (.int .i64 0) ∧ Below w.heap.size w w') := fun w hb => by
    have := heavy_any w ⟨ai, ae, al, as_, bi, bn, ci, ce, cl, cs, di, dn⟩ G sets A (h.below hb)
    rw [heavyN_0 hl] at this
    exact this
  have hb0 := Lib.hid B0.below
  replace B0 := Lib.hid B0
  have r0 := Lib.hid B0.out.rt
  have t0 : w2.cell? ⟨W.heap.size, 0, none⟩ = some (.slice ai G.init.length ci) := B0.out.rt.cell 0
  have t1 : w2.cell? ⟨W.heap.size, 1, none⟩ = some (.slice ae G.edges.length ce) := B0.out.rt.cell 1
  have t2 : w2.cell? ⟨W.heap.size, 2, none⟩ = some (.slice al G.labels.length cl) := B0.out.rt.cell 2
  have t3 : w2.cell? ⟨W.heap.size, 3, none⟩ = some (.slice as_ sets.length cs) := B0.out.rt.cell 3
  have t4 : w2.cell? ⟨W.heap.size, 4, none⟩ = some (.int .i64 A.sets) := B0.out.rt.cell 4
  have t5 : w2.cell? ⟨W.heap.size, 5, none⟩ = some (.slice bi A.init.length di) := B0.out.rt.cell 5
  have t6 : w2.cell? ⟨W.heap.size, 6, none⟩ = some (.slice bn A.nodes.length dn) := B0.out.rt.cell 6
  replace hw2 := Lib.hid hw2
  clear r0
  go_enter Try.func4, Try.ntmps4
  go_upto_region 1 with (fail)
  rw [← hw2.out]
  clear hw2
  go_wp2_with fail
  refine (HV.out _ hb0.out).mono ?_
  rintro e w3 ⟨rfl, hb3⟩
  clear t0 t1 t2 t3 t4 t5 t6
  have BT := B0.out.next hb3
  have t0 : w3.cell? ⟨W.heap.size, 0, none⟩ = some (.slice ai G.init.length ci) := BT.rt.cell 0
  have t1 : w3.cell? ⟨W.heap.size, 1, none⟩ = some (.slice ae G.edges.length ce) := BT.rt.cell 1
  have t2 : w3.cell? ⟨W.heap.size, 2, none⟩ = some (.slice al G.labels.length cl) := BT.rt.cell 2
  have t3 : w3.cell? ⟨W.heap.size, 3, none⟩ = some (.slice as_ sets.length cs) := BT.rt.cell 3
  have t4 : w3.cell? ⟨W.heap.size, 4, none⟩ = some (.int .i64 A.sets) := BT.rt.cell 4
  have t5 : w3.cell? ⟨W.heap.size, 5, none⟩ = some (.slice bi A.init.length di) := BT.rt.cell 5
  have t6 : w3.cell? ⟨W.heap.size, 6, none⟩ = some (.slice bn A.nodes.length dn) := BT.rt.cell 6
  clear B0 HV h hn hl
  go_wp2_with fail
  refine (RN2.out w3 BT.below).mono ?_
  rintro e w4 ⟨rfl, hb4⟩
  clear t0 t1 t2 t3 t4 t5 t6
  go_wp2_with fail
  refine (works_true _).mono ?_
  rintro e w5 ⟨rfl, hb5⟩
  go_wp2
  go_ret
  exact ⟨rfl, btrans (btrans BT.below hb4) (btrans (balloc (Below.refl _ _) _) hb5)⟩
set_option maxRecDepth 20000 in
set_option maxHeartbeats 8000000 in
theorem told_light (W : World) (X : RX) (G : GR) (sets : List (List Bool)) (A : AU) (b1 b2 : Int) (h : LawIn W X G sets A) (hl : lightK G sets A = true) (hn : newB G sets A = true) :
    Calls Try.prog 4 #[.agg (tcells X G sets A).toArray, .agg #[.int .i64 b1, .int .i64 b2]] W fun e w' => e = .returned (.bool true) ∧ Below W.heap.size W w' := by
  obtain ⟨ai, ae, al, as_, bi, bn, ci, ce, cl, cs, di, dn⟩ := X
  dsimp only [tcells]
  have lt := lightK_lt hl
  have TR := told_res lt hn b1 b2
  have LEN := res_len lt b1 b2
  have hfl4 := Lib.hid (firstP_len (sets := sets) lt)
  have hnl4 := Lib.hid (fun y => nextP_len lt y)
  have GRC : Hid (∀ w, Below W.heap.size W w → Calls Try.prog 13 #[.agg #[.slice ai G.init.length ci, .slice ae G.edges.length ce, .slice al G.labels.length cl], .slice as_ sets.length cs] w (SrcMade G sets w)) := fun w hb => graph_any w ai ae al as_ ci ce cl cs G sets (h.g.below hb) h.ok (h.s.below hb)
  have NVC : Hid (∀ w, Below W.heap.size W w → ∀ v, SrcV w G sets v → Calls Try.prog 12 #[v, .agg #[.int .i64 A.sets, .slice bi A.init.length di, .slice bn A.nodes.length dn]] w (NewMade G sets A w)) := fun w hb v hv => new_v w bi bn di dn G sets A v hv h.ok (h.au.below hb) h.aok
  have RPA : Hid (∀ w, Below W.heap.size W w → RpA w ⟨ai, ae, al, as_, bi, bn, ci, ce, cl, cs, di, dn⟩ G sets A) := by
    obtain ⟨hs, hc⟩ : srcB G sets = true ∧ chk A = 0 := by
      unfold newB at hn
      rw [Bool.and_eq_true] at hn
      exact ⟨hn.1, of_decide_eq_true hn.2⟩
    exact fun w hb => ⟨h.g.below hb, h.s.below hb, h.au.below hb, hs, hc, h.ok, h.aok, lt⟩
  have RN := Lib.hid (fun w (hb : Below W.heap.size W w) => rnew_any w ⟨ai, ae, al, as_, bi, bn, ci, ce, cl, cs, di, dn⟩ G sets A (h.g.below hb) h.ok (h.s.below hb) (h.au.below hb) h.aok)
  have RN2 : Hid (∀ w, Below W.heap.size W w → Calls Try.prog 11 #[.agg #[.slice ai G.init.length ci, .slice ae G.edges.length ce, .slice al G.labels.length cl], .slice as_ sets.length cs, .agg #[.int .i64 A.sets, .slice bi A.init.length di, .slice bn A.nodes.length dn]] w fun e w' => e = .returned (.tuple #[.agg #[.slice ai G.init.length ci, .slice ae G.edges.length ce, .slice al G.labels.length cl, .slice as_ sets.length cs, .int .i64 A.sets, .slice bi A.init.length di, .slice bn A.nodes.length dn], .bool true]) ∧ Below w.heap.size w w') := fun w hb => (RN.out w hb).mono fun e w' hh => by rw [hn] at hh; exact hh
  clear RN
  have B0 := BoxT.start W ⟨ai, ae, al, as_, bi, bn, ci, ce, cl, cs, di, dn⟩ G sets A b1 b2
  obtain ⟨w2, hw2⟩ : ∃ w2, w2 = (W.alloc (.cells #[.slice ai G.init.length ci, .slice ae G.edges.length ce, .slice al G.labels.length cl, .slice as_ sets.length cs, .int .i64 A.sets, .slice bi A.init.length di, .slice bn A.nodes.length dn] TTk)).alloc (.cells #[.int .i64 b1, .int .i64 b2] TBu) := ⟨_, rfl⟩
  replace B0 : BoxT W ⟨ai, ae, al, as_, bi, bn, ci, ce, cl, cs, di, dn⟩ G sets A b1 b2 w2 := by rw [hw2]; exact B0
  have HV : Hid (∀ w, Below W.heap.size W w → Calls Try.prog 9 #[.agg #[.slice ai G.init.length ci, .slice ae G.edges.length ce, .slice al G.labels.length cl, .slice as_ sets.length cs, .int .i64 A.sets, .slice bi A.init.length di, .slice bn A.nodes.length dn]] w fun e w' => e = .returned (.int .i64 0) ∧ Below w.heap.size w w') := fun w hb => by
    have := heavy_any w ⟨ai, ae, al, as_, bi, bn, ci, ce, cl, cs, di, dn⟩ G sets A (h.below hb)
    rw [heavyN_0 hl] at this
    exact this
  have hb0 := Lib.hid B0.below
  replace B0 := Lib.hid B0
  have r0 := Lib.hid B0.out.rt
  have t0 : w2.cell? ⟨W.heap.size, 0, none⟩ = some (.slice ai G.init.length ci) := B0.out.rt.cell 0
  have t1 : w2.cell? ⟨W.heap.size, 1, none⟩ = some (.slice ae G.edges.length ce) := B0.out.rt.cell 1
  have t2 : w2.cell? ⟨W.heap.size, 2, none⟩ = some (.slice al G.labels.length cl) := B0.out.rt.cell 2
  have t3 : w2.cell? ⟨W.heap.size, 3, none⟩ = some (.slice as_ sets.length cs) := B0.out.rt.cell 3
  have t4 : w2.cell? ⟨W.heap.size, 4, none⟩ = some (.int .i64 A.sets) := B0.out.rt.cell 4
  have t5 : w2.cell? ⟨W.heap.size, 5, none⟩ = some (.slice bi A.init.length di) := B0.out.rt.cell 5
  have t6 : w2.cell? ⟨W.heap.size, 6, none⟩ = some (.slice bn A.nodes.length dn) := B0.out.rt.cell 6
  replace hw2 := Lib.hid hw2
  clear r0
  go_enter Try.func4, Try.ntmps4
  go_upto_region 1 with (fail)
  rw [← hw2.out]
  clear hw2
  go_wp2_with fail
  refine (HV.out _ hb0.out).mono ?_
  rintro e w3 ⟨rfl, hb3⟩
  clear t0 t1 t2 t3 t4 t5 t6
  have BT := B0.out.next hb3
  have t0 : w3.cell? ⟨W.heap.size, 0, none⟩ = some (.slice ai G.init.length ci) := BT.rt.cell 0
  have t1 : w3.cell? ⟨W.heap.size, 1, none⟩ = some (.slice ae G.edges.length ce) := BT.rt.cell 1
  have t2 : w3.cell? ⟨W.heap.size, 2, none⟩ = some (.slice al G.labels.length cl) := BT.rt.cell 2
  have t3 : w3.cell? ⟨W.heap.size, 3, none⟩ = some (.slice as_ sets.length cs) := BT.rt.cell 3
  have t4 : w3.cell? ⟨W.heap.size, 4, none⟩ = some (.int .i64 A.sets) := BT.rt.cell 4
  have t5 : w3.cell? ⟨W.heap.size, 5, none⟩ = some (.slice bi A.init.length di) := BT.rt.cell 5
  have t6 : w3.cell? ⟨W.heap.size, 6, none⟩ = some (.slice bn A.nodes.length dn) := BT.rt.cell 6
  clear B0 HV h hn hl
  go_wp2_with fail
  refine (RN2.out w3 BT.below).mono ?_
  rintro e w4 ⟨rfl, hb4⟩
  clear t0 t1 t2 t3 t4 t5 t6
  obtain ⟨w5, hw5⟩ : ∃ w5, w5 = w4.alloc (.cells #[.slice ai G.init.length ci, .slice ae G.edges.length ce, .slice al G.labels.length cl, .slice as_ sets.length cs, .int .i64 A.sets, .slice bi A.init.length di, .slice bn A.nodes.length dn] TRP) := ⟨_, rfl⟩
  obtain ⟨pb, hpb⟩ : ∃ pb, pb = w4.heap.size := ⟨_, rfl⟩
  have rp5 : RowAt w5 pb TRP [.slice ai G.init.length ci, .slice ae G.edges.length ce, .slice al G.labels.length cl, .slice as_ sets.length cs, .int .i64 A.sets, .slice bi A.init.length di, .slice bn A.nodes.length dn] := by rw [hw5]; exact RowAt.new #[.slice ai G.init.length ci, .slice ae G.edges.length ce, .slice al G.labels.length cl, .slice as_ sets.length cs, .int .i64 A.sets, .slice bi A.init.length di, .slice bn A.nodes.length dn] hpb
  have hb5 : Below w4.heap.size w4 w5 := by rw [hw5]; exact balloc (Below.refl _ _) _
  have BT5 := (BT.next hb4).next hb5
  replace hw5 := Lib.hid hw5
  replace hpb := Lib.hid hpb
  clear RN2 BT hb4 hb5
  go_upto_region 6 with (fail)
  rw [← hw5.out, ← hpb.out]
  clear hw5
  refine wp_region_ops (by kernel_rfl) w5 G sets A 11 [.fix (.pointer (some ⟨W.heap.size, 0, none⟩)), .fix (.agg #[.slice ai G.init.length ci, .slice ae G.edges.length ce, .slice al G.labels.length cl]), .fix (.pointer (some ⟨W.heap.size, 3, none⟩)), .fix (.slice as_ sets.length cs), .src, .fix (.pointer (some ⟨W.heap.size, 4, none⟩)), .fix (.agg #[.int .i64 A.sets, .slice bi A.init.length di, .slice bn A.nodes.length dn]), .new, .fix (.agg #[.int .i64 b1, .int .i64 b2]), .found (b1) (b2), .box] (by kernel_rfl) (by kernel_rfl) (by kernel_rfl) (Below.refl _ _) ?_ ?_
  · intro i hi
    match i, hi with
    | 0, _ =>
      intro o ho a w hR hF hD K hK
      simp only [List.getElem?_toArray, List.getElem?_cons_zero, Option.some.injEq] at ho
      subst ho
      have e2 : a.tmps.getD 2 undef = .pointer (some ⟨W.heap.size, 0, none⟩) := hF 2 (notDst_spec (by kernel_rfl))
      go_simp
      exact hK _ _ hR (Below.refl _ _) trivial rfl
    | 1, _ =>
      intro o ho a w hR hF hD K hK
      simp only [List.getElem?_toArray, List.getElem?_cons_zero, List.getElem?_cons_succ, Option.some.injEq] at ho
      subst ho
      have e30 : a.tmps.getD 30 undef = .pointer (some ⟨W.heap.size, 0, none⟩) := hD 0 (dep_spec (by kernel_rfl)) 30 rfl
      have c0 : w.cell? ⟨W.heap.size, 0, none⟩ = some (.slice ai G.init.length ci) := (BT5.rt.below hR).cell 0
      have c1 : w.cell? ⟨W.heap.size, 1, none⟩ = some (.slice ae G.edges.length ce) := (BT5.rt.below hR).cell 1
      have c2 : w.cell? ⟨W.heap.size, 2, none⟩ = some (.slice al G.labels.length cl) := (BT5.rt.below hR).cell 2
      go_simp
      exact hK _ _ hR (Below.refl _ _) trivial rfl
    | 2, _ =>
      intro o ho a w hR hF hD K hK
      simp only [List.getElem?_toArray, List.getElem?_cons_zero, List.getElem?_cons_succ, Option.some.injEq] at ho
      subst ho
      have e2 : a.tmps.getD 2 undef = .pointer (some ⟨W.heap.size, 0, none⟩) := hF 2 (notDst_spec (by kernel_rfl))
      go_simp
      exact hK _ _ hR (Below.refl _ _) trivial rfl
    | 3, _ =>
      intro o ho a w hR hF hD K hK
      simp only [List.getElem?_toArray, List.getElem?_cons_zero, List.getElem?_cons_succ, Option.some.injEq] at ho
      subst ho
      have e32 : a.tmps.getD 32 undef = .pointer (some ⟨W.heap.size, 3, none⟩) := hD 2 (dep_spec (by kernel_rfl)) 32 rfl
      have c0 : w.cell? ⟨W.heap.size, 3, none⟩ = some (.slice as_ sets.length cs) := (BT5.rt.below hR).cell 3
      go_simp
      exact hK _ _ hR (Below.refl _ _) trivial rfl
    | 4, _ =>
      intro o ho a w hR hF hD K hK
      simp only [List.getElem?_toArray, List.getElem?_cons_zero, List.getElem?_cons_succ, Option.some.injEq] at ho
      subst ho
      have e31 : a.tmps.getD 31 undef = .agg #[.slice ai G.init.length ci, .slice ae G.edges.length ce, .slice al G.labels.length cl] := hD 1 (dep_spec (by kernel_rfl)) 31 rfl
      have e33 : a.tmps.getD 33 undef = .slice as_ sets.length cs := hD 3 (dep_spec (by kernel_rfl)) 33 rfl
      go_simp
      refine (GRC.out w (btrans BT5.below hR)).mono ?_
      rintro e w1 h1
      have hb := h1.1
      obtain ⟨v, rfl, hv⟩ := h1.v
      exact hK _ _ (btrans hR hb) hb trivial hv
    | 5, _ =>
      intro o ho a w hR hF hD K hK
      simp only [List.getElem?_toArray, List.getElem?_cons_zero, List.getElem?_cons_succ, Option.some.injEq] at ho
      subst ho
      have e2 : a.tmps.getD 2 undef = .pointer (some ⟨W.heap.size, 0, none⟩) := hF 2 (notDst_spec (by kernel_rfl))
      go_simp
      exact hK _ _ hR (Below.refl _ _) trivial rfl
    | 6, _ =>
      intro o ho a w hR hF hD K hK
      simp only [List.getElem?_toArray, List.getElem?_cons_zero, List.getElem?_cons_succ, Option.some.injEq] at ho
      subst ho
      have e35 : a.tmps.getD 35 undef = .pointer (some ⟨W.heap.size, 4, none⟩) := hD 5 (dep_spec (by kernel_rfl)) 35 rfl
      have c0 : w.cell? ⟨W.heap.size, 4, none⟩ = some (.int .i64 A.sets) := (BT5.rt.below hR).cell 4
      have c1 : w.cell? ⟨W.heap.size, 5, none⟩ = some (.slice bi A.init.length di) := (BT5.rt.below hR).cell 5
      have c2 : w.cell? ⟨W.heap.size, 6, none⟩ = some (.slice bn A.nodes.length dn) := (BT5.rt.below hR).cell 6
      go_simp
      exact hK _ _ hR (Below.refl _ _) trivial rfl
    | 7, _ =>
      intro o ho a w hR hF hD K hK
      simp only [List.getElem?_toArray, List.getElem?_cons_zero, List.getElem?_cons_succ, Option.some.injEq] at ho
      subst ho
      have s34 : SrcV w G sets (a.tmps.getD 34 undef) := hD 4 (dep_spec (by kernel_rfl)) 34 rfl
      have e36 : a.tmps.getD 36 undef = .agg #[.int .i64 A.sets, .slice bi A.init.length di, .slice bn A.nodes.length dn] := hD 6 (dep_spec (by kernel_rfl)) 36 rfl
      obtain ⟨x34, hx34⟩ : ∃ x, x = a.tmps.getD 34 undef := ⟨_, rfl⟩
      rw [← hx34] at s34
      have e34 := hx34.symm
      clear hx34
      go_simp
      refine (NVC.out w (btrans BT5.below hR) _ s34).mono ?_
      rintro e w1 h1
      have hb := h1.1
      obtain ⟨v, rfl, hv⟩ := h1.v
      exact hK _ _ (btrans hR hb) hb trivial hv
    | 8, _ =>
      intro o ho a w hR hF hD K hK
      simp only [List.getElem?_toArray, List.getElem?_cons_zero, List.getElem?_cons_succ, Option.some.injEq] at ho
      subst ho
      have e3 : a.tmps.getD 3 undef = .pointer (some ⟨W.heap.size + 1, 0, none⟩) := hF 3 (notDst_spec (by kernel_rfl))
      have c0 : w.cell? ⟨W.heap.size + 1, 0, none⟩ = some (.int .i64 b1) := (BT5.rb.below hR).cell 0
      have c1 : w.cell? ⟨W.heap.size + 1, 1, none⟩ = some (.int .i64 b2) := (BT5.rb.below hR).cell 1
      go_simp
      exact hK _ _ hR (Below.refl _ _) trivial rfl
    | 9, _ =>
      intro o ho a w hR hF hD K hK
      simp only [List.getElem?_toArray, List.getElem?_cons_zero, List.getElem?_cons_succ, Option.some.injEq] at ho
      subst ho
      have s37 : NewV w G sets A (a.tmps.getD 37 undef) := hD 7 (dep_spec (by kernel_rfl)) 37 rfl
      have e38 : a.tmps.getD 38 undef = .agg #[.int .i64 b1, .int .i64 b2] := hD 8 (dep_spec (by kernel_rfl)) 38 rfl
      obtain ⟨x37, hx37⟩ : ∃ x, x = a.tmps.getD 37 undef := ⟨_, rfl⟩
      rw [← hx37] at s37
      have e37 := hx37.symm
      clear hx37
      go_simp
      refine (search_v w G sets A x37 s37 lt b1 b2).mono ?_
      rintro e w1 ⟨v, rfl, hb, hf⟩
      exact hK _ _ (btrans hR hb) hb (fun b hb' => (hf.blk hb').1) (hf.weak hR.size)
    | 10, _ =>
      intro o ho a w hR hF hD K hK
      simp only [List.getElem?_toArray, List.getElem?_cons_zero, List.getElem?_cons_succ, Option.some.injEq] at ho
      subst ho
      go_simp
      exact hK _ _ (balloc hR _) (balloc (Below.refl _ _) _) rfl ⟨w.heap.size, rfl, hR.size, RowAt.new zfound.toArray rfl⟩
    | k + 11, hk => omega
  · rintro ⟨tm, df⟩ w hdf hsz hF hR hV hU
    obtain rfl : df = [] := hdf
    obtain ⟨q, rfl⟩ := frame128 tm hsz
    obtain ⟨sa, sc, la, lc, k39, ps, pl⟩ := FoundNew.at (hV 9 39 (by decide) rfl)
    obtain ⟨g, k7, hg, rg⟩ := hV 10 7 (by decide) rfl
    have v7 := hU 9 10 39 7 (by decide) (by decide) (by decide) rfl rfl
    replace k39 : q 39 = _ := k39
    replace k7 : q 7 = _ := k7
    replace v7 : ∀ b, blkOf (q 39) b → q 7 ≠ _ := v7
    rw [k39, k7] at v7
    replace v7 : ∀ b, blkOf (.agg (fcells (resP G sets A b1 b2) sa sc la lc).toArray) b → b ≠ g := fun b hb e => v7 b hb (by rw [e])
    rw [k7, k39]
    clear k7 k39
    have k0 := hF 0 (notDst_spec (by kernel_rfl))
    have k1 := hF 1 (notDst_spec (by kernel_rfl))
    have k2 := hF 2 (notDst_spec (by kernel_rfl))
    have k3 := hF 3 (notDst_spec (by kernel_rfl))
    have k4 := hF 4 (notDst_spec (by kernel_rfl))
    have k5 := hF 5 (notDst_spec (by kernel_rfl))
    have k6 := hF 6 (notDst_spec (by kernel_rfl))
    have k8 := hF 8 (notDst_spec (by kernel_rfl))
    have k9 := hF 9 (notDst_spec (by kernel_rfl))
    have k10 := hF 10 (notDst_spec (by kernel_rfl))
    have k11 := hF 11 (notDst_spec (by kernel_rfl))
    have k12 := hF 12 (notDst_spec (by kernel_rfl))
    have k13 := hF 13 (notDst_spec (by kernel_rfl))
    have k14 := hF 14 (notDst_spec (by kernel_rfl))
    have k15 := hF 15 (notDst_spec (by kernel_rfl))
    have k16 := hF 16 (notDst_spec (by kernel_rfl))
    have k17 := hF 17 (notDst_spec (by kernel_rfl))
    have k18 := hF 18 (notDst_spec (by kernel_rfl))
    have k19 := hF 19 (notDst_spec (by kernel_rfl))
    have k20 := hF 20 (notDst_spec (by kernel_rfl))
    have k21 := hF 21 (notDst_spec (by kernel_rfl))
    have k22 := hF 22 (notDst_spec (by kernel_rfl))
    have k23 := hF 23 (notDst_spec (by kernel_rfl))
    have k24 := hF 24 (notDst_spec (by kernel_rfl))
    have k25 := hF 25 (notDst_spec (by kernel_rfl))
    have k26 := hF 26 (notDst_spec (by kernel_rfl))
    have k27 := hF 27 (notDst_spec (by kernel_rfl))
    have k28 := hF 28 (notDst_spec (by kernel_rfl))
    have k29 := hF 29 (notDst_spec (by kernel_rfl))
    have k40 := hF 40 (notDst_spec (by kernel_rfl))
    have k41 := hF 41 (notDst_spec (by kernel_rfl))
    have k42 := hF 42 (notDst_spec (by kernel_rfl))
    have k43 := hF 43 (notDst_spec (by kernel_rfl))
    have k44 := hF 44 (notDst_spec (by kernel_rfl))
    have k45 := hF 45 (notDst_spec (by kernel_rfl))
    have k46 := hF 46 (notDst_spec (by kernel_rfl))
    have k47 := hF 47 (notDst_spec (by kernel_rfl))
    have k48 := hF 48 (notDst_spec (by kernel_rfl))
    have k49 := hF 49 (notDst_spec (by kernel_rfl))
    have k50 := hF 50 (notDst_spec (by kernel_rfl))
    have k51 := hF 51 (notDst_spec (by kernel_rfl))
    have k52 := hF 52 (notDst_spec (by kernel_rfl))
    have k53 := hF 53 (notDst_spec (by kernel_rfl))
    have k54 := hF 54 (notDst_spec (by kernel_rfl))
    have k55 := hF 55 (notDst_spec (by kernel_rfl))
    have k56 := hF 56 (notDst_spec (by kernel_rfl))
    have k57 := hF 57 (notDst_spec (by kernel_rfl))
    have k58 := hF 58 (notDst_spec (by kernel_rfl))
    have k59 := hF 59 (notDst_spec (by kernel_rfl))
    have k60 := hF 60 (notDst_spec (by kernel_rfl))
    have k61 := hF 61 (notDst_spec (by kernel_rfl))
    have k62 := hF 62 (notDst_spec (by kernel_rfl))
    have k63 := hF 63 (notDst_spec (by kernel_rfl))
    have k64 := hF 64 (notDst_spec (by kernel_rfl))
    have k65 := hF 65 (notDst_spec (by kernel_rfl))
    have k66 := hF 66 (notDst_spec (by kernel_rfl))
    have k67 := hF 67 (notDst_spec (by kernel_rfl))
    have k68 := hF 68 (notDst_spec (by kernel_rfl))
    have k69 := hF 69 (notDst_spec (by kernel_rfl))
    have k70 := hF 70 (notDst_spec (by kernel_rfl))
    have k71 := hF 71 (notDst_spec (by kernel_rfl))
    have k72 := hF 72 (notDst_spec (by kernel_rfl))
    have k73 := hF 73 (notDst_spec (by kernel_rfl))
    have k74 := hF 74 (notDst_spec (by kernel_rfl))
    have k75 := hF 75 (notDst_spec (by kernel_rfl))
    have k76 := hF 76 (notDst_spec (by kernel_rfl))
    have k77 := hF 77 (notDst_spec (by kernel_rfl))
    have k78 := hF 78 (notDst_spec (by kernel_rfl))
    have k79 := hF 79 (notDst_spec (by kernel_rfl))
    have k80 := hF 80 (notDst_spec (by kernel_rfl))
    have k81 := hF 81 (notDst_spec (by kernel_rfl))
    have k82 := hF 82 (notDst_spec (by kernel_rfl))
    have k83 := hF 83 (notDst_spec (by kernel_rfl))
    have k84 := hF 84 (notDst_spec (by kernel_rfl))
    have k85 := hF 85 (notDst_spec (by kernel_rfl))
    have k86 := hF 86 (notDst_spec (by kernel_rfl))
    have k87 := hF 87 (notDst_spec (by kernel_rfl))
    have k88 := hF 88 (notDst_spec (by kernel_rfl))
    have k89 := hF 89 (notDst_spec (by kernel_rfl))
    have k90 := hF 90 (notDst_spec (by kernel_rfl))
    have k91 := hF 91 (notDst_spec (by kernel_rfl))
    have k92 := hF 92 (notDst_spec (by kernel_rfl))
    have k93 := hF 93 (notDst_spec (by kernel_rfl))
    have k94 := hF 94 (notDst_spec (by kernel_rfl))
    have k95 := hF 95 (notDst_spec (by kernel_rfl))
    have k96 := hF 96 (notDst_spec (by kernel_rfl))
    have k97 := hF 97 (notDst_spec (by kernel_rfl))
    have k98 := hF 98 (notDst_spec (by kernel_rfl))
    have k99 := hF 99 (notDst_spec (by kernel_rfl))
    have k100 := hF 100 (notDst_spec (by kernel_rfl))
    have k101 := hF 101 (notDst_spec (by kernel_rfl))
    have k102 := hF 102 (notDst_spec (by kernel_rfl))
    have k103 := hF 103 (notDst_spec (by kernel_rfl))
    have k104 := hF 104 (notDst_spec (by kernel_rfl))
    have k105 := hF 105 (notDst_spec (by kernel_rfl))
    have k106 := hF 106 (notDst_spec (by kernel_rfl))
    have k107 := hF 107 (notDst_spec (by kernel_rfl))
    have k108 := hF 108 (notDst_spec (by kernel_rfl))
    have k109 := hF 109 (notDst_spec (by kernel_rfl))
    have k110 := hF 110 (notDst_spec (by kernel_rfl))
    have k111 := hF 111 (notDst_spec (by kernel_rfl))
    have k112 := hF 112 (notDst_spec (by kernel_rfl))
    have k113 := hF 113 (notDst_spec (by kernel_rfl))
    have k114 := hF 114 (notDst_spec (by kernel_rfl))
    have k115 := hF 115 (notDst_spec (by kernel_rfl))
    have k116 := hF 116 (notDst_spec (by kernel_rfl))
    have k117 := hF 117 (notDst_spec (by kernel_rfl))
    have k118 := hF 118 (notDst_spec (by kernel_rfl))
    have k119 := hF 119 (notDst_spec (by kernel_rfl))
    have k120 := hF 120 (notDst_spec (by kernel_rfl))
    have k121 := hF 121 (notDst_spec (by kernel_rfl))
    have k122 := hF 122 (notDst_spec (by kernel_rfl))
    have k123 := hF 123 (notDst_spec (by kernel_rfl))
    have k124 := hF 124 (notDst_spec (by kernel_rfl))
    have k125 := hF 125 (notDst_spec (by kernel_rfl))
    have k126 := hF 126 (notDst_spec (by kernel_rfl))
    have k127 := hF 127 (notDst_spec (by kernel_rfl))
    simp only [Array.getD_eq_getD_getElem?, List.getElem?_toArray, List.getElem?_cons_succ, List.getElem?_cons_zero, Option.getD_some] at k0 k1 k2 k3 k4 k5 k6 k8 k9 k10 k11 k12 k13 k14 k15 k16 k17 k18 k19 k20 k21 k22 k23 k24 k25 k26 k27 k28 k29 k40 k41 k42 k43 k44 k45 k46 k47 k48 k49 k50 k51 k52 k53 k54 k55 k56 k57 k58 k59 k60 k61 k62 k63 k64 k65 k66 k67 k68 k69 k70 k71 k72 k73 k74 k75 k76 k77 k78 k79 k80 k81 k82 k83 k84 k85 k86 k87 k88 k89 k90 k91 k92 k93 k94 k95 k96 k97 k98 k99 k100 k101 k102 k103 k104 k105 k106 k107 k108 k109 k110 k111 k112 k113 k114 k115 k116 k117 k118 k119 k120 k121 k122 k123 k124 k125 k126 k127
    simp only [k0, k1, k2, k3, k4, k5, k6, k8, k9, k10, k11, k12, k13, k14, k15, k16, k17, k18, k19, k20, k21, k22, k23, k24, k25, k26, k27, k28, k29, k40, k41, k42, k43, k44, k45, k46, k47, k48, k49, k50, k51, k52, k53, k54, k55, k56, k57, k58, k59, k60, k61, k62, k63, k64, k65, k66, k67, k68, k69, k70, k71, k72, k73, k74, k75, k76, k77, k78, k79, k80, k81, k82, k83, k84, k85, k86, k87, k88, k89, k90, k91, k92, k93, k94, k95, k96, k97, k98, k99, k100, k101, k102, k103, k104, k105, k106, k107, k108, k109, k110, k111, k112, k113, k114, k115, k116, k117, k118, k119, k120, k121, k122, k123, k124, k125, k126, k127]
    clear k0 k1 k2 k3 k4 k5 k6 k8 k9 k10 k11 k12 k13 k14 k15 k16 k17 k18 k19 k20 k21 k22 k23 k24 k25 k26 k27 k28 k29 k40 k41 k42 k43 k44 k45 k46 k47 k48 k49 k50 k51 k52 k53 k54 k55 k56 k57 k58 k59 k60 k61 k62 k63 k64 k65 k66 k67 k68 k69 k70 k71 k72 k73 k74 k75 k76 k77 k78 k79 k80 k81 k82 k83 k84 k85 k86 k87 k88 k89 k90 k91 k92 k93 k94 k95 k96 k97 k98 k99 k100 k101 k102 k103 k104 k105 k106 k107 k108 k109 k110 k111 k112 k113 k114 k115 k116 k117 k118 k119 k120 k121 k122 k123 k124 k125 k126 k127
    clear hF hV hU hsz
    replace rg : RowAt w g TFd [.int .i64 0, .int .i64 0, .int .i64 0, .int .i64 0, .int .i64 0, .slice none 0 0, .slice none 0 0] := rg
    generalize resP G sets A b1 b2 = f at TR LEN ps pl v7 ⊢
    have FB := Lib.hid (fun w' hw => found_box (w' := w') (sc := sc) (lc := lc) rg (btrans BT5.below hR) (Nat.le_trans BT5.below.size hg) ps pl v7 hw)
    rw [show (Value.agg (fcells f sa sc la lc).toArray) = .agg #[.int .i64 (f.kind : Int), .int .i64 (f.why : Int), .int .i64 (f.nodes : Int), .int .i64 (f.edges : Int), .int .i64 (f.depth : Int), .slice sa f.stem.length sc, .slice la f.loop.length lc] from rfl]
    change wpAny _ _ _ _ 1 _ _ _
    have f0 := rg.free 0
    have c0 := rg.cell 0
    have f1 := rg.free 1
    have c1 := rg.cell 1
    have f2 := rg.free 2
    have c2 := rg.cell 2
    have f3 := rg.free 3
    have c3 := rg.cell 3
    have f4 := rg.free 4
    have c4 := rg.cell 4
    have f5 := rg.free 5
    have c5 := rg.cell 5
    have f6 := rg.free 6
    have c6 := rg.cell 6
    simp only [List.getElem?_cons_zero, List.getElem?_cons_succ] at c0 c1 c2 c3 c4 c5 c6
    have hrp := Lib.hid (rp5.below hR)
    have hng : pb ≠ g := by have := rp5.lt; omega
    refine wpAny_ready (rs := [11]) (by kernel_rfl) (by simp) ?_
    refine AllReady.cons (i := 11) rfl (fun K hK => ?_) AllReady.nil
    go_simp
    refine hK _ _ ?_
    refine ⟨by kernel_rfl, ?_⟩
    clear hK K f0 c0 f1 c1 f2 c2 f3 c3 f4 c4 f5 c5 f6 c6 ps pl v7
    obtain ⟨rf, hbw, ps, pl, KW⟩ := FB.out _ rfl
    have rp := hrp.out.keeps KW hng
    generalize (((((((w.setCell _ _).setCell _ _).setCell _ _).setCell _ _).setCell _ _).setCell _ _).setCell _ _) = wz at rf hbw rp ps pl KW ⊢
    clear KW FB rg hrp hng hR BT5 GRC NVC lt hb3 rp5 hg
    obtain ⟨fk, fy, fn, fe, fd, fs, fl⟩ := f
    dsimp only at TR LEN ps pl ⊢
    have c5 : wz.cell? ⟨g, 5, none⟩ = some (.slice sa fs.length sc) := rf.cell 5
    have c6 : wz.cell? ⟨g, 6, none⟩ = some (.slice la fl.length lc) := rf.cell 6
    have WT := Lib.hid (fun v => works_true v)
    rcases TR with ⟨rfl, LA⟩ | ⟨hk, rfl, rfl⟩
    rotate_left
    · rcases hk with rfl | rfl
      · have c0 : wz.cell? ⟨g, 0, none⟩ = some (.int .i64 1) := rf.cell 0
        clear rf rp
        go_wp2_with fail
        refine (WT.out _).mono ?_
        rintro e w9 ⟨rfl, hb9⟩
        go_wp2
        go_ret
        exact ⟨rfl, btrans hbw hb9⟩
      · have c0 : wz.cell? ⟨g, 0, none⟩ = some (.int .i64 3) := rf.cell 0
        clear rf rp
        go_wp2_with fail
        refine (WT.out _).mono ?_
        rintro e w9 ⟨rfl, hb9⟩
        go_wp2
        go_ret
        exact ⟨rfl, btrans hbw hb9⟩
    · have c0 : wz.cell? ⟨g, 0, none⟩ = some (.int .i64 2) := rf.cell 0
      have hfl : fl.length ≤ 1000000 := by omega
      have hfs : fs.length ≤ 1000000 := by omega
      obtain ⟨LA1, LA2, LA3, LA4, LA5⟩ := LA
      have hn0 : 0 < fl.length := List.length_pos_iff.2 LA1
      have PL := Lib.hid (plain_any wz la lc fl pl hfl)
      have hbW := Lib.hid hbw
      have rp1 := Lib.hid rp
      have rf1 := Lib.hid rf
      have ps1 := Lib.hid ps
      replace LA2 := Lib.hid LA2
      replace LA3 := Lib.hid LA3
      replace LA4 := Lib.hid LA4
      replace LA5 := Lib.hid LA5
      replace hfl := Lib.hid hfl
      replace hfs := Lib.hid hfs
      replace hn0 := Lib.hid hn0
      clear hbw rf rp ps pl LA1 LEN c5
      go_wp2_with fail
      refine PL.out.mono ?_
      rintro e w1 ⟨a1, c1, rfl, O1, hb1⟩
      have d5 : w1.cell? ⟨g, 5, none⟩ = some (.slice sa fs.length sc) := (rf1.out.below hb1).cell 5
      have PS := Lib.hid (plain_any w1 sa sc fs (ps1.out.below hb1) hfs.out)
      replace O1 := Lib.hid O1
      replace hb1 := Lib.hid hb1
      clear PL c0 c6
      go_wp2_with fail
      refine PS.out.mono ?_
      rintro e w2 ⟨a2, c2, rfl, O2, hb2⟩
      have P1 := PpsAt.of_own O1.out
      have AP := Lib.hid (PpsAt.below P1 hb2)
      have hAs : Hid (SrcAt w2 a1 (qcells fl)) := SrcAt.pps AP.out
      have O2' : Hid (OwnR w2 w1.heap.size TRq 3 a2 fs.length c2 (qcells fs)) := O2
      have hb2' := Lib.hid hb2
      have hN : Hid (fs.length + fl.length ≤ 2000000) := by have := hfl.out; have := hfs.out; show _ ≤ _; omega
      clear O2 hb2 P1 PS d5
      have hO2 : Hid (∀ j, (Value.slice a2 fs.length c2).ownBlock = some j → w1.heap.size ≤ j) := fun j hj => (OwnR.lt O2'.out hj).1
      go_wp2_with (at_builtin; refine wp_appG rfl _ _ 52 TRq (.agg #[.int .i64 0, .int .i64 0, .int .i64 0]) 3 24 rfl Try.underlying52 infoRq rfl (by decide) w1.heap.size a2 fs.length c2 (qcells fs) rfl O2'.out a1 fl.length c1 (qcells fl) rfl (by rw [qcells_len]) hAs.out (qcells_one fl) (by have := hN.out; unfold maxLen; omega) (by have := hN.out; omega) hb2'.out.size ?_)
      intro a3 c3 w4' hO4 hg4
      have hb4 : Below w1.heap.size w1 w4' := bgrown hb2'.out hg4 (fun j hj => hO2.out j hj)
      have P4 : PpsAt w4' a3 (fs ++ fl) := by
        refine PpsAt.of_own (base := w1.heap.size) (e := TRq) (cap := c3) ?_
        unfold OwnQ
        rw [List.length_append, qcells_append]
        exact hO4
      have P1 := PpsAt.below (PpsAt.of_own O1.out) hb4
      have hbw4 := Lib.hid (btrans hb1.out hb4)
      have rp4 := Lib.hid (rp1.out.below hbw4.out)
      obtain ⟨L', hL'⟩ : ∃ L' : List PP, L' = fs ++ fl := ⟨_, rfl⟩
      have hlen : fs.length + fl.length = L'.length := by rw [hL', List.length_append]
      rw [← hL'] at P4
      rw [hlen]
      obtain ⟨m, hm⟩ : ∃ m, L'.length = m + 1 := ⟨L'.length - 1, by have := hn0.out; omega⟩
      obtain ⟨n, hn⟩ : ∃ n, fl.length = n + 1 := ⟨fl.length - 1, by have := hn0.out; omega⟩
      obtain ⟨b1', o1, rfl, hlt1, z0, z1, z2⟩ := P1.at 0 (by omega)
      obtain ⟨b3, o3, rfl, hlt3, x0, x1, x2⟩ := P4.at 0 (by omega)
      obtain ⟨b3', o3', e3, _, y0, y1, y2⟩ := P4.at m (by omega)
      cases e3
      have hf0 : Hid (L'[0]'(by omega) ∈ firstP G A) := by
        refine LA3.out _ ?_
        rw [← hL', List.head?_eq_getElem?, List.getElem?_eq_getElem (by omega)]
      have hnx : Hid (fl[0]'(by omega) ∈ nextP G sets A (L'[m]'(by omega))) := by
        refine LA4.out _ _ ?_ ?_
        · have e9 : L'.length - 1 = m := by omega
          rw [← hL', List.getLast?_eq_getElem?, e9, List.getElem?_eq_getElem (by omega)]
        · rw [List.head?_eq_getElem?, List.getElem?_eq_getElem (by omega)]
      have hlk : Hid (∀ i (hi : i + 1 < L'.length), L'[i + 1] ∈ nextP G sets A L'[i]) := fun i hi => by
        have := LA2.out i L'[i] L'[i + 1]
        rw [← hL'] at this
        exact this (List.getElem?_eq_getElem _) (List.getElem?_eq_getElem _)
      have hany : Hid (fl.any (inP G sets A) = true) := by
        obtain ⟨x, hx1, hx2⟩ := LA5.out
        exact List.any_eq_true.2 ⟨x, hx1, hx2⟩
      generalize L'[0]'(by omega) = u at x0 x1 x2 hf0
      generalize L'[m]'(by omega) = y at y0 y1 y2 hnx
      generalize fl[0]'(by omega) = z at z0 z1 z2 hnx
      simp only [Nat.zero_mul, Nat.add_zero] at x0 x1 x2 z0 z1 z2
      rw [hm, hn]
      have PA := Lib.hid P4
      have PB := Lib.hid P1
      have hmI : (m : Int) ≤ 2000000 := by have := hN.out; omega
      have hnI : (n : Int) ≤ 1000000 := by have := hfl.out; omega
      replace hm := Lib.hid hm
      replace hn := Lib.hid hn
      replace hL' := Lib.hid hL'
      clear hlen O2' hAs hO4 hg4 hO2 hb4 AP hb2' LA2 LA3 LA4 LA5 P4 P1 rp1 rf1 ps1 hb1 O1 hlt1 hlt3 hN
      obtain ⟨w4, hw4⟩ : ∃ w4, w4 = w4' := ⟨_, rfl⟩
      subst hw4
      go_upto_region 11 with (fail)
      refine wp_region_kp (by kernel_rfl) 27 [.fix (.slice (some ⟨b1', o1, none⟩) (n + 1) c1), .fix (.int .i64 ((n : Int) + 1)), .fix (.bool false), .fix (.bool false), .fix (.agg #[.slice ai G.init.length ci, .slice ae G.edges.length ce, .slice al G.labels.length cl, .slice as_ sets.length cs, .int .i64 A.sets, .slice bi A.init.length di, .slice bn A.nodes.length dn]), Kp.pps (firstP G A), .fix (.slice (some ⟨b3, o3, none⟩) (m + 1) c3), .fix (.pointer (some ⟨b3, o3, none⟩)), .fix (.agg #[.int .i64 u.node, .int .i64 u.state, .int .i64 u.turn]), .fix (.bool true), .fix (.bool false), .fix (.bool false), .fix (.bool false), .fix (.agg #[.slice ai G.init.length ci, .slice ae G.edges.length ce, .slice al G.labels.length cl, .slice as_ sets.length cs, .int .i64 A.sets, .slice bi A.init.length di, .slice bn A.nodes.length dn]), .fix (.slice (some ⟨b3, o3, none⟩) (m + 1) c3), .fix (.slice (some ⟨b3, o3, none⟩) (m + 1) c3), .fix (.int .i64 ((m : Int) + 1)), .fix (.int .i64 (m : Int)), .fix (.pointer (some ⟨b3, o3 + m * 3, none⟩)), .fix (.agg #[.int .i64 y.node, .int .i64 y.state, .int .i64 y.turn]), Kp.pps (nextP G sets A y), .fix (.slice (some ⟨b1', o1, none⟩) (n + 1) c1), .fix (.pointer (some ⟨b1', o1, none⟩)), .fix (.agg #[.int .i64 z.node, .int .i64 z.state, .int .i64 z.turn]), .fix (.bool true), .fix (.bool false), .fix (.bool false)] (by kernel_rfl) (by kernel_rfl) (by kernel_rfl) ?_ ?_
      · intro i hi
        match i, hi with
        | 0, _ =>
          intro o ho ac w' hR hF hD K hK
          simp only [List.getElem?_toArray, List.getElem?_cons_zero, Option.some.injEq] at ho
          subst ho
          have e8 : ac.tmps.getD 8 undef = .slice (some ⟨b1', o1, none⟩) (n + 1) c1 := hF 8 (notDst_spec (by kernel_rfl))
          have d8 := (Array.getD_eq_getD_getElem? (xs := ac.tmps) (i := 8) (d := undef)).symm.trans e8
          clear hD hF
          go_simp
          exact hK _ _ (Below.refl _ _) rfl
        | 1, _ =>
          intro o ho ac w' hR hF hD K hK
          simp only [List.getElem?_toArray, List.getElem?_cons_zero, List.getElem?_cons_succ, Option.some.injEq] at ho
          subst ho
          have e62 : ac.tmps.getD 62 undef = .slice (some ⟨b1', o1, none⟩) (n + 1) c1 := hD 0 (dep_spec (by kernel_rfl)) 62 rfl
          have d62 := (Array.getD_eq_getD_getElem? (xs := ac.tmps) (i := 62) (d := undef)).symm.trans e62
          clear hD hF
          go_simp
          exact hK _ _ (Below.refl _ _) rfl
        | 2, _ =>
          intro o ho ac w' hR hF hD K hK
          simp only [List.getElem?_toArray, List.getElem?_cons_zero, List.getElem?_cons_succ, Option.some.injEq] at ho
          subst ho
          have e63 : ac.tmps.getD 63 undef = .int .i64 ((n : Int) + 1) := hD 1 (dep_spec (by kernel_rfl)) 63 rfl
          have d63 := (Array.getD_eq_getD_getElem? (xs := ac.tmps) (i := 63) (d := undef)).symm.trans e63
          clear hD hF
          go_simp
          exact hK _ _ (Below.refl _ _) rfl
        | 3, _ =>
          intro o ho ac w' hR hF hD K hK
          simp only [List.getElem?_toArray, List.getElem?_cons_zero, List.getElem?_cons_succ, Option.some.injEq] at ho
          subst ho
          have e64 : ac.tmps.getD 64 undef = .bool false := hD 2 (dep_spec (by kernel_rfl)) 64 rfl
          have g64 := getD_bool e64
          have d64 := (Array.getD_eq_getD_getElem? (xs := ac.tmps) (i := 64) (d := undef)).symm.trans e64
          clear hD hF
          go_simp
          exact hK _ _ (Below.refl _ _) rfl
        | 4, _ =>
          intro o ho ac w' hR hF hD K hK
          simp only [List.getElem?_toArray, List.getElem?_cons_zero, List.getElem?_cons_succ, Option.some.injEq] at ho
          subst ho
          have e5 : ac.tmps.getD 5 undef = .pointer (some ⟨pb, 0, none⟩) := hF 5 (notDst_spec (by kernel_rfl))
          have d5 := (Array.getD_eq_getD_getElem? (xs := ac.tmps) (i := 5) (d := undef)).symm.trans e5
          have e65 : ac.tmps.getD 65 undef = .bool false := hD 3 (dep_spec (by kernel_rfl)) 65 rfl
          have g65 := getD_bool e65
          have d65 := (Array.getD_eq_getD_getElem? (xs := ac.tmps) (i := 65) (d := undef)).symm.trans e65
          clear hD hF
          have q0 : w'.cell? ⟨pb, 0, none⟩ = some (.slice ai G.init.length ci) := (rp4.out.below hR).cell 0
          have q1 : w'.cell? ⟨pb, 1, none⟩ = some (.slice ae G.edges.length ce) := (rp4.out.below hR).cell 1
          have q2 : w'.cell? ⟨pb, 2, none⟩ = some (.slice al G.labels.length cl) := (rp4.out.below hR).cell 2
          have q3 : w'.cell? ⟨pb, 3, none⟩ = some (.slice as_ sets.length cs) := (rp4.out.below hR).cell 3
          have q4 : w'.cell? ⟨pb, 4, none⟩ = some (.int .i64 A.sets) := (rp4.out.below hR).cell 4
          have q5 : w'.cell? ⟨pb, 5, none⟩ = some (.slice bi A.init.length di) := (rp4.out.below hR).cell 5
          have q6 : w'.cell? ⟨pb, 6, none⟩ = some (.slice bn A.nodes.length dn) := (rp4.out.below hR).cell 6
          go_simp
          exact hK _ _ (Below.refl _ _) rfl
        | 5, _ =>
          intro o ho ac w' hR hF hD K hK
          simp only [List.getElem?_toArray, List.getElem?_cons_zero, List.getElem?_cons_succ, Option.some.injEq] at ho
          subst ho
          have e65 : ac.tmps.getD 65 undef = .bool false := hD 3 (dep_spec (by kernel_rfl)) 65 rfl
          have g65 := getD_bool e65
          have d65 := (Array.getD_eq_getD_getElem? (xs := ac.tmps) (i := 65) (d := undef)).symm.trans e65
          have e66 : ac.tmps.getD 66 undef = .agg #[.slice ai G.init.length ci, .slice ae G.edges.length ce, .slice al G.labels.length cl, .slice as_ sets.length cs, .int .i64 A.sets, .slice bi A.init.length di, .slice bn A.nodes.length dn] := hD 4 (dep_spec (by kernel_rfl)) 66 rfl
          have d66 := (Array.getD_eq_getD_getElem? (xs := ac.tmps) (i := 66) (d := undef)).symm.trans e66
          clear hD hF
          go_simp
          refine (rfirst_any w' ⟨ai, ae, al, as_, bi, bn, ci, ce, cl, cs, di, dn⟩ G sets A (RPA.out w' (btrans hbW.out (btrans hbw4.out hR)))).mono ?_
          rintro e w6 ⟨a6, c6, rfl, h6, hb6⟩
          exact hK _ _ hb6 ⟨a6, c6, rfl, PpsAt.of_own h6⟩
        | 6, _ =>
          intro o ho ac w' hR hF hD K hK
          simp only [List.getElem?_toArray, List.getElem?_cons_zero, List.getElem?_cons_succ, Option.some.injEq] at ho
          subst ho
          have e9 : ac.tmps.getD 9 undef = .slice (some ⟨b3, o3, none⟩) (m + 1) c3 := hF 9 (notDst_spec (by kernel_rfl))
          have d9 := (Array.getD_eq_getD_getElem? (xs := ac.tmps) (i := 9) (d := undef)).symm.trans e9
          have e65 : ac.tmps.getD 65 undef = .bool false := hD 3 (dep_spec (by kernel_rfl)) 65 rfl
          have g65 := getD_bool e65
          have d65 := (Array.getD_eq_getD_getElem? (xs := ac.tmps) (i := 65) (d := undef)).symm.trans e65
          clear hD hF
          go_simp
          exact hK _ _ (Below.refl _ _) rfl
        | 7, _ =>
          intro o ho ac w' hR hF hD K hK
          simp only [List.getElem?_toArray, List.getElem?_cons_zero, List.getElem?_cons_succ, Option.some.injEq] at ho
          subst ho
          have e65 : ac.tmps.getD 65 undef = .bool false := hD 3 (dep_spec (by kernel_rfl)) 65 rfl
          have g65 := getD_bool e65
          have d65 := (Array.getD_eq_getD_getElem? (xs := ac.tmps) (i := 65) (d := undef)).symm.trans e65
          have e68 : ac.tmps.getD 68 undef = .slice (some ⟨b3, o3, none⟩) (m + 1) c3 := hD 6 (dep_spec (by kernel_rfl)) 68 rfl
          have d68 := (Array.getD_eq_getD_getElem? (xs := ac.tmps) (i := 68) (d := undef)).symm.trans e68
          clear hD hF
          go_simp
          exact hK _ _ (Below.refl _ _) rfl
        | 8, _ =>
          intro o ho ac w' hR hF hD K hK
          simp only [List.getElem?_toArray, List.getElem?_cons_zero, List.getElem?_cons_succ, Option.some.injEq] at ho
          subst ho
          have e65 : ac.tmps.getD 65 undef = .bool false := hD 3 (dep_spec (by kernel_rfl)) 65 rfl
          have g65 := getD_bool e65
          have d65 := (Array.getD_eq_getD_getElem? (xs := ac.tmps) (i := 65) (d := undef)).symm.trans e65
          have e69 : ac.tmps.getD 69 undef = .pointer (some ⟨b3, o3, none⟩) := hD 7 (dep_spec (by kernel_rfl)) 69 rfl
          have d69 := (Array.getD_eq_getD_getElem? (xs := ac.tmps) (i := 69) (d := undef)).symm.trans e69
          clear hD hF
          have q0 : w'.cell? ⟨b3, o3, none⟩ = some (.int .i64 u.node) := bcell hR x0
          have q1 : w'.cell? ⟨b3, o3 + 1, none⟩ = some (.int .i64 u.state) := bcell hR x1
          have q2 : w'.cell? ⟨b3, o3 + 2, none⟩ = some (.int .i64 u.turn) := bcell hR x2
          go_simp
          exact hK _ _ (Below.refl _ _) rfl
        | 9, _ =>
          intro o ho ac w' hR hF hD K hK
          simp only [List.getElem?_toArray, List.getElem?_cons_zero, List.getElem?_cons_succ, Option.some.injEq] at ho
          subst ho
          have e65 : ac.tmps.getD 65 undef = .bool false := hD 3 (dep_spec (by kernel_rfl)) 65 rfl
          have g65 := getD_bool e65
          have d65 := (Array.getD_eq_getD_getElem? (xs := ac.tmps) (i := 65) (d := undef)).symm.trans e65
          have y67 := hD 5 (dep_spec (by kernel_rfl)) 67 rfl
          obtain ⟨a6, c6, e67, h6⟩ := y67
          have d67 := (Array.getD_eq_getD_getElem? (xs := ac.tmps) (i := 67) (d := undef)).symm.trans e67
          have e70 : ac.tmps.getD 70 undef = .agg #[.int .i64 u.node, .int .i64 u.state, .int .i64 u.turn] := hD 8 (dep_spec (by kernel_rfl)) 70 rfl
          have d70 := (Array.getD_eq_getD_getElem? (xs := ac.tmps) (i := 70) (d := undef)).symm.trans e70
          clear hD hF
          go_simp
          refine (has_any w' a6 c6 (firstP G A) h6 u (by have := hfl4.out; omega)).mono ?_
          rintro e w6 ⟨rfl, hb6⟩
          exact hK _ _ hb6 (congrArg Value.bool (decide_eq_true hf0.out))
        | 10, _ =>
          intro o ho ac w' hR hF hD K hK
          simp only [List.getElem?_toArray, List.getElem?_cons_zero, List.getElem?_cons_succ, Option.some.injEq] at ho
          subst ho
          have e65 : ac.tmps.getD 65 undef = .bool false := hD 3 (dep_spec (by kernel_rfl)) 65 rfl
          have g65 := getD_bool e65
          have d65 := (Array.getD_eq_getD_getElem? (xs := ac.tmps) (i := 65) (d := undef)).symm.trans e65
          have e71 : ac.tmps.getD 71 undef = .bool true := hD 9 (dep_spec (by kernel_rfl)) 71 rfl
          have g71 := getD_bool e71
          have d71 := (Array.getD_eq_getD_getElem? (xs := ac.tmps) (i := 71) (d := undef)).symm.trans e71
          clear hD hF
          go_simp
          exact hK _ _ (Below.refl _ _) rfl
        | 11, _ =>
          intro o ho ac w' hR hF hD K hK
          simp only [List.getElem?_toArray, List.getElem?_cons_zero, List.getElem?_cons_succ, Option.some.injEq] at ho
          subst ho
          have e65 : ac.tmps.getD 65 undef = .bool false := hD 3 (dep_spec (by kernel_rfl)) 65 rfl
          have g65 := getD_bool e65
          have d65 := (Array.getD_eq_getD_getElem? (xs := ac.tmps) (i := 65) (d := undef)).symm.trans e65
          have e72 : ac.tmps.getD 72 undef = .bool false := hD 10 (dep_spec (by kernel_rfl)) 72 rfl
          have g72 := getD_bool e72
          have d72 := (Array.getD_eq_getD_getElem? (xs := ac.tmps) (i := 72) (d := undef)).symm.trans e72
          clear hD hF
          go_simp
          exact hK _ _ (Below.refl _ _) rfl
        | 12, _ =>
          intro o ho ac w' hR hF hD K hK
          simp only [List.getElem?_toArray, List.getElem?_cons_zero, List.getElem?_cons_succ, Option.some.injEq] at ho
          subst ho
          have e71 : ac.tmps.getD 71 undef = .bool true := hD 9 (dep_spec (by kernel_rfl)) 71 rfl
          have g71 := getD_bool e71
          have d71 := (Array.getD_eq_getD_getElem? (xs := ac.tmps) (i := 71) (d := undef)).symm.trans e71
          have e73 : ac.tmps.getD 73 undef = .bool false := hD 11 (dep_spec (by kernel_rfl)) 73 rfl
          have g73 := getD_bool e73
          have d73 := (Array.getD_eq_getD_getElem? (xs := ac.tmps) (i := 73) (d := undef)).symm.trans e73
          clear hD hF
          go_simp
          exact hK _ _ (Below.refl _ _) rfl
        | 13, _ =>
          intro o ho ac w' hR hF hD K hK
          simp only [List.getElem?_toArray, List.getElem?_cons_zero, List.getElem?_cons_succ, Option.some.injEq] at ho
          subst ho
          have e5 : ac.tmps.getD 5 undef = .pointer (some ⟨pb, 0, none⟩) := hF 5 (notDst_spec (by kernel_rfl))
          have d5 := (Array.getD_eq_getD_getElem? (xs := ac.tmps) (i := 5) (d := undef)).symm.trans e5
          have e74 : ac.tmps.getD 74 undef = .bool false := hD 12 (dep_spec (by kernel_rfl)) 74 rfl
          have g74 := getD_bool e74
          have d74 := (Array.getD_eq_getD_getElem? (xs := ac.tmps) (i := 74) (d := undef)).symm.trans e74
          clear hD hF
          have q0 : w'.cell? ⟨pb, 0, none⟩ = some (.slice ai G.init.length ci) := (rp4.out.below hR).cell 0
          have q1 : w'.cell? ⟨pb, 1, none⟩ = some (.slice ae G.edges.length ce) := (rp4.out.below hR).cell 1
          have q2 : w'.cell? ⟨pb, 2, none⟩ = some (.slice al G.labels.length cl) := (rp4.out.below hR).cell 2
          have q3 : w'.cell? ⟨pb, 3, none⟩ = some (.slice as_ sets.length cs) := (rp4.out.below hR).cell 3
          have q4 : w'.cell? ⟨pb, 4, none⟩ = some (.int .i64 A.sets) := (rp4.out.below hR).cell 4
          have q5 : w'.cell? ⟨pb, 5, none⟩ = some (.slice bi A.init.length di) := (rp4.out.below hR).cell 5
          have q6 : w'.cell? ⟨pb, 6, none⟩ = some (.slice bn A.nodes.length dn) := (rp4.out.below hR).cell 6
          go_simp
          exact hK _ _ (Below.refl _ _) rfl
        | 14, _ =>
          intro o ho ac w' hR hF hD K hK
          simp only [List.getElem?_toArray, List.getElem?_cons_zero, List.getElem?_cons_succ, Option.some.injEq] at ho
          subst ho
          have e9 : ac.tmps.getD 9 undef = .slice (some ⟨b3, o3, none⟩) (m + 1) c3 := hF 9 (notDst_spec (by kernel_rfl))
          have d9 := (Array.getD_eq_getD_getElem? (xs := ac.tmps) (i := 9) (d := undef)).symm.trans e9
          have e74 : ac.tmps.getD 74 undef = .bool false := hD 12 (dep_spec (by kernel_rfl)) 74 rfl
          have g74 := getD_bool e74
          have d74 := (Array.getD_eq_getD_getElem? (xs := ac.tmps) (i := 74) (d := undef)).symm.trans e74
          clear hD hF
          go_simp
          exact hK _ _ (Below.refl _ _) rfl
        | 15, _ =>
          intro o ho ac w' hR hF hD K hK
          simp only [List.getElem?_toArray, List.getElem?_cons_zero, List.getElem?_cons_succ, Option.some.injEq] at ho
          subst ho
          have e9 : ac.tmps.getD 9 undef = .slice (some ⟨b3, o3, none⟩) (m + 1) c3 := hF 9 (notDst_spec (by kernel_rfl))
          have d9 := (Array.getD_eq_getD_getElem? (xs := ac.tmps) (i := 9) (d := undef)).symm.trans e9
          have e74 : ac.tmps.getD 74 undef = .bool false := hD 12 (dep_spec (by kernel_rfl)) 74 rfl
          have g74 := getD_bool e74
          have d74 := (Array.getD_eq_getD_getElem? (xs := ac.tmps) (i := 74) (d := undef)).symm.trans e74
          clear hD hF
          go_simp
          exact hK _ _ (Below.refl _ _) rfl
        | 16, _ =>
          intro o ho ac w' hR hF hD K hK
          simp only [List.getElem?_toArray, List.getElem?_cons_zero, List.getElem?_cons_succ, Option.some.injEq] at ho
          subst ho
          have e74 : ac.tmps.getD 74 undef = .bool false := hD 12 (dep_spec (by kernel_rfl)) 74 rfl
          have g74 := getD_bool e74
          have d74 := (Array.getD_eq_getD_getElem? (xs := ac.tmps) (i := 74) (d := undef)).symm.trans e74
          have e77 : ac.tmps.getD 77 undef = .slice (some ⟨b3, o3, none⟩) (m + 1) c3 := hD 15 (dep_spec (by kernel_rfl)) 77 rfl
          have d77 := (Array.getD_eq_getD_getElem? (xs := ac.tmps) (i := 77) (d := undef)).symm.trans e77
          clear hD hF
          go_simp
          exact hK _ _ (Below.refl _ _) rfl
        | 17, _ =>
          intro o ho ac w' hR hF hD K hK
          simp only [List.getElem?_toArray, List.getElem?_cons_zero, List.getElem?_cons_succ, Option.some.injEq] at ho
          subst ho
          have e74 : ac.tmps.getD 74 undef = .bool false := hD 12 (dep_spec (by kernel_rfl)) 74 rfl
          have g74 := getD_bool e74
          have d74 := (Array.getD_eq_getD_getElem? (xs := ac.tmps) (i := 74) (d := undef)).symm.trans e74
          have e78 : ac.tmps.getD 78 undef = .int .i64 ((m : Int) + 1) := hD 16 (dep_spec (by kernel_rfl)) 78 rfl
          have d78 := (Array.getD_eq_getD_getElem? (xs := ac.tmps) (i := 78) (d := undef)).symm.trans e78
          clear hD hF
          have hw1 : IntKind.i64.wrap (m : Int) = (m : Int) := IntWalk.i64_in _ (by omega)
          go_simp
          exact hK _ _ (Below.refl _ _) rfl
        | 18, _ =>
          intro o ho ac w' hR hF hD K hK
          simp only [List.getElem?_toArray, List.getElem?_cons_zero, List.getElem?_cons_succ, Option.some.injEq] at ho
          subst ho
          have e74 : ac.tmps.getD 74 undef = .bool false := hD 12 (dep_spec (by kernel_rfl)) 74 rfl
          have g74 := getD_bool e74
          have d74 := (Array.getD_eq_getD_getElem? (xs := ac.tmps) (i := 74) (d := undef)).symm.trans e74
          have e76 : ac.tmps.getD 76 undef = .slice (some ⟨b3, o3, none⟩) (m + 1) c3 := hD 14 (dep_spec (by kernel_rfl)) 76 rfl
          have d76 := (Array.getD_eq_getD_getElem? (xs := ac.tmps) (i := 76) (d := undef)).symm.trans e76
          have e79 : ac.tmps.getD 79 undef = .int .i64 (m : Int) := hD 17 (dep_spec (by kernel_rfl)) 79 rfl
          have d79 := (Array.getD_eq_getD_getElem? (xs := ac.tmps) (i := 79) (d := undef)).symm.trans e79
          clear hD hF
          have hmm : (m : Int) < (m : Int) + 1 := by omega
          go_simp
          exact hK _ _ (Below.refl _ _) rfl
        | 19, _ =>
          intro o ho ac w' hR hF hD K hK
          simp only [List.getElem?_toArray, List.getElem?_cons_zero, List.getElem?_cons_succ, Option.some.injEq] at ho
          subst ho
          have e74 : ac.tmps.getD 74 undef = .bool false := hD 12 (dep_spec (by kernel_rfl)) 74 rfl
          have g74 := getD_bool e74
          have d74 := (Array.getD_eq_getD_getElem? (xs := ac.tmps) (i := 74) (d := undef)).symm.trans e74
          have e80 : ac.tmps.getD 80 undef = .pointer (some ⟨b3, o3 + m * 3, none⟩) := hD 18 (dep_spec (by kernel_rfl)) 80 rfl
          have d80 := (Array.getD_eq_getD_getElem? (xs := ac.tmps) (i := 80) (d := undef)).symm.trans e80
          clear hD hF
          have q0 : w'.cell? ⟨b3, o3 + m * 3, none⟩ = some (.int .i64 y.node) := bcell hR y0
          have q1 : w'.cell? ⟨b3, o3 + m * 3 + 1, none⟩ = some (.int .i64 y.state) := bcell hR y1
          have q2 : w'.cell? ⟨b3, o3 + m * 3 + 2, none⟩ = some (.int .i64 y.turn) := bcell hR y2
          go_simp
          exact hK _ _ (Below.refl _ _) rfl
        | 20, _ =>
          intro o ho ac w' hR hF hD K hK
          simp only [List.getElem?_toArray, List.getElem?_cons_zero, List.getElem?_cons_succ, Option.some.injEq] at ho
          subst ho
          have e74 : ac.tmps.getD 74 undef = .bool false := hD 12 (dep_spec (by kernel_rfl)) 74 rfl
          have g74 := getD_bool e74
          have d74 := (Array.getD_eq_getD_getElem? (xs := ac.tmps) (i := 74) (d := undef)).symm.trans e74
          have e75 : ac.tmps.getD 75 undef = .agg #[.slice ai G.init.length ci, .slice ae G.edges.length ce, .slice al G.labels.length cl, .slice as_ sets.length cs, .int .i64 A.sets, .slice bi A.init.length di, .slice bn A.nodes.length dn] := hD 13 (dep_spec (by kernel_rfl)) 75 rfl
          have d75 := (Array.getD_eq_getD_getElem? (xs := ac.tmps) (i := 75) (d := undef)).symm.trans e75
          have e81 : ac.tmps.getD 81 undef = .agg #[.int .i64 y.node, .int .i64 y.state, .int .i64 y.turn] := hD 19 (dep_spec (by kernel_rfl)) 81 rfl
          have d81 := (Array.getD_eq_getD_getElem? (xs := ac.tmps) (i := 81) (d := undef)).symm.trans e81
          clear hD hF
          go_simp
          refine (rnext_any w' ⟨ai, ae, al, as_, bi, bn, ci, ce, cl, cs, di, dn⟩ G sets A (RPA.out w' (btrans hbW.out (btrans hbw4.out hR))) y).mono ?_
          rintro e w6 ⟨a6, c6, rfl, h6, hb6⟩
          exact hK _ _ hb6 ⟨a6, c6, rfl, PpsAt.of_own h6⟩
        | 21, _ =>
          intro o ho ac w' hR hF hD K hK
          simp only [List.getElem?_toArray, List.getElem?_cons_zero, List.getElem?_cons_succ, Option.some.injEq] at ho
          subst ho
          have e8 : ac.tmps.getD 8 undef = .slice (some ⟨b1', o1, none⟩) (n + 1) c1 := hF 8 (notDst_spec (by kernel_rfl))
          have d8 := (Array.getD_eq_getD_getElem? (xs := ac.tmps) (i := 8) (d := undef)).symm.trans e8
          have e74 : ac.tmps.getD 74 undef = .bool false := hD 12 (dep_spec (by kernel_rfl)) 74 rfl
          have g74 := getD_bool e74
          have d74 := (Array.getD_eq_getD_getElem? (xs := ac.tmps) (i := 74) (d := undef)).symm.trans e74
          clear hD hF
          go_simp
          exact hK _ _ (Below.refl _ _) rfl
        | 22, _ =>
          intro o ho ac w' hR hF hD K hK
          simp only [List.getElem?_toArray, List.getElem?_cons_zero, List.getElem?_cons_succ, Option.some.injEq] at ho
          subst ho
          have e74 : ac.tmps.getD 74 undef = .bool false := hD 12 (dep_spec (by kernel_rfl)) 74 rfl
          have g74 := getD_bool e74
          have d74 := (Array.getD_eq_getD_getElem? (xs := ac.tmps) (i := 74) (d := undef)).symm.trans e74
          have e83 : ac.tmps.getD 83 undef = .slice (some ⟨b1', o1, none⟩) (n + 1) c1 := hD 21 (dep_spec (by kernel_rfl)) 83 rfl
          have d83 := (Array.getD_eq_getD_getElem? (xs := ac.tmps) (i := 83) (d := undef)).symm.trans e83
          clear hD hF
          go_simp
          exact hK _ _ (Below.refl _ _) rfl
        | 23, _ =>
          intro o ho ac w' hR hF hD K hK
          simp only [List.getElem?_toArray, List.getElem?_cons_zero, List.getElem?_cons_succ, Option.some.injEq] at ho
          subst ho
          have e74 : ac.tmps.getD 74 undef = .bool false := hD 12 (dep_spec (by kernel_rfl)) 74 rfl
          have g74 := getD_bool e74
          have d74 := (Array.getD_eq_getD_getElem? (xs := ac.tmps) (i := 74) (d := undef)).symm.trans e74
          have e84 : ac.tmps.getD 84 undef = .pointer (some ⟨b1', o1, none⟩) := hD 22 (dep_spec (by kernel_rfl)) 84 rfl
          have d84 := (Array.getD_eq_getD_getElem? (xs := ac.tmps) (i := 84) (d := undef)).symm.trans e84
          clear hD hF
          have q0 : w'.cell? ⟨b1', o1, none⟩ = some (.int .i64 z.node) := bcell hR z0
          have q1 : w'.cell? ⟨b1', o1 + 1, none⟩ = some (.int .i64 z.state) := bcell hR z1
          have q2 : w'.cell? ⟨b1', o1 + 2, none⟩ = some (.int .i64 z.turn) := bcell hR z2
          go_simp
          exact hK _ _ (Below.refl _ _) rfl
        | 24, _ =>
          intro o ho ac w' hR hF hD K hK
          simp only [List.getElem?_toArray, List.getElem?_cons_zero, List.getElem?_cons_succ, Option.some.injEq] at ho
          subst ho
          have e74 : ac.tmps.getD 74 undef = .bool false := hD 12 (dep_spec (by kernel_rfl)) 74 rfl
          have g74 := getD_bool e74
          have d74 := (Array.getD_eq_getD_getElem? (xs := ac.tmps) (i := 74) (d := undef)).symm.trans e74
          have y82 := hD 20 (dep_spec (by kernel_rfl)) 82 rfl
          obtain ⟨a6, c6, e82, h6⟩ := y82
          have d82 := (Array.getD_eq_getD_getElem? (xs := ac.tmps) (i := 82) (d := undef)).symm.trans e82
          have e85 : ac.tmps.getD 85 undef = .agg #[.int .i64 z.node, .int .i64 z.state, .int .i64 z.turn] := hD 23 (dep_spec (by kernel_rfl)) 85 rfl
          have d85 := (Array.getD_eq_getD_getElem? (xs := ac.tmps) (i := 85) (d := undef)).symm.trans e85
          clear hD hF
          go_simp
          refine (has_any w' a6 c6 (nextP G sets A y) h6 z (by have := hnl4.out y; omega)).mono ?_
          rintro e w6 ⟨rfl, hb6⟩
          exact hK _ _ hb6 (congrArg Value.bool (decide_eq_true hnx.out))
        | 25, _ =>
          intro o ho ac w' hR hF hD K hK
          simp only [List.getElem?_toArray, List.getElem?_cons_zero, List.getElem?_cons_succ, Option.some.injEq] at ho
          subst ho
          have e74 : ac.tmps.getD 74 undef = .bool false := hD 12 (dep_spec (by kernel_rfl)) 74 rfl
          have g74 := getD_bool e74
          have d74 := (Array.getD_eq_getD_getElem? (xs := ac.tmps) (i := 74) (d := undef)).symm.trans e74
          have e86 : ac.tmps.getD 86 undef = .bool true := hD 24 (dep_spec (by kernel_rfl)) 86 rfl
          have g86 := getD_bool e86
          have d86 := (Array.getD_eq_getD_getElem? (xs := ac.tmps) (i := 86) (d := undef)).symm.trans e86
          clear hD hF
          go_simp
          exact hK _ _ (Below.refl _ _) rfl
        | 26, _ =>
          intro o ho ac w' hR hF hD K hK
          simp only [List.getElem?_toArray, List.getElem?_cons_zero, List.getElem?_cons_succ, Option.some.injEq] at ho
          subst ho
          have e74 : ac.tmps.getD 74 undef = .bool false := hD 12 (dep_spec (by kernel_rfl)) 74 rfl
          have g74 := getD_bool e74
          have d74 := (Array.getD_eq_getD_getElem? (xs := ac.tmps) (i := 74) (d := undef)).symm.trans e74
          have e87 : ac.tmps.getD 87 undef = .bool false := hD 25 (dep_spec (by kernel_rfl)) 87 rfl
          have g87 := getD_bool e87
          have d87 := (Array.getD_eq_getD_getElem? (xs := ac.tmps) (i := 87) (d := undef)).symm.trans e87
          clear hD hF
          go_simp
          exact hK _ _ (Below.refl _ _) rfl
        | k + 27, hk => omega
      · rintro ⟨tm, df⟩ w5' hdf hsz hF hR hV
        obtain rfl : df = [] := hdf
        obtain ⟨q, rfl⟩ := frame128 tm hsz
        have k88 : q 88 = .bool false := hV 26 88 (by decide) rfl
        rw [k88]
        clear k88
        have k0 := hF 0 (notDst_spec (by kernel_rfl))
        have k1 := hF 1 (notDst_spec (by kernel_rfl))
        have k2 := hF 2 (notDst_spec (by kernel_rfl))
        have k3 := hF 3 (notDst_spec (by kernel_rfl))
        have k4 := hF 4 (notDst_spec (by kernel_rfl))
        have k5 := hF 5 (notDst_spec (by kernel_rfl))
        have k6 := hF 6 (notDst_spec (by kernel_rfl))
        have k7 := hF 7 (notDst_spec (by kernel_rfl))
        have k8 := hF 8 (notDst_spec (by kernel_rfl))
        have k9 := hF 9 (notDst_spec (by kernel_rfl))
        have k10 := hF 10 (notDst_spec (by kernel_rfl))
        have k11 := hF 11 (notDst_spec (by kernel_rfl))
        have k12 := hF 12 (notDst_spec (by kernel_rfl))
        have k13 := hF 13 (notDst_spec (by kernel_rfl))
        have k14 := hF 14 (notDst_spec (by kernel_rfl))
        have k15 := hF 15 (notDst_spec (by kernel_rfl))
        have k16 := hF 16 (notDst_spec (by kernel_rfl))
        have k17 := hF 17 (notDst_spec (by kernel_rfl))
        have k18 := hF 18 (notDst_spec (by kernel_rfl))
        have k19 := hF 19 (notDst_spec (by kernel_rfl))
        have k20 := hF 20 (notDst_spec (by kernel_rfl))
        have k21 := hF 21 (notDst_spec (by kernel_rfl))
        have k22 := hF 22 (notDst_spec (by kernel_rfl))
        have k23 := hF 23 (notDst_spec (by kernel_rfl))
        have k24 := hF 24 (notDst_spec (by kernel_rfl))
        have k25 := hF 25 (notDst_spec (by kernel_rfl))
        have k26 := hF 26 (notDst_spec (by kernel_rfl))
        have k27 := hF 27 (notDst_spec (by kernel_rfl))
        have k28 := hF 28 (notDst_spec (by kernel_rfl))
        have k29 := hF 29 (notDst_spec (by kernel_rfl))
        have k30 := hF 30 (notDst_spec (by kernel_rfl))
        have k31 := hF 31 (notDst_spec (by kernel_rfl))
        have k32 := hF 32 (notDst_spec (by kernel_rfl))
        have k33 := hF 33 (notDst_spec (by kernel_rfl))
        have k34 := hF 34 (notDst_spec (by kernel_rfl))
        have k35 := hF 35 (notDst_spec (by kernel_rfl))
        have k36 := hF 36 (notDst_spec (by kernel_rfl))
        have k37 := hF 37 (notDst_spec (by kernel_rfl))
        have k38 := hF 38 (notDst_spec (by kernel_rfl))
        have k39 := hF 39 (notDst_spec (by kernel_rfl))
        have k40 := hF 40 (notDst_spec (by kernel_rfl))
        have k41 := hF 41 (notDst_spec (by kernel_rfl))
        have k42 := hF 42 (notDst_spec (by kernel_rfl))
        have k43 := hF 43 (notDst_spec (by kernel_rfl))
        have k44 := hF 44 (notDst_spec (by kernel_rfl))
        have k45 := hF 45 (notDst_spec (by kernel_rfl))
        have k46 := hF 46 (notDst_spec (by kernel_rfl))
        have k47 := hF 47 (notDst_spec (by kernel_rfl))
        have k48 := hF 48 (notDst_spec (by kernel_rfl))
        have k49 := hF 49 (notDst_spec (by kernel_rfl))
        have k50 := hF 50 (notDst_spec (by kernel_rfl))
        have k51 := hF 51 (notDst_spec (by kernel_rfl))
        have k52 := hF 52 (notDst_spec (by kernel_rfl))
        have k53 := hF 53 (notDst_spec (by kernel_rfl))
        have k54 := hF 54 (notDst_spec (by kernel_rfl))
        have k55 := hF 55 (notDst_spec (by kernel_rfl))
        have k56 := hF 56 (notDst_spec (by kernel_rfl))
        have k57 := hF 57 (notDst_spec (by kernel_rfl))
        have k58 := hF 58 (notDst_spec (by kernel_rfl))
        have k59 := hF 59 (notDst_spec (by kernel_rfl))
        have k60 := hF 60 (notDst_spec (by kernel_rfl))
        have k61 := hF 61 (notDst_spec (by kernel_rfl))
        have k89 := hF 89 (notDst_spec (by kernel_rfl))
        have k90 := hF 90 (notDst_spec (by kernel_rfl))
        have k91 := hF 91 (notDst_spec (by kernel_rfl))
        have k92 := hF 92 (notDst_spec (by kernel_rfl))
        have k93 := hF 93 (notDst_spec (by kernel_rfl))
        have k94 := hF 94 (notDst_spec (by kernel_rfl))
        have k95 := hF 95 (notDst_spec (by kernel_rfl))
        have k96 := hF 96 (notDst_spec (by kernel_rfl))
        have k97 := hF 97 (notDst_spec (by kernel_rfl))
        have k98 := hF 98 (notDst_spec (by kernel_rfl))
        have k99 := hF 99 (notDst_spec (by kernel_rfl))
        have k100 := hF 100 (notDst_spec (by kernel_rfl))
        have k101 := hF 101 (notDst_spec (by kernel_rfl))
        have k102 := hF 102 (notDst_spec (by kernel_rfl))
        have k103 := hF 103 (notDst_spec (by kernel_rfl))
        have k104 := hF 104 (notDst_spec (by kernel_rfl))
        have k105 := hF 105 (notDst_spec (by kernel_rfl))
        have k106 := hF 106 (notDst_spec (by kernel_rfl))
        have k107 := hF 107 (notDst_spec (by kernel_rfl))
        have k108 := hF 108 (notDst_spec (by kernel_rfl))
        have k109 := hF 109 (notDst_spec (by kernel_rfl))
        have k110 := hF 110 (notDst_spec (by kernel_rfl))
        have k111 := hF 111 (notDst_spec (by kernel_rfl))
        have k112 := hF 112 (notDst_spec (by kernel_rfl))
        have k113 := hF 113 (notDst_spec (by kernel_rfl))
        have k114 := hF 114 (notDst_spec (by kernel_rfl))
        have k115 := hF 115 (notDst_spec (by kernel_rfl))
        have k116 := hF 116 (notDst_spec (by kernel_rfl))
        have k117 := hF 117 (notDst_spec (by kernel_rfl))
        have k118 := hF 118 (notDst_spec (by kernel_rfl))
        have k119 := hF 119 (notDst_spec (by kernel_rfl))
        have k120 := hF 120 (notDst_spec (by kernel_rfl))
        have k121 := hF 121 (notDst_spec (by kernel_rfl))
        have k122 := hF 122 (notDst_spec (by kernel_rfl))
        have k123 := hF 123 (notDst_spec (by kernel_rfl))
        have k124 := hF 124 (notDst_spec (by kernel_rfl))
        have k125 := hF 125 (notDst_spec (by kernel_rfl))
        have k126 := hF 126 (notDst_spec (by kernel_rfl))
        have k127 := hF 127 (notDst_spec (by kernel_rfl))
        simp only [Array.getD_eq_getD_getElem?, List.getElem?_toArray, List.getElem?_cons_succ, List.getElem?_cons_zero, Option.getD_some] at k0 k1 k2 k3 k4 k5 k6 k7 k8 k9 k10 k11 k12 k13 k14 k15 k16 k17 k18 k19 k20 k21 k22 k23 k24 k25 k26 k27 k28 k29 k30 k31 k32 k33 k34 k35 k36 k37 k38 k39 k40 k41 k42 k43 k44 k45 k46 k47 k48 k49 k50 k51 k52 k53 k54 k55 k56 k57 k58 k59 k60 k61 k89 k90 k91 k92 k93 k94 k95 k96 k97 k98 k99 k100 k101 k102 k103 k104 k105 k106 k107 k108 k109 k110 k111 k112 k113 k114 k115 k116 k117 k118 k119 k120 k121 k122 k123 k124 k125 k126 k127
        simp only [k0, k1, k2, k3, k4, k5, k6, k7, k8, k9, k10, k11, k12, k13, k14, k15, k16, k17, k18, k19, k20, k21, k22, k23, k24, k25, k26, k27, k28, k29, k30, k31, k32, k33, k34, k35, k36, k37, k38, k39, k40, k41, k42, k43, k44, k45, k46, k47, k48, k49, k50, k51, k52, k53, k54, k55, k56, k57, k58, k59, k60, k61, k89, k90, k91, k92, k93, k94, k95, k96, k97, k98, k99, k100, k101, k102, k103, k104, k105, k106, k107, k108, k109, k110, k111, k112, k113, k114, k115, k116, k117, k118, k119, k120, k121, k122, k123, k124, k125, k126, k127]
        clear k0 k1 k2 k3 k4 k5 k6 k7 k8 k9 k10 k11 k12 k13 k14 k15 k16 k17 k18 k19 k20 k21 k22 k23 k24 k25 k26 k27 k28 k29 k30 k31 k32 k33 k34 k35 k36 k37 k38 k39 k40 k41 k42 k43 k44 k45 k46 k47 k48 k49 k50 k51 k52 k53 k54 k55 k56 k57 k58 k59 k60 k61 k89 k90 k91 k92 k93 k94 k95 k96 k97 k98 k99 k100 k101 k102 k103 k104 k105 k106 k107 k108 k109 k110 k111 k112 k113 k114 k115 k116 k117 k118 k119 k120 k121 k122 k123 k124 k125 k126 k127
        clear hF hV hsz
        change wpAny _ _ _ _ 0 _ _ _
        refine ⟨by kernel_rfl, ?_⟩
        have lo0 := Lib.hid hR
        clear x0 x1 x2 y0 y1 y2 z0 z1 z2 hf0 hnx hR
        go_wp2
        go_loopw [4, 10] (fun bv iv wr => ∃ k : Nat, bv = .bool false ∧ k ≤ m ∧ iv = .int .i64 (k : Int) ∧ Hid (Below w4.heap.size w4 wr)) (fun _ iv _ => m - (intOf iv).toNat)
        case atStart => exact ⟨0, rfl, Nat.zero_le _, rfl, lo0⟩
        case round =>
          obtain ⟨k, rfl, hk, rfl, lo⟩ := hrel
          by_cases hkm : k < m
          · have hkI : (k : Int) + 1 < (m : Int) + 1 := by omega
            have hkI2 : (k : Int) < (m : Int) + 1 := by omega
            have hkl : k + 1 < L'.length := by have := hm.out; omega
            obtain ⟨_, _, e9, _, i0, i1, i2⟩ := (PA.out.below lo.out).at k (by omega)
            cases e9
            obtain ⟨_, _, e9, _, j0, j1, j2⟩ := (PA.out.below lo.out).at (k + 1) hkl
            cases e9
            have hpr := Lib.hid (hlk.out k hkl)
            generalize L'[k] = p at i0 i1 i2 hpr
            generalize L'[k + 1] = r at j0 j1 j2 hpr
            go_upto_region 16 with (fail)
            refine wp_region_kp (by kernel_rfl) 13 [.fix (.agg #[.slice ai G.init.length ci, .slice ae G.edges.length ce, .slice al G.labels.length cl, .slice as_ sets.length cs, .int .i64 A.sets, .slice bi A.init.length di, .slice bn A.nodes.length dn]), .fix (.slice (some ⟨b3, o3, none⟩) (m + 1) c3), .fix (.int .i64 (k : Int)), .fix (.pointer (some ⟨b3, o3 + k * 3, none⟩)), .fix (.agg #[.int .i64 p.node, .int .i64 p.state, .int .i64 p.turn]), Kp.pps (nextP G sets A p), .fix (.slice (some ⟨b3, o3, none⟩) (m + 1) c3), .fix (.int .i64 (k : Int)), .fix (.int .i64 ((k : Int) + 1)), .fix (.pointer (some ⟨b3, o3 + (k + 1) * 3, none⟩)), .fix (.agg #[.int .i64 r.node, .int .i64 r.state, .int .i64 r.turn]), .fix (.bool true), .fix (.bool false)] (by kernel_rfl) (by kernel_rfl) (by kernel_rfl) ?_ ?_
            · intro i hi
              match i, hi with
              | 0, _ =>
                intro o ho ac w' hR hF hD K hK
                simp only [List.getElem?_toArray, List.getElem?_cons_zero, Option.some.injEq] at ho
                subst ho
                have e5 : ac.tmps.getD 5 undef = .pointer (some ⟨pb, 0, none⟩) := hF 5 (notDst_spec (by kernel_rfl))
                have d5 := (Array.getD_eq_getD_getElem? (xs := ac.tmps) (i := 5) (d := undef)).symm.trans e5
                clear hD hF
                have q0 : w'.cell? ⟨pb, 0, none⟩ = some (.slice ai G.init.length ci) := (rp4.out.below (btrans lo.out hR)).cell 0
                have q1 : w'.cell? ⟨pb, 1, none⟩ = some (.slice ae G.edges.length ce) := (rp4.out.below (btrans lo.out hR)).cell 1
                have q2 : w'.cell? ⟨pb, 2, none⟩ = some (.slice al G.labels.length cl) := (rp4.out.below (btrans lo.out hR)).cell 2
                have q3 : w'.cell? ⟨pb, 3, none⟩ = some (.slice as_ sets.length cs) := (rp4.out.below (btrans lo.out hR)).cell 3
                have q4 : w'.cell? ⟨pb, 4, none⟩ = some (.int .i64 A.sets) := (rp4.out.below (btrans lo.out hR)).cell 4
                have q5 : w'.cell? ⟨pb, 5, none⟩ = some (.slice bi A.init.length di) := (rp4.out.below (btrans lo.out hR)).cell 5
                have q6 : w'.cell? ⟨pb, 6, none⟩ = some (.slice bn A.nodes.length dn) := (rp4.out.below (btrans lo.out hR)).cell 6
                go_simp
                exact hK _ _ (Below.refl _ _) rfl
              | 1, _ =>
                intro o ho ac w' hR hF hD K hK
                simp only [List.getElem?_toArray, List.getElem?_cons_zero, List.getElem?_cons_succ, Option.some.injEq] at ho
                subst ho
                have e9 : ac.tmps.getD 9 undef = .slice (some ⟨b3, o3, none⟩) (m + 1) c3 := hF 9 (notDst_spec (by kernel_rfl))
                have d9 := (Array.getD_eq_getD_getElem? (xs := ac.tmps) (i := 9) (d := undef)).symm.trans e9
                clear hD hF
                go_simp
                exact hK _ _ (Below.refl _ _) rfl
              | 2, _ =>
                intro o ho ac w' hR hF hD K hK
                simp only [List.getElem?_toArray, List.getElem?_cons_zero, List.getElem?_cons_succ, Option.some.injEq] at ho
                subst ho
                have e10 : ac.tmps.getD 10 undef = .int .i64 (k : Int) := hF 10 (notDst_spec (by kernel_rfl))
                have d10 := (Array.getD_eq_getD_getElem? (xs := ac.tmps) (i := 10) (d := undef)).symm.trans e10
                clear hD hF
                go_simp
                exact hK _ _ (Below.refl _ _) rfl
              | 3, _ =>
                intro o ho ac w' hR hF hD K hK
                simp only [List.getElem?_toArray, List.getElem?_cons_zero, List.getElem?_cons_succ, Option.some.injEq] at ho
                subst ho
                have e97 : ac.tmps.getD 97 undef = .slice (some ⟨b3, o3, none⟩) (m + 1) c3 := hD 1 (dep_spec (by kernel_rfl)) 97 rfl
                have d97 := (Array.getD_eq_getD_getElem? (xs := ac.tmps) (i := 97) (d := undef)).symm.trans e97
                have e98 : ac.tmps.getD 98 undef = .int .i64 (k : Int) := hD 2 (dep_spec (by kernel_rfl)) 98 rfl
                have d98 := (Array.getD_eq_getD_getElem? (xs := ac.tmps) (i := 98) (d := undef)).symm.trans e98
                clear hD hF
                go_simp
                exact hK _ _ (Below.refl _ _) rfl
              | 4, _ =>
                intro o ho ac w' hR hF hD K hK
                simp only [List.getElem?_toArray, List.getElem?_cons_zero, List.getElem?_cons_succ, Option.some.injEq] at ho
                subst ho
                have e99 : ac.tmps.getD 99 undef = .pointer (some ⟨b3, o3 + k * 3, none⟩) := hD 3 (dep_spec (by kernel_rfl)) 99 rfl
                have d99 := (Array.getD_eq_getD_getElem? (xs := ac.tmps) (i := 99) (d := undef)).symm.trans e99
                clear hD hF
                have q0 : w'.cell? ⟨b3, o3 + k * 3, none⟩ = some (.int .i64 p.node) := bcell hR i0
                have q1 : w'.cell? ⟨b3, o3 + k * 3 + 1, none⟩ = some (.int .i64 p.state) := bcell hR i1
                have q2 : w'.cell? ⟨b3, o3 + k * 3 + 2, none⟩ = some (.int .i64 p.turn) := bcell hR i2
                go_simp
                exact hK _ _ (Below.refl _ _) rfl
              | 5, _ =>
                intro o ho ac w' hR hF hD K hK
                simp only [List.getElem?_toArray, List.getElem?_cons_zero, List.getElem?_cons_succ, Option.some.injEq] at ho
                subst ho
                have e96 : ac.tmps.getD 96 undef = .agg #[.slice ai G.init.length ci, .slice ae G.edges.length ce, .slice al G.labels.length cl, .slice as_ sets.length cs, .int .i64 A.sets, .slice bi A.init.length di, .slice bn A.nodes.length dn] := hD 0 (dep_spec (by kernel_rfl)) 96 rfl
                have d96 := (Array.getD_eq_getD_getElem? (xs := ac.tmps) (i := 96) (d := undef)).symm.trans e96
                have e100 : ac.tmps.getD 100 undef = .agg #[.int .i64 p.node, .int .i64 p.state, .int .i64 p.turn] := hD 4 (dep_spec (by kernel_rfl)) 100 rfl
                have d100 := (Array.getD_eq_getD_getElem? (xs := ac.tmps) (i := 100) (d := undef)).symm.trans e100
                clear hD hF
                go_simp
                refine (rnext_any w' ⟨ai, ae, al, as_, bi, bn, ci, ce, cl, cs, di, dn⟩ G sets A (RPA.out w' (btrans hbW.out (btrans hbw4.out (btrans lo.out hR)))) p).mono ?_
                rintro e w6 ⟨a6, c6, rfl, h6, hb6⟩
                exact hK _ _ hb6 ⟨a6, c6, rfl, PpsAt.of_own h6⟩
              | 6, _ =>
                intro o ho ac w' hR hF hD K hK
                simp only [List.getElem?_toArray, List.getElem?_cons_zero, List.getElem?_cons_succ, Option.some.injEq] at ho
                subst ho
                have e9 : ac.tmps.getD 9 undef = .slice (some ⟨b3, o3, none⟩) (m + 1) c3 := hF 9 (notDst_spec (by kernel_rfl))
                have d9 := (Array.getD_eq_getD_getElem? (xs := ac.tmps) (i := 9) (d := undef)).symm.trans e9
                clear hD hF
                go_simp
                exact hK _ _ (Below.refl _ _) rfl
              | 7, _ =>
                intro o ho ac w' hR hF hD K hK
                simp only [List.getElem?_toArray, List.getElem?_cons_zero, List.getElem?_cons_succ, Option.some.injEq] at ho
                subst ho
                have e10 : ac.tmps.getD 10 undef = .int .i64 (k : Int) := hF 10 (notDst_spec (by kernel_rfl))
                have d10 := (Array.getD_eq_getD_getElem? (xs := ac.tmps) (i := 10) (d := undef)).symm.trans e10
                clear hD hF
                go_simp
                exact hK _ _ (Below.refl _ _) rfl
              | 8, _ =>
                intro o ho ac w' hR hF hD K hK
                simp only [List.getElem?_toArray, List.getElem?_cons_zero, List.getElem?_cons_succ, Option.some.injEq] at ho
                subst ho
                have e103 : ac.tmps.getD 103 undef = .int .i64 (k : Int) := hD 7 (dep_spec (by kernel_rfl)) 103 rfl
                have d103 := (Array.getD_eq_getD_getElem? (xs := ac.tmps) (i := 103) (d := undef)).symm.trans e103
                clear hD hF
                have hw1 : IntKind.i64.wrap ((k : Int) + 1) = (k : Int) + 1 := IntWalk.i64_in _ (by omega)
                go_simp
                exact hK _ _ (Below.refl _ _) rfl
              | 9, _ =>
                intro o ho ac w' hR hF hD K hK
                simp only [List.getElem?_toArray, List.getElem?_cons_zero, List.getElem?_cons_succ, Option.some.injEq] at ho
                subst ho
                have e102 : ac.tmps.getD 102 undef = .slice (some ⟨b3, o3, none⟩) (m + 1) c3 := hD 6 (dep_spec (by kernel_rfl)) 102 rfl
                have d102 := (Array.getD_eq_getD_getElem? (xs := ac.tmps) (i := 102) (d := undef)).symm.trans e102
                have e104 : ac.tmps.getD 104 undef = .int .i64 ((k : Int) + 1) := hD 8 (dep_spec (by kernel_rfl)) 104 rfl
                have d104 := (Array.getD_eq_getD_getElem? (xs := ac.tmps) (i := 104) (d := undef)).symm.trans e104
                clear hD hF
                have hw2 : ((k : Int) + 1).toNat = k + 1 := by omega
                go_simp
                exact hK _ _ (Below.refl _ _) rfl
              | 10, _ =>
                intro o ho ac w' hR hF hD K hK
                simp only [List.getElem?_toArray, List.getElem?_cons_zero, List.getElem?_cons_succ, Option.some.injEq] at ho
                subst ho
                have e105 : ac.tmps.getD 105 undef = .pointer (some ⟨b3, o3 + (k + 1) * 3, none⟩) := hD 9 (dep_spec (by kernel_rfl)) 105 rfl
                have d105 := (Array.getD_eq_getD_getElem? (xs := ac.tmps) (i := 105) (d := undef)).symm.trans e105
                clear hD hF
                have q0 : w'.cell? ⟨b3, o3 + (k + 1) * 3, none⟩ = some (.int .i64 r.node) := bcell hR j0
                have q1 : w'.cell? ⟨b3, o3 + (k + 1) * 3 + 1, none⟩ = some (.int .i64 r.state) := bcell hR j1
                have q2 : w'.cell? ⟨b3, o3 + (k + 1) * 3 + 2, none⟩ = some (.int .i64 r.turn) := bcell hR j2
                go_simp
                exact hK _ _ (Below.refl _ _) rfl
              | 11, _ =>
                intro o ho ac w' hR hF hD K hK
                simp only [List.getElem?_toArray, List.getElem?_cons_zero, List.getElem?_cons_succ, Option.some.injEq] at ho
                subst ho
                have y101 := hD 5 (dep_spec (by kernel_rfl)) 101 rfl
                obtain ⟨a6, c6, e101, h6⟩ := y101
                have d101 := (Array.getD_eq_getD_getElem? (xs := ac.tmps) (i := 101) (d := undef)).symm.trans e101
                have e106 : ac.tmps.getD 106 undef = .agg #[.int .i64 r.node, .int .i64 r.state, .int .i64 r.turn] := hD 10 (dep_spec (by kernel_rfl)) 106 rfl
                have d106 := (Array.getD_eq_getD_getElem? (xs := ac.tmps) (i := 106) (d := undef)).symm.trans e106
                clear hD hF
                go_simp
                refine (has_any w' a6 c6 (nextP G sets A p) h6 r (by have := hnl4.out p; omega)).mono ?_
                rintro e w6 ⟨rfl, hb6⟩
                exact hK _ _ hb6 (congrArg Value.bool (decide_eq_true hpr.out))
              | 12, _ =>
                intro o ho ac w' hR hF hD K hK
                simp only [List.getElem?_toArray, List.getElem?_cons_zero, List.getElem?_cons_succ, Option.some.injEq] at ho
                subst ho
                have e107 : ac.tmps.getD 107 undef = .bool true := hD 11 (dep_spec (by kernel_rfl)) 107 rfl
                have g107 := getD_bool e107
                have d107 := (Array.getD_eq_getD_getElem? (xs := ac.tmps) (i := 107) (d := undef)).symm.trans e107
                clear hD hF
                go_simp
                exact hK _ _ (Below.refl _ _) rfl
              | k + 13, hk => omega
            · rintro ⟨tm, df⟩ w6' hdf hsz hF hR hV
              obtain rfl : df = [] := hdf
              obtain ⟨q, rfl⟩ := frame128 tm hsz
              have k108 : q 108 = .bool false := hV 12 108 (by decide) rfl
              rw [k108]
              clear k108
              have k0 := hF 0 (notDst_spec (by kernel_rfl))
              have k1 := hF 1 (notDst_spec (by kernel_rfl))
              have k2 := hF 2 (notDst_spec (by kernel_rfl))
              have k3 := hF 3 (notDst_spec (by kernel_rfl))
              have k4 := hF 4 (notDst_spec (by kernel_rfl))
              have k5 := hF 5 (notDst_spec (by kernel_rfl))
              have k6 := hF 6 (notDst_spec (by kernel_rfl))
              have k7 := hF 7 (notDst_spec (by kernel_rfl))
              have k8 := hF 8 (notDst_spec (by kernel_rfl))
              have k9 := hF 9 (notDst_spec (by kernel_rfl))
              have k10 := hF 10 (notDst_spec (by kernel_rfl))
              have k11 := hF 11 (notDst_spec (by kernel_rfl))
              have k12 := hF 12 (notDst_spec (by kernel_rfl))
              have k13 := hF 13 (notDst_spec (by kernel_rfl))
              have k14 := hF 14 (notDst_spec (by kernel_rfl))
              have k15 := hF 15 (notDst_spec (by kernel_rfl))
              have k16 := hF 16 (notDst_spec (by kernel_rfl))
              have k17 := hF 17 (notDst_spec (by kernel_rfl))
              have k18 := hF 18 (notDst_spec (by kernel_rfl))
              have k19 := hF 19 (notDst_spec (by kernel_rfl))
              have k20 := hF 20 (notDst_spec (by kernel_rfl))
              have k21 := hF 21 (notDst_spec (by kernel_rfl))
              have k22 := hF 22 (notDst_spec (by kernel_rfl))
              have k23 := hF 23 (notDst_spec (by kernel_rfl))
              have k24 := hF 24 (notDst_spec (by kernel_rfl))
              have k25 := hF 25 (notDst_spec (by kernel_rfl))
              have k26 := hF 26 (notDst_spec (by kernel_rfl))
              have k27 := hF 27 (notDst_spec (by kernel_rfl))
              have k28 := hF 28 (notDst_spec (by kernel_rfl))
              have k29 := hF 29 (notDst_spec (by kernel_rfl))
              have k30 := hF 30 (notDst_spec (by kernel_rfl))
              have k31 := hF 31 (notDst_spec (by kernel_rfl))
              have k32 := hF 32 (notDst_spec (by kernel_rfl))
              have k33 := hF 33 (notDst_spec (by kernel_rfl))
              have k34 := hF 34 (notDst_spec (by kernel_rfl))
              have k35 := hF 35 (notDst_spec (by kernel_rfl))
              have k36 := hF 36 (notDst_spec (by kernel_rfl))
              have k37 := hF 37 (notDst_spec (by kernel_rfl))
              have k38 := hF 38 (notDst_spec (by kernel_rfl))
              have k39 := hF 39 (notDst_spec (by kernel_rfl))
              have k40 := hF 40 (notDst_spec (by kernel_rfl))
              have k41 := hF 41 (notDst_spec (by kernel_rfl))
              have k42 := hF 42 (notDst_spec (by kernel_rfl))
              have k43 := hF 43 (notDst_spec (by kernel_rfl))
              have k44 := hF 44 (notDst_spec (by kernel_rfl))
              have k45 := hF 45 (notDst_spec (by kernel_rfl))
              have k46 := hF 46 (notDst_spec (by kernel_rfl))
              have k47 := hF 47 (notDst_spec (by kernel_rfl))
              have k48 := hF 48 (notDst_spec (by kernel_rfl))
              have k49 := hF 49 (notDst_spec (by kernel_rfl))
              have k50 := hF 50 (notDst_spec (by kernel_rfl))
              have k51 := hF 51 (notDst_spec (by kernel_rfl))
              have k52 := hF 52 (notDst_spec (by kernel_rfl))
              have k53 := hF 53 (notDst_spec (by kernel_rfl))
              have k54 := hF 54 (notDst_spec (by kernel_rfl))
              have k55 := hF 55 (notDst_spec (by kernel_rfl))
              have k56 := hF 56 (notDst_spec (by kernel_rfl))
              have k57 := hF 57 (notDst_spec (by kernel_rfl))
              have k58 := hF 58 (notDst_spec (by kernel_rfl))
              have k59 := hF 59 (notDst_spec (by kernel_rfl))
              have k60 := hF 60 (notDst_spec (by kernel_rfl))
              have k61 := hF 61 (notDst_spec (by kernel_rfl))
              have k62 := hF 62 (notDst_spec (by kernel_rfl))
              have k63 := hF 63 (notDst_spec (by kernel_rfl))
              have k64 := hF 64 (notDst_spec (by kernel_rfl))
              have k65 := hF 65 (notDst_spec (by kernel_rfl))
              have k66 := hF 66 (notDst_spec (by kernel_rfl))
              have k67 := hF 67 (notDst_spec (by kernel_rfl))
              have k68 := hF 68 (notDst_spec (by kernel_rfl))
              have k69 := hF 69 (notDst_spec (by kernel_rfl))
              have k70 := hF 70 (notDst_spec (by kernel_rfl))
              have k71 := hF 71 (notDst_spec (by kernel_rfl))
              have k72 := hF 72 (notDst_spec (by kernel_rfl))
              have k73 := hF 73 (notDst_spec (by kernel_rfl))
              have k74 := hF 74 (notDst_spec (by kernel_rfl))
              have k75 := hF 75 (notDst_spec (by kernel_rfl))
              have k76 := hF 76 (notDst_spec (by kernel_rfl))
              have k77 := hF 77 (notDst_spec (by kernel_rfl))
              have k78 := hF 78 (notDst_spec (by kernel_rfl))
              have k79 := hF 79 (notDst_spec (by kernel_rfl))
              have k80 := hF 80 (notDst_spec (by kernel_rfl))
              have k81 := hF 81 (notDst_spec (by kernel_rfl))
              have k82 := hF 82 (notDst_spec (by kernel_rfl))
              have k83 := hF 83 (notDst_spec (by kernel_rfl))
              have k84 := hF 84 (notDst_spec (by kernel_rfl))
              have k85 := hF 85 (notDst_spec (by kernel_rfl))
              have k86 := hF 86 (notDst_spec (by kernel_rfl))
              have k87 := hF 87 (notDst_spec (by kernel_rfl))
              have k88 := hF 88 (notDst_spec (by kernel_rfl))
              have k89 := hF 89 (notDst_spec (by kernel_rfl))
              have k90 := hF 90 (notDst_spec (by kernel_rfl))
              have k91 := hF 91 (notDst_spec (by kernel_rfl))
              have k92 := hF 92 (notDst_spec (by kernel_rfl))
              have k93 := hF 93 (notDst_spec (by kernel_rfl))
              have k94 := hF 94 (notDst_spec (by kernel_rfl))
              have k95 := hF 95 (notDst_spec (by kernel_rfl))
              have k109 := hF 109 (notDst_spec (by kernel_rfl))
              have k110 := hF 110 (notDst_spec (by kernel_rfl))
              have k111 := hF 111 (notDst_spec (by kernel_rfl))
              have k112 := hF 112 (notDst_spec (by kernel_rfl))
              have k113 := hF 113 (notDst_spec (by kernel_rfl))
              have k114 := hF 114 (notDst_spec (by kernel_rfl))
              have k115 := hF 115 (notDst_spec (by kernel_rfl))
              have k116 := hF 116 (notDst_spec (by kernel_rfl))
              have k117 := hF 117 (notDst_spec (by kernel_rfl))
              have k118 := hF 118 (notDst_spec (by kernel_rfl))
              have k119 := hF 119 (notDst_spec (by kernel_rfl))
              have k120 := hF 120 (notDst_spec (by kernel_rfl))
              have k121 := hF 121 (notDst_spec (by kernel_rfl))
              have k122 := hF 122 (notDst_spec (by kernel_rfl))
              have k123 := hF 123 (notDst_spec (by kernel_rfl))
              have k124 := hF 124 (notDst_spec (by kernel_rfl))
              have k125 := hF 125 (notDst_spec (by kernel_rfl))
              have k126 := hF 126 (notDst_spec (by kernel_rfl))
              have k127 := hF 127 (notDst_spec (by kernel_rfl))
              simp only [Array.getD_eq_getD_getElem?, List.getElem?_toArray, List.getElem?_cons_succ, List.getElem?_cons_zero, Option.getD_some] at k0 k1 k2 k3 k4 k5 k6 k7 k8 k9 k10 k11 k12 k13 k14 k15 k16 k17 k18 k19 k20 k21 k22 k23 k24 k25 k26 k27 k28 k29 k30 k31 k32 k33 k34 k35 k36 k37 k38 k39 k40 k41 k42 k43 k44 k45 k46 k47 k48 k49 k50 k51 k52 k53 k54 k55 k56 k57 k58 k59 k60 k61 k62 k63 k64 k65 k66 k67 k68 k69 k70 k71 k72 k73 k74 k75 k76 k77 k78 k79 k80 k81 k82 k83 k84 k85 k86 k87 k88 k89 k90 k91 k92 k93 k94 k95 k109 k110 k111 k112 k113 k114 k115 k116 k117 k118 k119 k120 k121 k122 k123 k124 k125 k126 k127
              simp only [k0, k1, k2, k3, k4, k5, k6, k7, k8, k9, k10, k11, k12, k13, k14, k15, k16, k17, k18, k19, k20, k21, k22, k23, k24, k25, k26, k27, k28, k29, k30, k31, k32, k33, k34, k35, k36, k37, k38, k39, k40, k41, k42, k43, k44, k45, k46, k47, k48, k49, k50, k51, k52, k53, k54, k55, k56, k57, k58, k59, k60, k61, k62, k63, k64, k65, k66, k67, k68, k69, k70, k71, k72, k73, k74, k75, k76, k77, k78, k79, k80, k81, k82, k83, k84, k85, k86, k87, k88, k89, k90, k91, k92, k93, k94, k95, k109, k110, k111, k112, k113, k114, k115, k116, k117, k118, k119, k120, k121, k122, k123, k124, k125, k126, k127]
              clear k0 k1 k2 k3 k4 k5 k6 k7 k8 k9 k10 k11 k12 k13 k14 k15 k16 k17 k18 k19 k20 k21 k22 k23 k24 k25 k26 k27 k28 k29 k30 k31 k32 k33 k34 k35 k36 k37 k38 k39 k40 k41 k42 k43 k44 k45 k46 k47 k48 k49 k50 k51 k52 k53 k54 k55 k56 k57 k58 k59 k60 k61 k62 k63 k64 k65 k66 k67 k68 k69 k70 k71 k72 k73 k74 k75 k76 k77 k78 k79 k80 k81 k82 k83 k84 k85 k86 k87 k88 k89 k90 k91 k92 k93 k94 k95 k109 k110 k111 k112 k113 k114 k115 k116 k117 k118 k119 k120 k121 k122 k123 k124 k125 k126 k127
              clear hF hV hsz i0 i1 i2 j0 j1 j2 hpr
              have lo2 := Lib.hid (btrans lo.out hR)
              clear lo hR
              change wpAny _ _ _ _ 0 _ _ _
              refine ⟨by kernel_rfl, ?_⟩
              go_wp2
              go_roundw
              case rel => exact ⟨k + 1, rfl, by omega, by go_num, lo2⟩
              case measure => simp [intOf]; omega
          · obtain rfl : k = m := by omega
            have hmm : ¬ (k : Int) + 1 < (k : Int) + 1 := by omega
            go_wp2
            have lo1 := Lib.hid lo.out
            clear lo lo0
            go_loopw [11, 12] (fun bv iv wr => ∃ (k : Nat) (ac : Bool), bv = .bool ac ∧ k ≤ n + 1 ∧ iv = .int .i64 (k : Int) ∧ Hid ((fl.take k).any (inP G sets A) = ac) ∧ Hid (Below w4.heap.size w4 wr)) (fun _ iv _ => n + 1 - (intOf iv).toNat)
            case atStart => exact ⟨0, false, rfl, Nat.zero_le _, rfl, rfl, lo1⟩
            case round =>
              obtain ⟨k, ac, rfl, hk2, rfl, hac, lo⟩ := hrel
              by_cases hkn : k < n + 1
              · have hkI : (k : Int) < (n : Int) + 1 := by omega
                have hkl : k < fl.length := by have := hn.out; omega
                obtain ⟨_, _, e9, _, i0, i1, i2⟩ := (PB.out.below lo.out).at k hkl
                cases e9
                have hst := Lib.hid (any_takeT (p := inP G sets A) hkl)
                generalize fl[k] = p at i0 i1 i2 hst
                cases ac with
                | true =>
                  go_upto_region 22 with (fail)
                  refine wp_region_kp (by kernel_rfl) 9 [.fix (.bool true), .fix (.bool true), .fix (undef), .fix (undef), .fix (undef), .fix (undef), .fix (undef), .fix (undef), .fix (.bool true)] (by kernel_rfl) (by kernel_rfl) (by kernel_rfl) ?_ ?_
                  · intro i hi
                    match i, hi with
                    | 0, _ =>
                      intro o ho ac w' hR hF hD K hK
                      simp only [List.getElem?_toArray, List.getElem?_cons_zero, Option.some.injEq] at ho
                      subst ho
                      have e11 : ac.tmps.getD 11 undef = .bool true := hF 11 (notDst_spec (by kernel_rfl))
                      have g11 := getD_bool e11
                      have d11 := (Array.getD_eq_getD_getElem? (xs := ac.tmps) (i := 11) (d := undef)).symm.trans e11
                      clear hD hF
                      go_simp
                      exact hK _ _ (Below.refl _ _) rfl
                    | 1, _ =>
                      intro o ho ac w' hR hF hD K hK
                      simp only [List.getElem?_toArray, List.getElem?_cons_zero, List.getElem?_cons_succ, Option.some.injEq] at ho
                      subst ho
                      have e115 : ac.tmps.getD 115 undef = .bool true := hD 0 (dep_spec (by kernel_rfl)) 115 rfl
                      have g115 := getD_bool e115
                      have d115 := (Array.getD_eq_getD_getElem? (xs := ac.tmps) (i := 115) (d := undef)).symm.trans e115
                      clear hD hF
                      go_simp
                      exact hK _ _ (Below.refl _ _) rfl
                    | 2, _ =>
                      intro o ho ac w' hR hF hD K hK
                      simp only [List.getElem?_toArray, List.getElem?_cons_zero, List.getElem?_cons_succ, Option.some.injEq] at ho
                      subst ho
                      have e5 : ac.tmps.getD 5 undef = .pointer (some ⟨pb, 0, none⟩) := hF 5 (notDst_spec (by kernel_rfl))
                      have d5 := (Array.getD_eq_getD_getElem? (xs := ac.tmps) (i := 5) (d := undef)).symm.trans e5
                      have e116 : ac.tmps.getD 116 undef = .bool true := hD 1 (dep_spec (by kernel_rfl)) 116 rfl
                      have g116 := getD_bool e116
                      have d116 := (Array.getD_eq_getD_getElem? (xs := ac.tmps) (i := 116) (d := undef)).symm.trans e116
                      clear hD hF
                      go_simp
                      exact hK _ _ (Below.refl _ _) rfl
                    | 3, _ =>
                      intro o ho ac w' hR hF hD K hK
                      simp only [List.getElem?_toArray, List.getElem?_cons_zero, List.getElem?_cons_succ, Option.some.injEq] at ho
                      subst ho
                      have e8 : ac.tmps.getD 8 undef = .slice (some ⟨b1', o1, none⟩) (n + 1) c1 := hF 8 (notDst_spec (by kernel_rfl))
                      have d8 := (Array.getD_eq_getD_getElem? (xs := ac.tmps) (i := 8) (d := undef)).symm.trans e8
                      have e116 : ac.tmps.getD 116 undef = .bool true := hD 1 (dep_spec (by kernel_rfl)) 116 rfl
                      have g116 := getD_bool e116
                      have d116 := (Array.getD_eq_getD_getElem? (xs := ac.tmps) (i := 116) (d := undef)).symm.trans e116
                      clear hD hF
                      go_simp
                      exact hK _ _ (Below.refl _ _) rfl
                    | 4, _ =>
                      intro o ho ac w' hR hF hD K hK
                      simp only [List.getElem?_toArray, List.getElem?_cons_zero, List.getElem?_cons_succ, Option.some.injEq] at ho
                      subst ho
                      have e12 : ac.tmps.getD 12 undef = .int .i64 (k : Int) := hF 12 (notDst_spec (by kernel_rfl))
                      have d12 := (Array.getD_eq_getD_getElem? (xs := ac.tmps) (i := 12) (d := undef)).symm.trans e12
                      have e116 : ac.tmps.getD 116 undef = .bool true := hD 1 (dep_spec (by kernel_rfl)) 116 rfl
                      have g116 := getD_bool e116
                      have d116 := (Array.getD_eq_getD_getElem? (xs := ac.tmps) (i := 116) (d := undef)).symm.trans e116
                      clear hD hF
                      go_simp
                      exact hK _ _ (Below.refl _ _) rfl
                    | 5, _ =>
                      intro o ho ac w' hR hF hD K hK
                      simp only [List.getElem?_toArray, List.getElem?_cons_zero, List.getElem?_cons_succ, Option.some.injEq] at ho
                      subst ho
                      have e116 : ac.tmps.getD 116 undef = .bool true := hD 1 (dep_spec (by kernel_rfl)) 116 rfl
                      have g116 := getD_bool e116
                      have d116 := (Array.getD_eq_getD_getElem? (xs := ac.tmps) (i := 116) (d := undef)).symm.trans e116
                      have e118 : ac.tmps.getD 118 undef = undef := hD 3 (dep_spec (by kernel_rfl)) 118 rfl
                      have d118 := (Array.getD_eq_getD_getElem? (xs := ac.tmps) (i := 118) (d := undef)).symm.trans e118
                      have e119 : ac.tmps.getD 119 undef = undef := hD 4 (dep_spec (by kernel_rfl)) 119 rfl
                      have d119 := (Array.getD_eq_getD_getElem? (xs := ac.tmps) (i := 119) (d := undef)).symm.trans e119
                      clear hD hF
                      go_simp
                      exact hK _ _ (Below.refl _ _) rfl
                    | 6, _ =>
                      intro o ho ac w' hR hF hD K hK
                      simp only [List.getElem?_toArray, List.getElem?_cons_zero, List.getElem?_cons_succ, Option.some.injEq] at ho
                      subst ho
                      have e116 : ac.tmps.getD 116 undef = .bool true := hD 1 (dep_spec (by kernel_rfl)) 116 rfl
                      have g116 := getD_bool e116
                      have d116 := (Array.getD_eq_getD_getElem? (xs := ac.tmps) (i := 116) (d := undef)).symm.trans e116
                      have e120 : ac.tmps.getD 120 undef = undef := hD 5 (dep_spec (by kernel_rfl)) 120 rfl
                      have d120 := (Array.getD_eq_getD_getElem? (xs := ac.tmps) (i := 120) (d := undef)).symm.trans e120
                      clear hD hF
                      go_simp
                      exact hK _ _ (Below.refl _ _) rfl
                    | 7, _ =>
                      intro o ho ac w' hR hF hD K hK
                      simp only [List.getElem?_toArray, List.getElem?_cons_zero, List.getElem?_cons_succ, Option.some.injEq] at ho
                      subst ho
                      have e116 : ac.tmps.getD 116 undef = .bool true := hD 1 (dep_spec (by kernel_rfl)) 116 rfl
                      have g116 := getD_bool e116
                      have d116 := (Array.getD_eq_getD_getElem? (xs := ac.tmps) (i := 116) (d := undef)).symm.trans e116
                      have e117 : ac.tmps.getD 117 undef = undef := hD 2 (dep_spec (by kernel_rfl)) 117 rfl
                      have d117 := (Array.getD_eq_getD_getElem? (xs := ac.tmps) (i := 117) (d := undef)).symm.trans e117
                      have e121 : ac.tmps.getD 121 undef = undef := hD 6 (dep_spec (by kernel_rfl)) 121 rfl
                      have d121 := (Array.getD_eq_getD_getElem? (xs := ac.tmps) (i := 121) (d := undef)).symm.trans e121
                      clear hD hF
                      go_simp
                      exact hK _ _ (Below.refl _ _) rfl
                    | 8, _ =>
                      intro o ho ac w' hR hF hD K hK
                      simp only [List.getElem?_toArray, List.getElem?_cons_zero, List.getElem?_cons_succ, Option.some.injEq] at ho
                      subst ho
                      have e116 : ac.tmps.getD 116 undef = .bool true := hD 1 (dep_spec (by kernel_rfl)) 116 rfl
                      have g116 := getD_bool e116
                      have d116 := (Array.getD_eq_getD_getElem? (xs := ac.tmps) (i := 116) (d := undef)).symm.trans e116
                      have e122 : ac.tmps.getD 122 undef = undef := hD 7 (dep_spec (by kernel_rfl)) 122 rfl
                      have d122 := (Array.getD_eq_getD_getElem? (xs := ac.tmps) (i := 122) (d := undef)).symm.trans e122
                      clear hD hF
                      go_simp
                      exact hK _ _ (Below.refl _ _) rfl
                    | k + 9, hk => omega
                  · rintro ⟨tm, df⟩ w6' hdf hsz hF hR hV
                    obtain rfl : df = [] := hdf
                    obtain ⟨q, rfl⟩ := frame128 tm hsz
                    have k123 : q 123 = .bool true := hV 8 123 (by decide) rfl
                    rw [k123]
                    clear k123
                    have k0 := hF 0 (notDst_spec (by kernel_rfl))
                    have k1 := hF 1 (notDst_spec (by kernel_rfl))
                    have k2 := hF 2 (notDst_spec (by kernel_rfl))
                    have k3 := hF 3 (notDst_spec (by kernel_rfl))
                    have k4 := hF 4 (notDst_spec (by kernel_rfl))
                    have k5 := hF 5 (notDst_spec (by kernel_rfl))
                    have k6 := hF 6 (notDst_spec (by kernel_rfl))
                    have k7 := hF 7 (notDst_spec (by kernel_rfl))
                    have k8 := hF 8 (notDst_spec (by kernel_rfl))
                    have k9 := hF 9 (notDst_spec (by kernel_rfl))
                    have k10 := hF 10 (notDst_spec (by kernel_rfl))
                    have k11 := hF 11 (notDst_spec (by kernel_rfl))
                    have k12 := hF 12 (notDst_spec (by kernel_rfl))
                    have k13 := hF 13 (notDst_spec (by kernel_rfl))
                    have k14 := hF 14 (notDst_spec (by kernel_rfl))
                    have k15 := hF 15 (notDst_spec (by kernel_rfl))
                    have k16 := hF 16 (notDst_spec (by kernel_rfl))
                    have k17 := hF 17 (notDst_spec (by kernel_rfl))
                    have k18 := hF 18 (notDst_spec (by kernel_rfl))
                    have k19 := hF 19 (notDst_spec (by kernel_rfl))
                    have k20 := hF 20 (notDst_spec (by kernel_rfl))
                    have k21 := hF 21 (notDst_spec (by kernel_rfl))
                    have k22 := hF 22 (notDst_spec (by kernel_rfl))
                    have k23 := hF 23 (notDst_spec (by kernel_rfl))
                    have k24 := hF 24 (notDst_spec (by kernel_rfl))
                    have k25 := hF 25 (notDst_spec (by kernel_rfl))
                    have k26 := hF 26 (notDst_spec (by kernel_rfl))
                    have k27 := hF 27 (notDst_spec (by kernel_rfl))
                    have k28 := hF 28 (notDst_spec (by kernel_rfl))
                    have k29 := hF 29 (notDst_spec (by kernel_rfl))
                    have k30 := hF 30 (notDst_spec (by kernel_rfl))
                    have k31 := hF 31 (notDst_spec (by kernel_rfl))
                    have k32 := hF 32 (notDst_spec (by kernel_rfl))
                    have k33 := hF 33 (notDst_spec (by kernel_rfl))
                    have k34 := hF 34 (notDst_spec (by kernel_rfl))
                    have k35 := hF 35 (notDst_spec (by kernel_rfl))
                    have k36 := hF 36 (notDst_spec (by kernel_rfl))
                    have k37 := hF 37 (notDst_spec (by kernel_rfl))
                    have k38 := hF 38 (notDst_spec (by kernel_rfl))
                    have k39 := hF 39 (notDst_spec (by kernel_rfl))
                    have k40 := hF 40 (notDst_spec (by kernel_rfl))
                    have k41 := hF 41 (notDst_spec (by kernel_rfl))
                    have k42 := hF 42 (notDst_spec (by kernel_rfl))
                    have k43 := hF 43 (notDst_spec (by kernel_rfl))
                    have k44 := hF 44 (notDst_spec (by kernel_rfl))
                    have k45 := hF 45 (notDst_spec (by kernel_rfl))
                    have k46 := hF 46 (notDst_spec (by kernel_rfl))
                    have k47 := hF 47 (notDst_spec (by kernel_rfl))
                    have k48 := hF 48 (notDst_spec (by kernel_rfl))
                    have k49 := hF 49 (notDst_spec (by kernel_rfl))
                    have k50 := hF 50 (notDst_spec (by kernel_rfl))
                    have k51 := hF 51 (notDst_spec (by kernel_rfl))
                    have k52 := hF 52 (notDst_spec (by kernel_rfl))
                    have k53 := hF 53 (notDst_spec (by kernel_rfl))
                    have k54 := hF 54 (notDst_spec (by kernel_rfl))
                    have k55 := hF 55 (notDst_spec (by kernel_rfl))
                    have k56 := hF 56 (notDst_spec (by kernel_rfl))
                    have k57 := hF 57 (notDst_spec (by kernel_rfl))
                    have k58 := hF 58 (notDst_spec (by kernel_rfl))
                    have k59 := hF 59 (notDst_spec (by kernel_rfl))
                    have k60 := hF 60 (notDst_spec (by kernel_rfl))
                    have k61 := hF 61 (notDst_spec (by kernel_rfl))
                    have k62 := hF 62 (notDst_spec (by kernel_rfl))
                    have k63 := hF 63 (notDst_spec (by kernel_rfl))
                    have k64 := hF 64 (notDst_spec (by kernel_rfl))
                    have k65 := hF 65 (notDst_spec (by kernel_rfl))
                    have k66 := hF 66 (notDst_spec (by kernel_rfl))
                    have k67 := hF 67 (notDst_spec (by kernel_rfl))
                    have k68 := hF 68 (notDst_spec (by kernel_rfl))
                    have k69 := hF 69 (notDst_spec (by kernel_rfl))
                    have k70 := hF 70 (notDst_spec (by kernel_rfl))
                    have k71 := hF 71 (notDst_spec (by kernel_rfl))
                    have k72 := hF 72 (notDst_spec (by kernel_rfl))
                    have k73 := hF 73 (notDst_spec (by kernel_rfl))
                    have k74 := hF 74 (notDst_spec (by kernel_rfl))
                    have k75 := hF 75 (notDst_spec (by kernel_rfl))
                    have k76 := hF 76 (notDst_spec (by kernel_rfl))
                    have k77 := hF 77 (notDst_spec (by kernel_rfl))
                    have k78 := hF 78 (notDst_spec (by kernel_rfl))
                    have k79 := hF 79 (notDst_spec (by kernel_rfl))
                    have k80 := hF 80 (notDst_spec (by kernel_rfl))
                    have k81 := hF 81 (notDst_spec (by kernel_rfl))
                    have k82 := hF 82 (notDst_spec (by kernel_rfl))
                    have k83 := hF 83 (notDst_spec (by kernel_rfl))
                    have k84 := hF 84 (notDst_spec (by kernel_rfl))
                    have k85 := hF 85 (notDst_spec (by kernel_rfl))
                    have k86 := hF 86 (notDst_spec (by kernel_rfl))
                    have k87 := hF 87 (notDst_spec (by kernel_rfl))
                    have k88 := hF 88 (notDst_spec (by kernel_rfl))
                    have k89 := hF 89 (notDst_spec (by kernel_rfl))
                    have k90 := hF 90 (notDst_spec (by kernel_rfl))
                    have k91 := hF 91 (notDst_spec (by kernel_rfl))
                    have k92 := hF 92 (notDst_spec (by kernel_rfl))
                    have k93 := hF 93 (notDst_spec (by kernel_rfl))
                    have k94 := hF 94 (notDst_spec (by kernel_rfl))
                    have k95 := hF 95 (notDst_spec (by kernel_rfl))
                    have k96 := hF 96 (notDst_spec (by kernel_rfl))
                    have k97 := hF 97 (notDst_spec (by kernel_rfl))
                    have k98 := hF 98 (notDst_spec (by kernel_rfl))
                    have k99 := hF 99 (notDst_spec (by kernel_rfl))
                    have k100 := hF 100 (notDst_spec (by kernel_rfl))
                    have k101 := hF 101 (notDst_spec (by kernel_rfl))
                    have k102 := hF 102 (notDst_spec (by kernel_rfl))
                    have k103 := hF 103 (notDst_spec (by kernel_rfl))
                    have k104 := hF 104 (notDst_spec (by kernel_rfl))
                    have k105 := hF 105 (notDst_spec (by kernel_rfl))
                    have k106 := hF 106 (notDst_spec (by kernel_rfl))
                    have k107 := hF 107 (notDst_spec (by kernel_rfl))
                    have k108 := hF 108 (notDst_spec (by kernel_rfl))
                    have k109 := hF 109 (notDst_spec (by kernel_rfl))
                    have k110 := hF 110 (notDst_spec (by kernel_rfl))
                    have k111 := hF 111 (notDst_spec (by kernel_rfl))
                    have k112 := hF 112 (notDst_spec (by kernel_rfl))
                    have k113 := hF 113 (notDst_spec (by kernel_rfl))
                    have k114 := hF 114 (notDst_spec (by kernel_rfl))
                    have k124 := hF 124 (notDst_spec (by kernel_rfl))
                    have k125 := hF 125 (notDst_spec (by kernel_rfl))
                    have k126 := hF 126 (notDst_spec (by kernel_rfl))
                    have k127 := hF 127 (notDst_spec (by kernel_rfl))
                    simp only [Array.getD_eq_getD_getElem?, List.getElem?_toArray, List.getElem?_cons_succ, List.getElem?_cons_zero, Option.getD_some] at k0 k1 k2 k3 k4 k5 k6 k7 k8 k9 k10 k11 k12 k13 k14 k15 k16 k17 k18 k19 k20 k21 k22 k23 k24 k25 k26 k27 k28 k29 k30 k31 k32 k33 k34 k35 k36 k37 k38 k39 k40 k41 k42 k43 k44 k45 k46 k47 k48 k49 k50 k51 k52 k53 k54 k55 k56 k57 k58 k59 k60 k61 k62 k63 k64 k65 k66 k67 k68 k69 k70 k71 k72 k73 k74 k75 k76 k77 k78 k79 k80 k81 k82 k83 k84 k85 k86 k87 k88 k89 k90 k91 k92 k93 k94 k95 k96 k97 k98 k99 k100 k101 k102 k103 k104 k105 k106 k107 k108 k109 k110 k111 k112 k113 k114 k124 k125 k126 k127
                    simp only [k0, k1, k2, k3, k4, k5, k6, k7, k8, k9, k10, k11, k12, k13, k14, k15, k16, k17, k18, k19, k20, k21, k22, k23, k24, k25, k26, k27, k28, k29, k30, k31, k32, k33, k34, k35, k36, k37, k38, k39, k40, k41, k42, k43, k44, k45, k46, k47, k48, k49, k50, k51, k52, k53, k54, k55, k56, k57, k58, k59, k60, k61, k62, k63, k64, k65, k66, k67, k68, k69, k70, k71, k72, k73, k74, k75, k76, k77, k78, k79, k80, k81, k82, k83, k84, k85, k86, k87, k88, k89, k90, k91, k92, k93, k94, k95, k96, k97, k98, k99, k100, k101, k102, k103, k104, k105, k106, k107, k108, k109, k110, k111, k112, k113, k114, k124, k125, k126, k127]
                    clear k0 k1 k2 k3 k4 k5 k6 k7 k8 k9 k10 k11 k12 k13 k14 k15 k16 k17 k18 k19 k20 k21 k22 k23 k24 k25 k26 k27 k28 k29 k30 k31 k32 k33 k34 k35 k36 k37 k38 k39 k40 k41 k42 k43 k44 k45 k46 k47 k48 k49 k50 k51 k52 k53 k54 k55 k56 k57 k58 k59 k60 k61 k62 k63 k64 k65 k66 k67 k68 k69 k70 k71 k72 k73 k74 k75 k76 k77 k78 k79 k80 k81 k82 k83 k84 k85 k86 k87 k88 k89 k90 k91 k92 k93 k94 k95 k96 k97 k98 k99 k100 k101 k102 k103 k104 k105 k106 k107 k108 k109 k110 k111 k112 k113 k114 k124 k125 k126 k127
                    clear hF hV hsz i0 i1 i2
                    have lo2 := Lib.hid (btrans lo.out hR)
                    clear lo hR
                    change wpAny _ _ _ _ 1 _ _ _
                    refine wpAny_ready (rs := [9]) (by kernel_rfl) (by simp) ?_
                    refine AllReady.cons (i := 9) rfl (fun K hK => ?_) AllReady.nil
                    go_simp
                    refine hK _ _ ?_
                    clear hK K
                    refine ⟨by kernel_rfl, ?_⟩
                    go_wp2
                    go_roundw
                    case rel => exact ⟨k + 1, _, rfl, by omega, by go_num, (by show _ = _; rw [hst.out, hac.out]; rfl), lo2⟩
                    case measure => simp [intOf]; omega
                | false =>
                  go_upto_region 22 with (fail)
                  refine wp_region_kp (by kernel_rfl) 9 [.fix (.bool false), .fix (.bool false), .fix (.agg #[.slice ai G.init.length ci, .slice ae G.edges.length ce, .slice al G.labels.length cl, .slice as_ sets.length cs, .int .i64 A.sets, .slice bi A.init.length di, .slice bn A.nodes.length dn]), .fix (.slice (some ⟨b1', o1, none⟩) (n + 1) c1), .fix (.int .i64 (k : Int)), .fix (.pointer (some ⟨b1', o1 + k * 3, none⟩)), .fix (.agg #[.int .i64 p.node, .int .i64 p.state, .int .i64 p.turn]), .fix (.bool (inP G sets A p)), .fix (.bool (inP G sets A p))] (by kernel_rfl) (by kernel_rfl) (by kernel_rfl) ?_ ?_
                  · intro i hi
                    match i, hi with
                    | 0, _ =>
                      intro o ho ac w' hR hF hD K hK
                      simp only [List.getElem?_toArray, List.getElem?_cons_zero, Option.some.injEq] at ho
                      subst ho
                      have e11 : ac.tmps.getD 11 undef = .bool false := hF 11 (notDst_spec (by kernel_rfl))
                      have g11 := getD_bool e11
                      have d11 := (Array.getD_eq_getD_getElem? (xs := ac.tmps) (i := 11) (d := undef)).symm.trans e11
                      clear hD hF
                      go_simp
                      exact hK _ _ (Below.refl _ _) rfl
                    | 1, _ =>
                      intro o ho ac w' hR hF hD K hK
                      simp only [List.getElem?_toArray, List.getElem?_cons_zero, List.getElem?_cons_succ, Option.some.injEq] at ho
                      subst ho
                      have e115 : ac.tmps.getD 115 undef = .bool false := hD 0 (dep_spec (by kernel_rfl)) 115 rfl
                      have g115 := getD_bool e115
                      have d115 := (Array.getD_eq_getD_getElem? (xs := ac.tmps) (i := 115) (d := undef)).symm.trans e115
                      clear hD hF
                      go_simp
                      exact hK _ _ (Below.refl _ _) rfl
                    | 2, _ =>
                      intro o ho ac w' hR hF hD K hK
                      simp only [List.getElem?_toArray, List.getElem?_cons_zero, List.getElem?_cons_succ, Option.some.injEq] at ho
                      subst ho
                      have e5 : ac.tmps.getD 5 undef = .pointer (some ⟨pb, 0, none⟩) := hF 5 (notDst_spec (by kernel_rfl))
                      have d5 := (Array.getD_eq_getD_getElem? (xs := ac.tmps) (i := 5) (d := undef)).symm.trans e5
                      have e116 : ac.tmps.getD 116 undef = .bool false := hD 1 (dep_spec (by kernel_rfl)) 116 rfl
                      have g116 := getD_bool e116
                      have d116 := (Array.getD_eq_getD_getElem? (xs := ac.tmps) (i := 116) (d := undef)).symm.trans e116
                      clear hD hF
                      have q0 : w'.cell? ⟨pb, 0, none⟩ = some (.slice ai G.init.length ci) := (rp4.out.below (btrans lo.out hR)).cell 0
                      have q1 : w'.cell? ⟨pb, 1, none⟩ = some (.slice ae G.edges.length ce) := (rp4.out.below (btrans lo.out hR)).cell 1
                      have q2 : w'.cell? ⟨pb, 2, none⟩ = some (.slice al G.labels.length cl) := (rp4.out.below (btrans lo.out hR)).cell 2
                      have q3 : w'.cell? ⟨pb, 3, none⟩ = some (.slice as_ sets.length cs) := (rp4.out.below (btrans lo.out hR)).cell 3
                      have q4 : w'.cell? ⟨pb, 4, none⟩ = some (.int .i64 A.sets) := (rp4.out.below (btrans lo.out hR)).cell 4
                      have q5 : w'.cell? ⟨pb, 5, none⟩ = some (.slice bi A.init.length di) := (rp4.out.below (btrans lo.out hR)).cell 5
                      have q6 : w'.cell? ⟨pb, 6, none⟩ = some (.slice bn A.nodes.length dn) := (rp4.out.below (btrans lo.out hR)).cell 6
                      go_simp
                      exact hK _ _ (Below.refl _ _) rfl
                    | 3, _ =>
                      intro o ho ac w' hR hF hD K hK
                      simp only [List.getElem?_toArray, List.getElem?_cons_zero, List.getElem?_cons_succ, Option.some.injEq] at ho
                      subst ho
                      have e8 : ac.tmps.getD 8 undef = .slice (some ⟨b1', o1, none⟩) (n + 1) c1 := hF 8 (notDst_spec (by kernel_rfl))
                      have d8 := (Array.getD_eq_getD_getElem? (xs := ac.tmps) (i := 8) (d := undef)).symm.trans e8
                      have e116 : ac.tmps.getD 116 undef = .bool false := hD 1 (dep_spec (by kernel_rfl)) 116 rfl
                      have g116 := getD_bool e116
                      have d116 := (Array.getD_eq_getD_getElem? (xs := ac.tmps) (i := 116) (d := undef)).symm.trans e116
                      clear hD hF
                      go_simp
                      exact hK _ _ (Below.refl _ _) rfl
                    | 4, _ =>
                      intro o ho ac w' hR hF hD K hK
                      simp only [List.getElem?_toArray, List.getElem?_cons_zero, List.getElem?_cons_succ, Option.some.injEq] at ho
                      subst ho
                      have e12 : ac.tmps.getD 12 undef = .int .i64 (k : Int) := hF 12 (notDst_spec (by kernel_rfl))
                      have d12 := (Array.getD_eq_getD_getElem? (xs := ac.tmps) (i := 12) (d := undef)).symm.trans e12
                      have e116 : ac.tmps.getD 116 undef = .bool false := hD 1 (dep_spec (by kernel_rfl)) 116 rfl
                      have g116 := getD_bool e116
                      have d116 := (Array.getD_eq_getD_getElem? (xs := ac.tmps) (i := 116) (d := undef)).symm.trans e116
                      clear hD hF
                      go_simp
                      exact hK _ _ (Below.refl _ _) rfl
                    | 5, _ =>
                      intro o ho ac w' hR hF hD K hK
                      simp only [List.getElem?_toArray, List.getElem?_cons_zero, List.getElem?_cons_succ, Option.some.injEq] at ho
                      subst ho
                      have e116 : ac.tmps.getD 116 undef = .bool false := hD 1 (dep_spec (by kernel_rfl)) 116 rfl
                      have g116 := getD_bool e116
                      have d116 := (Array.getD_eq_getD_getElem? (xs := ac.tmps) (i := 116) (d := undef)).symm.trans e116
                      have e118 : ac.tmps.getD 118 undef = .slice (some ⟨b1', o1, none⟩) (n + 1) c1 := hD 3 (dep_spec (by kernel_rfl)) 118 rfl
                      have d118 := (Array.getD_eq_getD_getElem? (xs := ac.tmps) (i := 118) (d := undef)).symm.trans e118
                      have e119 : ac.tmps.getD 119 undef = .int .i64 (k : Int) := hD 4 (dep_spec (by kernel_rfl)) 119 rfl
                      have d119 := (Array.getD_eq_getD_getElem? (xs := ac.tmps) (i := 119) (d := undef)).symm.trans e119
                      clear hD hF
                      go_simp
                      exact hK _ _ (Below.refl _ _) rfl
                    | 6, _ =>
                      intro o ho ac w' hR hF hD K hK
                      simp only [List.getElem?_toArray, List.getElem?_cons_zero, List.getElem?_cons_succ, Option.some.injEq] at ho
                      subst ho
                      have e116 : ac.tmps.getD 116 undef = .bool false := hD 1 (dep_spec (by kernel_rfl)) 116 rfl
                      have g116 := getD_bool e116
                      have d116 := (Array.getD_eq_getD_getElem? (xs := ac.tmps) (i := 116) (d := undef)).symm.trans e116
                      have e120 : ac.tmps.getD 120 undef = .pointer (some ⟨b1', o1 + k * 3, none⟩) := hD 5 (dep_spec (by kernel_rfl)) 120 rfl
                      have d120 := (Array.getD_eq_getD_getElem? (xs := ac.tmps) (i := 120) (d := undef)).symm.trans e120
                      clear hD hF
                      have q0 : w'.cell? ⟨b1', o1 + k * 3, none⟩ = some (.int .i64 p.node) := bcell hR i0
                      have q1 : w'.cell? ⟨b1', o1 + k * 3 + 1, none⟩ = some (.int .i64 p.state) := bcell hR i1
                      have q2 : w'.cell? ⟨b1', o1 + k * 3 + 2, none⟩ = some (.int .i64 p.turn) := bcell hR i2
                      go_simp
                      exact hK _ _ (Below.refl _ _) rfl
                    | 7, _ =>
                      intro o ho ac w' hR hF hD K hK
                      simp only [List.getElem?_toArray, List.getElem?_cons_zero, List.getElem?_cons_succ, Option.some.injEq] at ho
                      subst ho
                      have e116 : ac.tmps.getD 116 undef = .bool false := hD 1 (dep_spec (by kernel_rfl)) 116 rfl
                      have g116 := getD_bool e116
                      have d116 := (Array.getD_eq_getD_getElem? (xs := ac.tmps) (i := 116) (d := undef)).symm.trans e116
                      have e117 : ac.tmps.getD 117 undef = .agg #[.slice ai G.init.length ci, .slice ae G.edges.length ce, .slice al G.labels.length cl, .slice as_ sets.length cs, .int .i64 A.sets, .slice bi A.init.length di, .slice bn A.nodes.length dn] := hD 2 (dep_spec (by kernel_rfl)) 117 rfl
                      have d117 := (Array.getD_eq_getD_getElem? (xs := ac.tmps) (i := 117) (d := undef)).symm.trans e117
                      have e121 : ac.tmps.getD 121 undef = .agg #[.int .i64 p.node, .int .i64 p.state, .int .i64 p.turn] := hD 6 (dep_spec (by kernel_rfl)) 121 rfl
                      have d121 := (Array.getD_eq_getD_getElem? (xs := ac.tmps) (i := 121) (d := undef)).symm.trans e121
                      clear hD hF
                      go_simp
                      refine (rin_any w' ⟨ai, ae, al, as_, bi, bn, ci, ce, cl, cs, di, dn⟩ G sets A (RPA.out w' (btrans hbW.out (btrans hbw4.out (btrans lo.out hR)))) p).mono ?_
                      rintro e w6 ⟨rfl, hb6⟩
                      exact hK _ _ hb6 rfl
                    | 8, _ =>
                      intro o ho ac w' hR hF hD K hK
                      simp only [List.getElem?_toArray, List.getElem?_cons_zero, List.getElem?_cons_succ, Option.some.injEq] at ho
                      subst ho
                      have e116 : ac.tmps.getD 116 undef = .bool false := hD 1 (dep_spec (by kernel_rfl)) 116 rfl
                      have g116 := getD_bool e116
                      have d116 := (Array.getD_eq_getD_getElem? (xs := ac.tmps) (i := 116) (d := undef)).symm.trans e116
                      have e122 : ac.tmps.getD 122 undef = .bool (inP G sets A p) := hD 7 (dep_spec (by kernel_rfl)) 122 rfl
                      have g122 := getD_bool e122
                      have d122 := (Array.getD_eq_getD_getElem? (xs := ac.tmps) (i := 122) (d := undef)).symm.trans e122
                      clear hD hF
                      go_simp
                      exact hK _ _ (Below.refl _ _) rfl
                    | k + 9, hk => omega
                  · rintro ⟨tm, df⟩ w6' hdf hsz hF hR hV
                    obtain rfl : df = [] := hdf
                    obtain ⟨q, rfl⟩ := frame128 tm hsz
                    have k123 : q 123 = .bool (inP G sets A p) := hV 8 123 (by decide) rfl
                    rw [k123]
                    clear k123
                    have k0 := hF 0 (notDst_spec (by kernel_rfl))
                    have k1 := hF 1 (notDst_spec (by kernel_rfl))
                    have k2 := hF 2 (notDst_spec (by kernel_rfl))
                    have k3 := hF 3 (notDst_spec (by kernel_rfl))
                    have k4 := hF 4 (notDst_spec (by kernel_rfl))
                    have k5 := hF 5 (notDst_spec (by kernel_rfl))
                    have k6 := hF 6 (notDst_spec (by kernel_rfl))
                    have k7 := hF 7 (notDst_spec (by kernel_rfl))
                    have k8 := hF 8 (notDst_spec (by kernel_rfl))
                    have k9 := hF 9 (notDst_spec (by kernel_rfl))
                    have k10 := hF 10 (notDst_spec (by kernel_rfl))
                    have k11 := hF 11 (notDst_spec (by kernel_rfl))
                    have k12 := hF 12 (notDst_spec (by kernel_rfl))
                    have k13 := hF 13 (notDst_spec (by kernel_rfl))
                    have k14 := hF 14 (notDst_spec (by kernel_rfl))
                    have k15 := hF 15 (notDst_spec (by kernel_rfl))
                    have k16 := hF 16 (notDst_spec (by kernel_rfl))
                    have k17 := hF 17 (notDst_spec (by kernel_rfl))
                    have k18 := hF 18 (notDst_spec (by kernel_rfl))
                    have k19 := hF 19 (notDst_spec (by kernel_rfl))
                    have k20 := hF 20 (notDst_spec (by kernel_rfl))
                    have k21 := hF 21 (notDst_spec (by kernel_rfl))
                    have k22 := hF 22 (notDst_spec (by kernel_rfl))
                    have k23 := hF 23 (notDst_spec (by kernel_rfl))
                    have k24 := hF 24 (notDst_spec (by kernel_rfl))
                    have k25 := hF 25 (notDst_spec (by kernel_rfl))
                    have k26 := hF 26 (notDst_spec (by kernel_rfl))
                    have k27 := hF 27 (notDst_spec (by kernel_rfl))
                    have k28 := hF 28 (notDst_spec (by kernel_rfl))
                    have k29 := hF 29 (notDst_spec (by kernel_rfl))
                    have k30 := hF 30 (notDst_spec (by kernel_rfl))
                    have k31 := hF 31 (notDst_spec (by kernel_rfl))
                    have k32 := hF 32 (notDst_spec (by kernel_rfl))
                    have k33 := hF 33 (notDst_spec (by kernel_rfl))
                    have k34 := hF 34 (notDst_spec (by kernel_rfl))
                    have k35 := hF 35 (notDst_spec (by kernel_rfl))
                    have k36 := hF 36 (notDst_spec (by kernel_rfl))
                    have k37 := hF 37 (notDst_spec (by kernel_rfl))
                    have k38 := hF 38 (notDst_spec (by kernel_rfl))
                    have k39 := hF 39 (notDst_spec (by kernel_rfl))
                    have k40 := hF 40 (notDst_spec (by kernel_rfl))
                    have k41 := hF 41 (notDst_spec (by kernel_rfl))
                    have k42 := hF 42 (notDst_spec (by kernel_rfl))
                    have k43 := hF 43 (notDst_spec (by kernel_rfl))
                    have k44 := hF 44 (notDst_spec (by kernel_rfl))
                    have k45 := hF 45 (notDst_spec (by kernel_rfl))
                    have k46 := hF 46 (notDst_spec (by kernel_rfl))
                    have k47 := hF 47 (notDst_spec (by kernel_rfl))
                    have k48 := hF 48 (notDst_spec (by kernel_rfl))
                    have k49 := hF 49 (notDst_spec (by kernel_rfl))
                    have k50 := hF 50 (notDst_spec (by kernel_rfl))
                    have k51 := hF 51 (notDst_spec (by kernel_rfl))
                    have k52 := hF 52 (notDst_spec (by kernel_rfl))
                    have k53 := hF 53 (notDst_spec (by kernel_rfl))
                    have k54 := hF 54 (notDst_spec (by kernel_rfl))
                    have k55 := hF 55 (notDst_spec (by kernel_rfl))
                    have k56 := hF 56 (notDst_spec (by kernel_rfl))
                    have k57 := hF 57 (notDst_spec (by kernel_rfl))
                    have k58 := hF 58 (notDst_spec (by kernel_rfl))
                    have k59 := hF 59 (notDst_spec (by kernel_rfl))
                    have k60 := hF 60 (notDst_spec (by kernel_rfl))
                    have k61 := hF 61 (notDst_spec (by kernel_rfl))
                    have k62 := hF 62 (notDst_spec (by kernel_rfl))
                    have k63 := hF 63 (notDst_spec (by kernel_rfl))
                    have k64 := hF 64 (notDst_spec (by kernel_rfl))
                    have k65 := hF 65 (notDst_spec (by kernel_rfl))
                    have k66 := hF 66 (notDst_spec (by kernel_rfl))
                    have k67 := hF 67 (notDst_spec (by kernel_rfl))
                    have k68 := hF 68 (notDst_spec (by kernel_rfl))
                    have k69 := hF 69 (notDst_spec (by kernel_rfl))
                    have k70 := hF 70 (notDst_spec (by kernel_rfl))
                    have k71 := hF 71 (notDst_spec (by kernel_rfl))
                    have k72 := hF 72 (notDst_spec (by kernel_rfl))
                    have k73 := hF 73 (notDst_spec (by kernel_rfl))
                    have k74 := hF 74 (notDst_spec (by kernel_rfl))
                    have k75 := hF 75 (notDst_spec (by kernel_rfl))
                    have k76 := hF 76 (notDst_spec (by kernel_rfl))
                    have k77 := hF 77 (notDst_spec (by kernel_rfl))
                    have k78 := hF 78 (notDst_spec (by kernel_rfl))
                    have k79 := hF 79 (notDst_spec (by kernel_rfl))
                    have k80 := hF 80 (notDst_spec (by kernel_rfl))
                    have k81 := hF 81 (notDst_spec (by kernel_rfl))
                    have k82 := hF 82 (notDst_spec (by kernel_rfl))
                    have k83 := hF 83 (notDst_spec (by kernel_rfl))
                    have k84 := hF 84 (notDst_spec (by kernel_rfl))
                    have k85 := hF 85 (notDst_spec (by kernel_rfl))
                    have k86 := hF 86 (notDst_spec (by kernel_rfl))
                    have k87 := hF 87 (notDst_spec (by kernel_rfl))
                    have k88 := hF 88 (notDst_spec (by kernel_rfl))
                    have k89 := hF 89 (notDst_spec (by kernel_rfl))
                    have k90 := hF 90 (notDst_spec (by kernel_rfl))
                    have k91 := hF 91 (notDst_spec (by kernel_rfl))
                    have k92 := hF 92 (notDst_spec (by kernel_rfl))
                    have k93 := hF 93 (notDst_spec (by kernel_rfl))
                    have k94 := hF 94 (notDst_spec (by kernel_rfl))
                    have k95 := hF 95 (notDst_spec (by kernel_rfl))
                    have k96 := hF 96 (notDst_spec (by kernel_rfl))
                    have k97 := hF 97 (notDst_spec (by kernel_rfl))
                    have k98 := hF 98 (notDst_spec (by kernel_rfl))
                    have k99 := hF 99 (notDst_spec (by kernel_rfl))
                    have k100 := hF 100 (notDst_spec (by kernel_rfl))
                    have k101 := hF 101 (notDst_spec (by kernel_rfl))
                    have k102 := hF 102 (notDst_spec (by kernel_rfl))
                    have k103 := hF 103 (notDst_spec (by kernel_rfl))
                    have k104 := hF 104 (notDst_spec (by kernel_rfl))
                    have k105 := hF 105 (notDst_spec (by kernel_rfl))
                    have k106 := hF 106 (notDst_spec (by kernel_rfl))
                    have k107 := hF 107 (notDst_spec (by kernel_rfl))
                    have k108 := hF 108 (notDst_spec (by kernel_rfl))
                    have k109 := hF 109 (notDst_spec (by kernel_rfl))
                    have k110 := hF 110 (notDst_spec (by kernel_rfl))
                    have k111 := hF 111 (notDst_spec (by kernel_rfl))
                    have k112 := hF 112 (notDst_spec (by kernel_rfl))
                    have k113 := hF 113 (notDst_spec (by kernel_rfl))
                    have k114 := hF 114 (notDst_spec (by kernel_rfl))
                    have k124 := hF 124 (notDst_spec (by kernel_rfl))
                    have k125 := hF 125 (notDst_spec (by kernel_rfl))
                    have k126 := hF 126 (notDst_spec (by kernel_rfl))
                    have k127 := hF 127 (notDst_spec (by kernel_rfl))
                    simp only [Array.getD_eq_getD_getElem?, List.getElem?_toArray, List.getElem?_cons_succ, List.getElem?_cons_zero, Option.getD_some] at k0 k1 k2 k3 k4 k5 k6 k7 k8 k9 k10 k11 k12 k13 k14 k15 k16 k17 k18 k19 k20 k21 k22 k23 k24 k25 k26 k27 k28 k29 k30 k31 k32 k33 k34 k35 k36 k37 k38 k39 k40 k41 k42 k43 k44 k45 k46 k47 k48 k49 k50 k51 k52 k53 k54 k55 k56 k57 k58 k59 k60 k61 k62 k63 k64 k65 k66 k67 k68 k69 k70 k71 k72 k73 k74 k75 k76 k77 k78 k79 k80 k81 k82 k83 k84 k85 k86 k87 k88 k89 k90 k91 k92 k93 k94 k95 k96 k97 k98 k99 k100 k101 k102 k103 k104 k105 k106 k107 k108 k109 k110 k111 k112 k113 k114 k124 k125 k126 k127
                    simp only [k0, k1, k2, k3, k4, k5, k6, k7, k8, k9, k10, k11, k12, k13, k14, k15, k16, k17, k18, k19, k20, k21, k22, k23, k24, k25, k26, k27, k28, k29, k30, k31, k32, k33, k34, k35, k36, k37, k38, k39, k40, k41, k42, k43, k44, k45, k46, k47, k48, k49, k50, k51, k52, k53, k54, k55, k56, k57, k58, k59, k60, k61, k62, k63, k64, k65, k66, k67, k68, k69, k70, k71, k72, k73, k74, k75, k76, k77, k78, k79, k80, k81, k82, k83, k84, k85, k86, k87, k88, k89, k90, k91, k92, k93, k94, k95, k96, k97, k98, k99, k100, k101, k102, k103, k104, k105, k106, k107, k108, k109, k110, k111, k112, k113, k114, k124, k125, k126, k127]
                    clear k0 k1 k2 k3 k4 k5 k6 k7 k8 k9 k10 k11 k12 k13 k14 k15 k16 k17 k18 k19 k20 k21 k22 k23 k24 k25 k26 k27 k28 k29 k30 k31 k32 k33 k34 k35 k36 k37 k38 k39 k40 k41 k42 k43 k44 k45 k46 k47 k48 k49 k50 k51 k52 k53 k54 k55 k56 k57 k58 k59 k60 k61 k62 k63 k64 k65 k66 k67 k68 k69 k70 k71 k72 k73 k74 k75 k76 k77 k78 k79 k80 k81 k82 k83 k84 k85 k86 k87 k88 k89 k90 k91 k92 k93 k94 k95 k96 k97 k98 k99 k100 k101 k102 k103 k104 k105 k106 k107 k108 k109 k110 k111 k112 k113 k114 k124 k125 k126 k127
                    clear hF hV hsz i0 i1 i2
                    have lo2 := Lib.hid (btrans lo.out hR)
                    clear lo hR
                    change wpAny _ _ _ _ 1 _ _ _
                    refine wpAny_ready (rs := [9]) (by kernel_rfl) (by simp) ?_
                    refine AllReady.cons (i := 9) rfl (fun K hK => ?_) AllReady.nil
                    go_simp
                    refine hK _ _ ?_
                    clear hK K
                    refine ⟨by kernel_rfl, ?_⟩
                    go_wp2
                    go_roundw
                    case rel => exact ⟨k + 1, _, rfl, by omega, by go_num, (by show _ = _; rw [hst.out, hac.out, Bool.false_or]), lo2⟩
                    case measure => simp [intOf]; omega
              · obtain rfl : k = n + 1 := by omega
                have hac2 : ac = true := by
                  rw [← hac.out, List.take_of_length_le (by rw [hn.out]; exact Nat.le_refl _), hany.out]
                subst hac2
                have hb9 := Lib.hid (btrans hbW.out (btrans hbw4.out lo.out))
                go_wp2_with fail
                refine (WT.out _).mono ?_
                rintro e w9 ⟨rfl, hb9'⟩
                go_wp2
                go_ret
                exact ⟨rfl, btrans hb9.out hb9'⟩
theorem ndfsTold_walk (W : World) (c0 : Array Value) (t : TK) (s0 : rTask W c0.toList t) (c1 : Array Value) (b : Int × Int) (s1 : rBud W c1.toList b) :
    Calls Try.prog 4 #[.agg c0, .agg c1] W fun e w' => e = .returned (.bool true) ∧ Below W.heap.size W w' := by
  obtain ⟨X, rfl, h⟩ := LawIn.task s0
  rw [bud_cells s1]
  cases hl : lightK t.G t.sets t.A with
  | false => exact told_heavy W X t.G t.sets t.A b.1 b.2 h hl
  | true => cases hn : newB t.G t.sets t.A with
    | true => exact told_light W X t.G t.sets t.A b.1 b.2 h hl hn
    | false => exact told_none W X t.G t.sets t.A b.1 b.2 h hl hn
end Go.Proofs.Ytfcpfcgcfaacnaa
