/- Two findings are held against one another by the law's own same. Conditions: few pairs. The walk of 'NdfsFinds'. No conditions but the form's reach. -/
import Derived.Test.YtfcpfcgcfaacnaaSNdSrcQ
import Derived.Test.YtfcpfcgcfaacnaaSNdRA
import Derived.Test.YtfcpfcgcfaacnaaSNdRC
import Derived.Test.YtfcpfcgcfaacnaaSNdLawW
import Derived.Test.YtfcpfcgcfaacnaaSEqInts
import Derived.BigRegion
import Derived.IntWalk
namespace Go.Proofs.Ytfcpfcgcfaacnaa
open Go.RowKit
set_option linter.unusedVariables false
set_option linter.unusedSimpArgs false
set_option maxHeartbeats 4000000 in
theorem spairs_any (w : World) (a1 a2 : Option Addr) (c1 c2 : Nat) (l : List PP) (h1 : PpsAt w a1 l) (h2 : PpsAt w a2 l) (hl : l.length ≤ 1000000) :
  Calls Try.prog 48 #[.slice a1 l.length c1, .slice a2 l.length c2] w fun e w' => e = .returned (.bool true) ∧ Quiet w w' := by
 have hz : ((l.length : Int) != (l.length : Int)) = false := by simp
 replace h1 := Lib.hid h1
 replace h2 := Lib.hid h2
 go_enter Try.func48, Try.ntmps48
 go_wp2
 go_loopw [4, 5] (fun b i wr => ∃ k n : Nat, b = .bool false ∧ k ≤ l.length ∧ i = .int .i64 k ∧ wr = w.drewN n) (fun _ i _ => l.length - (intOf i).toNat)
 case atStart => exact ⟨0, 0, rfl, Nat.zero_le _, rfl, rfl⟩
 case round =>
  obtain ⟨k, n, rfl, hk, rfl, rfl⟩ := hrel
  by_cases hlt : k < l.length
  ·have hk2 : (k : Int) < (l.length : Int) := by omega
   obtain ⟨g, o, rfl, _, f0, f1, f2⟩ := h1.out.at k hlt
   obtain ⟨g', o', rfl, _, e0, e1, e2⟩ := h2.out.at k hlt
   generalize l[k] = x at f0 f1 f2 e0 e1 e2
   obtain ⟨xn, xs, xt⟩ := x
   simp only at f0 f1 f2 e0 e1 e2
   have g0 : (decide (xn = xn)) = true := by simp
   have g1 : (decide (xs = xs)) = true := by simp
   have g2 : (decide (xt = xt)) = true := by simp
   have g3 : (decide (¬ xn = xn)) = false := by simp
   have g4 : (decide (¬ xs = xs)) = false := by simp
   have g5 : (decide (¬ xt = xt)) = false := by simp
   go_wp2
   go_quiet (fail)
   go_wp2
   go_roundw
   case rel => exact ⟨k + 1, _, rfl, by omega, by go_num, by first | rfl | exact World.drewN_drewN _ _ _⟩
   case measure => simp [intOf]; omega
  ·obtain rfl : k = l.length := by omega
   go_wp2
   go_ret
   exact ⟨rfl, Quiet.one _ _⟩
set_option maxHeartbeats 4000000 in
theorem same_any (w : World) (k y n e d : Int) (a1 a2 a3 a4 : Option Addr) (c1 c2 c3 c4 : Nat) (st lo : List PP) (h1 : PpsAt w a1 st) (h2 : PpsAt w a2 lo) (h3 : PpsAt w a3 st) (h4 : PpsAt w a4 lo) (hs : st.length ≤ 1000000) (hl : lo.length ≤ 1000000) :
  Calls Try.prog 20 #[.agg #[.int .i64 k, .int .i64 y, .int .i64 n, .int .i64 e, .int .i64 d, .slice a1 st.length c1, .slice a2 lo.length c2], .agg #[.int .i64 k, .int .i64 y, .int .i64 n, .int .i64 e, .int .i64 d, .slice a3 st.length c3, .slice a4 lo.length c4]] w fun e w' => e = .returned (.bool true) ∧ Below w.heap.size w w' := by
 obtain ⟨n1, hn1⟩ : ∃ n, n = st.length := ⟨_, rfl⟩
 obtain ⟨n2, hn2⟩ : ∃ n, n = lo.length := ⟨_, rfl⟩
 rw [← hn1, ← hn2]
 obtain ⟨w2, hw2⟩ : ∃ w2, w2 = ((w.alloc (.cells #[.int .i64 k, .int .i64 y, .int .i64 n, .int .i64 e, .int .i64 d, .slice a1 n1 c1, .slice a2 n2 c2] TFd)).alloc (.cells #[.int .i64 k, .int .i64 y, .int .i64 n, .int .i64 e, .int .i64 d, .slice a3 n1 c3, .slice a4 n2 c4] TRF)) := ⟨_, rfl⟩
 have hb : Below w.heap.size w w2 := by rw [hw2]; exact balloc (balloc (Below.refl _ _) _) _
 have r1 : RowAt w2 w.heap.size TFd [.int .i64 k, .int .i64 y, .int .i64 n, .int .i64 e, .int .i64 d, .slice a1 n1 c1, .slice a2 n2 c2] := by rw [hw2]; exact (RowAt.new #[.int .i64 k, .int .i64 y, .int .i64 n, .int .i64 e, .int .i64 d, .slice a1 n1 c1, .slice a2 n2 c2] (by simp)).alloc _
 have r2 : RowAt w2 (w.heap.size + 1) TRF [.int .i64 k, .int .i64 y, .int .i64 n, .int .i64 e, .int .i64 d, .slice a3 n1 c3, .slice a4 n2 c4] := by rw [hw2]; exact RowAt.new #[.int .i64 k, .int .i64 y, .int .i64 n, .int .i64 e, .int .i64 d, .slice a3 n1 c3, .slice a4 n2 c4] (by simp)
 obtain ⟨p1, hp1⟩ : ∃ p1, p1 = w.heap.size := ⟨_, rfl⟩
 obtain ⟨p2, hp2⟩ : ∃ p2, p2 = w.heap.size + 1 := ⟨_, rfl⟩
 rw [← hp2] at r2
 rw [← hp1] at r1
 have C1 : Hid (∀ v, Below w2.heap.size w2 v → Calls Try.prog 48 #[.slice a1 n1 c1, .slice a3 n1 c3] v fun e w' => e = .returned (.bool true) ∧ Quiet v w') := fun v hv => by rw [hn1]; exact spairs_any v a1 a3 c1 c3 st (h1.below (btrans hb hv)) (h3.below (btrans hb hv)) hs
 have C2 : Hid (∀ v, Below w2.heap.size w2 v → Calls Try.prog 48 #[.slice a2 n2 c2, .slice a4 n2 c4] v fun e w' => e = .returned (.bool true) ∧ Quiet v w') := fun v hv => by rw [hn2]; exact spairs_any v a2 a4 c2 c4 lo (h2.below (btrans hb hv)) (h4.below (btrans hb hv)) hl
 replace hw2 := Lib.hid hw2
 replace hn1 := Lib.hid hn1
 replace hn2 := Lib.hid hn2
 replace hp1 := Lib.hid hp1
 replace hp2 := Lib.hid hp2
 replace hb := Lib.hid hb
 clear h1 h2 h3 h4 hs hl
 have x0 := r1.cell 0
 have x1 := r1.cell 1
 have x2 := r1.cell 2
 have x3 := r1.cell 3
 have x4 := r1.cell 4
 have x5 := r1.cell 5
 have x6 := r1.cell 6
 have y0 := r2.cell 0
 have y1 := r2.cell 1
 have y2 := r2.cell 2
 have y3 := r2.cell 3
 have y4 := r2.cell 4
 have y5 := r2.cell 5
 have y6 := r2.cell 6
 simp only [List.getElem?_cons_zero, List.getElem?_cons_succ] at x0 x1 x2 x3 x4 x5 x6 y0 y1 y2 y3 y4 y5 y6
 go_enter Try.func20, Try.ntmps20
 go_upto_region 1 with (fail)
 rw [← hp2.out, ← hw2.out, ← hp1.out]
 clear hw2
 go_wp2_with fail
 refine (C1.out _ (Below.refl _ _)).mono ?_
 rintro e w3 ⟨rfl, q3⟩
 have hb3 := Lib.hid (q3.below w2.heap.size)
 have x6' : w3.cell? ⟨p1, 6, none⟩ = some (.slice a2 n2 c2) := (r1.below hb3.out).cell 6
 have y6' : w3.cell? ⟨p2, 6, none⟩ = some (.slice a4 n2 c4) := (r2.below hb3.out).cell 6
 clear q3 x0 x1 x2 x3 x4 x5 x6 y0 y1 y2 y3 y4 y5 y6
 go_wp2_with fail
 refine (C2.out _ hb3.out).mono ?_
 rintro e w4 ⟨rfl, q4⟩
 have hb4 := Lib.hid (btrans hb3.out (q4.below w3.heap.size))
 clear q4 hb3
 go_wp2
 go_ret
 exact ⟨rfl, btrans hb.out hb4.out⟩
end Go.Proofs.Ytfcpfcgcfaacnaa
namespace Go.Proofs.Ytfcpfcgcfaacnaa
open Go.RowKit
set_option linter.unusedVariables false
set_option linter.unusedSimpArgs false
theorem frame93 (arr : Array Value) (h : arr.size = 93) : ∃ q : Nat → Value, arr = #[q 0, q 1, q 2, q 3, q 4, q 5, q 6, q 7, q 8, q 9, q 10, q 11, q 12, q 13, q 14, q 15, q 16, q 17, q 18, q 19, q 20, q 21, q 22, q 23, q 24, q 25, q 26, q 27, q 28, q 29, q 30, q 31, q 32, q 33, q 34, q 35, q 36, q 37, q 38, q 39, q 40, q 41, q 42, q 43, q 44, q 45, q 46, q 47, q 48, q 49, q 50, q 51, q 52, q 53, q 54, q 55, q 56, q 57, q 58, q 59, q 60, q 61, q 62, q 63, q 64, q 65, q 66, q 67, q 68, q 69, q 70, q 71, q 72, q 73, q 74, q 75, q 76, q 77, q 78, q 79, q 80, q 81, q 82, q 83, q 84, q 85, q 86, q 87, q 88, q 89, q 90, q 91, q 92] := by
 refine ⟨fun i => arr.toList.getD i undef, ?_⟩
 have h1 := list_getN (l := arr.toList) (n := 93) (by simpa using h)
 apply Array.ext'
 exact h1
theorem finds_bound {G : GR} {sets : List (List Bool)} {A : AU} (lt : Lt G sets A) : ((firstP G A).length + 1) * (FO * (FI + 2)) ≤ 4000000000000000000 := by
 have h := firstP_len (sets := sets) lt
 have h2 : ((firstP G A).length + 1) * (FO * (FI + 2)) ≤ 401 * (FO * (FI + 2)) := Nat.mul_le_mul_right _ (by omega)
 exact Nat.le_trans h2 (by decide)
theorem rsearch_law (W : World) (X : RX) (G : GR) (sets : List (List Bool)) (A : AU) (hR : RpA W X G sets A) (lt : Lt G sets A) (hn : newB G sets A = true) (bn bd : Int) :
  Calls Try.prog 15 #[rpv X G sets A, .agg #[.int .i64 bn, .int .i64 bd]] W fun e w' => ∃ sa sc la lc, e = .returned (.agg (fcells (resP G sets A bn bd) sa sc la lc).toArray) ∧ Below W.heap.size W w' ∧ PpsAt w' sa (resP G sets A bn bd).stem ∧ PpsAt w' la (resP G sets A bn bd).loop := by
 have hfl := firstP_len (sets := sets) lt
 have h := rsearch_any W X G sets A 3072 _ bn bd hR (nice_of lt hn) (by decide) (finds_bound lt) (Nat.le_refl _) (by omega) (first_ok hn)
 have e1 : resP G sets A bn bd = searchP G sets A bn bd := by unfold resP; rw [if_pos hn]
 rw [e1]
 refine h.mono fun e w' ⟨fc, h1, h2, h3, h4, h5⟩ => ?_
 obtain ⟨sa, sc, la, lc, h6, h7⟩ := h5.of
 exact ⟨sa, sc, la, lc, by rw [h1, h6]; rfl, h4, h7.now.1, h7.now.2⟩
set_option maxRecDepth 20000 in
set_option maxHeartbeats 8000000 in
theorem finds_heavy (W : World) (X : RX) (G : GR) (sets : List (List Bool)) (A : AU) (b1 b2 : Int) (h : LawIn W X G sets A) (hl : lightK G sets A = false) :
  Calls Try.prog 3 #[.agg (tcells X G sets A).toArray, .agg #[.int .i64 b1, .int .i64 b2]] W fun e w' => e = .returned (.bool true) ∧ Below W.heap.size W w' := by
 obtain ⟨ai, ae, al, as_, bi, bn, ci, ce, cl, cs, di, dn⟩ := X
 dsimp only [tcells]
 have B0 := BoxT.start W ⟨ai, ae, al, as_, bi, bn, ci, ce, cl, cs, di, dn⟩ G sets A b1 b2
 obtain ⟨w2, hw2⟩ : ∃ w2, w2 = (W.alloc (.cells #[.slice ai G.init.length ci, .slice ae G.edges.length ce, .slice al G.labels.length cl, .slice as_ sets.length cs, .int .i64 A.sets, .slice bi A.init.length di, .slice bn A.nodes.length dn] TTk)).alloc (.cells #[.int .i64 b1, .int .i64 b2] TBu) := ⟨_, rfl⟩
 replace B0 : BoxT W ⟨ai, ae, al, as_, bi, bn, ci, ce, cl, cs, di, dn⟩ G sets A b1 b2 w2 := by rw [hw2]; exact B0
 have HV : Hid (∀ w, Below W.heap.size W w → Calls Try.prog 9 #[.agg #[.slice ai G.init.length ci, .slice ae G.edges.length ce, .slice al G.labels.length cl, .slice as_ sets.length cs, .int .i64 A.sets, .slice bi A.init.length di, .slice bn A.nodes.length dn]] w fun e w' => e = .returned (.int .i64 1) ∧ Below w.heap.size w w') := fun w hb => by
  have := heavy_any w ⟨ai, ae, al, as_, bi, bn, ci, ce, cl, cs, di, dn⟩ G sets A (h.below hb)
  rw [heavyN_1 hl] at this
  exact this
 have hb0 := Lib.hid B0.below
 replace B0 := Lib.hid B0
 have r0 := Lib.hid B0.out.rt
 have t0 : w2.cell? ⟨W.heap.size, 0, none⟩ = some (.slice ai G.init.length ci) := B0.out.rt.cell 0
 have t1 : w2.cell? ⟨W.heap.size, 1, none⟩ = some (.slice ae G.edges.length ce) := B0.out.rt.cell 1
 have t2 : w2.cell? ⟨W.heap.size, 2, none⟩ = some (.slice al G.labels.length cl) := B0.out.rt.cell 2
 have t3 : w2.cell? ⟨W.heap.size, 3, none⟩ = some (.slice as_ sets.length cs) := B0.out.rt.cell 3
 have t4 : w2.cell? ⟨W.heap.size, 4, none⟩ = some (.int .i64 A.sets) := B0.out.rt.cell 4
 have t5 : w2.cell? ⟨W.heap.size, 5, none⟩ = some (.slice bi A.init.length di) := B0.out.rt.cell 5
 have t6 : w2.cell? ⟨W.heap.size, 6, none⟩ = some (.slice bn A.nodes.length dn) := B0.out.rt.cell 6
 replace hw2 := Lib.hid hw2
 clear r0
 go_enter Try.func3, Try.ntmps3
 go_upto_region 1 with (fail)
 rw [← hw2.out]
 clear hw2
 go_wp2_with fail
 refine (HV.out _ hb0.out).mono ?_
 rintro e w3 ⟨rfl, hb3⟩
 clear t0 t1 t2 t3 t4 t5 t6
 go_wp2_with fail
 refine (works_true _).mono ?_
 rintro e w4 ⟨rfl, hb4⟩
 go_wp2
 go_ret
 exact ⟨rfl, btrans hb0.out (btrans hb3 hb4)⟩
set_option maxRecDepth 20000 in
set_option maxHeartbeats 8000000 in
theorem finds_none (W : World) (X : RX) (G : GR) (sets : List (List Bool)) (A : AU) (b1 b2 : Int) (h : LawIn W X G sets A) (hl : lightK G sets A = true) (hn : newB G sets A = false) :
  Calls Try.prog 3 #[.agg (tcells X G sets A).toArray, .agg #[.int .i64 b1, .int .i64 b2]] W fun e w' => e = .returned (.bool true) ∧ Below W.heap.size W w' := by
 obtain ⟨ai, ae, al, as_, bi, bn, ci, ce, cl, cs, di, dn⟩ := X
 dsimp only [tcells]
 have RN := Lib.hid (fun w (hb : Below W.heap.size W w) => rnew_any w ⟨ai, ae, al, as_, bi, bn, ci, ce, cl, cs, di, dn⟩ G sets A (h.g.below hb) h.ok (h.s.below hb) (h.au.below hb) h.aok)
 have RN2 : Hid (∀ w, Below W.heap.size W w → Calls Try.prog 11 #[.agg #[.slice ai G.init.length ci, .slice ae G.edges.length ce, .slice al G.labels.length cl], .slice as_ sets.length cs, .agg #[.int .i64 A.sets, .slice bi A.init.length di, .slice bn A.nodes.length dn]] w fun e w' => e = .returned (.tuple #[.agg rz.toArray, .bool false]) ∧ Below w.heap.size w w') := fun w hb => (RN.out w hb).mono fun e w' hh => by rw [hn] at hh; exact hh
 clear RN
 have B0 := BoxT.start W ⟨ai, ae, al, as_, bi, bn, ci, ce, cl, cs, di, dn⟩ G sets A b1 b2
 obtain ⟨w2, hw2⟩ : ∃ w2, w2 = (W.alloc (.cells #[.slice ai G.init.length ci, .slice ae G.edges.length ce, .slice al G.labels.length cl, .slice as_ sets.length cs, .int .i64 A.sets, .slice bi A.init.length di, .slice bn A.nodes.length dn] TTk)).alloc (.cells #[.int .i64 b1, .int .i64 b2] TBu) := ⟨_, rfl⟩
 replace B0 : BoxT W ⟨ai, ae, al, as_, bi, bn, ci, ce, cl, cs, di, dn⟩ G sets A b1 b2 w2 := by rw [hw2]; exact B0
 have HV : Hid (∀ w, Below W.heap.size W w → Calls Try.prog 9 #[.agg #[.slice ai G.init.length ci, .slice ae G.edges.length ce, .slice al G.labels.length cl, .slice as_ sets.length cs, .int .i64 A.sets, .slice bi A.init.length di, .slice bn A.nodes.length dn]] w fun e w' => e = .returned (.int .i64 0) ∧ Below w.heap.size w w') := fun w hb => by
  have := heavy_any w ⟨ai, ae, al, as_, bi, bn, ci, ce, cl, cs, di, dn⟩ G sets A (h.below hb)
  rw [heavyN_0 hl] at this
  exact this
 have hb0 := Lib.hid B0.below
 replace B0 := Lib.hid B0
 have r0 := Lib.hid B0.out.rt
 have t0 : w2.cell? ⟨W.heap.size, 0, none⟩ = some (.slice ai G.init.length ci) := B0.out.rt.cell 0
 have t1 : w2.cell? ⟨W.heap.size, 1, none⟩ = some (.slice ae G.edges.length ce) := B0.out.rt.cell 1
 have t2 : w2.cell? ⟨W.heap.size, 2, none⟩ = some (.slice al G.labels.length cl) := B0.out.rt.cell 2
 have t3 : w2.cell? ⟨W.heap.size, 3, none⟩ = some (.slice as_ sets.length cs) := B0.out.rt.cell 3
 have t4 : w2.cell? ⟨W.heap.size, 4, none⟩ = some (.int .i64 A.sets) := B0.out.rt.cell 4
 have t5 : w2.cell? ⟨W.heap.size, 5, none⟩ = some (.slice bi A.init.length di) := B0.out.rt.cell 5
 have t6 : w2.cell? ⟨W.heap.size, 6, none⟩ = some (.slice bn A.nodes.length dn) := B0.out.rt.cell 6
 replace hw2 := Lib.hid hw2
 clear r0
 go_enter Try.func3, Try.ntmps3
 go_upto_region 1 with (fail)
 rw [← hw2.out]
 clear hw2
 go_wp2_with fail
 refine (HV.out _ hb0.out).mono ?_
 rintro e w3 ⟨rfl, hb3⟩
 clear t0 t1 t2 t3 t4 t5 t6
 have BT := B0.out.next hb3
 have t0 : w3.cell? ⟨W.heap.size, 0, none⟩ = some (.slice ai G.init.length ci) := BT.rt.cell 0
 have t1 : w3.cell? ⟨W.heap.size, 1, none⟩ = some (.slice ae G.edges.length ce) := BT.rt.cell 1
 have t2 : w3.cell? ⟨W.heap.size, 2, none⟩ = some (.slice al G.labels.length cl) := BT.rt.cell 2
 have t3 : w3.cell? ⟨W.heap.size, 3, none⟩ = some (.slice as_ sets.length cs) := BT.rt.cell 3
 have t4 : w3.cell? ⟨W.heap.size, 4, none⟩ = some (.int .i64 A.sets) := BT.rt.cell 4
 have t5 : w3.cell? ⟨W.heap.size, 5, none⟩ = some (.slice bi A.init.length di) := BT.rt.cell 5
 have t6 : w3.cell? ⟨W.heap.size, 6, none⟩ = some (.slice bn A.nodes.length dn) := BT.rt.cell 6
 clear B0 HV h hn hl
 go_wp2_with fail
 refine (RN2.out w3 BT.below).mono ?_
 rintro e w4 ⟨rfl, hb4⟩
 clear t0 t1 t2 t3 t4 t5 t6
 go_wp2_with fail
 refine (works_true _).mono ?_
 rintro e w5 ⟨rfl, hb5⟩
 go_wp2
 go_ret
 exact ⟨rfl, btrans (btrans BT.below hb4) (btrans (balloc (Below.refl _ _) _) hb5)⟩
set_option maxRecDepth 20000 in
set_option maxHeartbeats 40000000 in
theorem finds_light (W : World) (X : RX) (G : GR) (sets : List (List Bool)) (A : AU) (b1 b2 : Int) (h : LawIn W X G sets A) (hl : lightK G sets A = true) (hn : newB G sets A = true) :
  Calls Try.prog 3 #[.agg (tcells X G sets A).toArray, .agg #[.int .i64 b1, .int .i64 b2]] W fun e w' => e = .returned (.bool true) ∧ Below W.heap.size W w' := by
 obtain ⟨ai, ae, al, as_, bi, bn, ci, ce, cl, cs, di, dn⟩ := X
 dsimp only [tcells]
 have lt := lightK_lt hl
 have LEN := res_len lt b1 b2
 have XL0 := actsP_len G sets A (resP G sets A b1 b2).stem (resP G sets A b1 b2).loop
 have SC := Lib.hid (fun w v (hv : NewV w G sets A v) => search_v w G sets A v hv lt b1 b2)
 have GRC : Hid (∀ w, Below W.heap.size W w → Calls Try.prog 13 #[.agg #[.slice ai G.init.length ci, .slice ae G.edges.length ce, .slice al G.labels.length cl], .slice as_ sets.length cs] w (SrcMade G sets w)) := fun w hb => graph_any w ai ae al as_ ci ce cl cs G sets (h.g.below hb) h.ok (h.s.below hb)
 have NVC : Hid (∀ w, Below W.heap.size W w → ∀ v, SrcV w G sets v → Calls Try.prog 12 #[v, .agg #[.int .i64 A.sets, .slice bi A.init.length di, .slice bn A.nodes.length dn]] w (NewMade G sets A w)) := fun w hb v hv => new_v w bi bn di dn G sets A v hv h.ok (h.au.below hb) h.aok
 have RPA : Hid (∀ w, Below W.heap.size W w → RpA w ⟨ai, ae, al, as_, bi, bn, ci, ce, cl, cs, di, dn⟩ G sets A) := by
  obtain ⟨hs, hc⟩ := newB_split hn
  exact fun w hb => ⟨h.g.below hb, h.s.below hb, h.au.below hb, hs, hc, h.ok, h.aok, lt⟩
 have RSC : Hid (∀ w, Below W.heap.size W w → Calls Try.prog 15 #[.agg #[.slice ai G.init.length ci, .slice ae G.edges.length ce, .slice al G.labels.length cl, .slice as_ sets.length cs, .int .i64 A.sets, .slice bi A.init.length di, .slice bn A.nodes.length dn], .agg #[.int .i64 b1, .int .i64 b2]] w fun e w' => ∃ sa sc la lc, e = .returned (.agg (fcells (resP G sets A b1 b2) sa sc la lc).toArray) ∧ Below w.heap.size w w' ∧ PpsAt w' sa (resP G sets A b1 b2).stem ∧ PpsAt w' la (resP G sets A b1 b2).loop) := fun w hb => rsearch_law w ⟨ai, ae, al, as_, bi, bn, ci, ce, cl, cs, di, dn⟩ G sets A (RPA.out w hb) lt hn b1 b2
 have RAC0 := Lib.hid (fun w (hb : Below W.heap.size W w) => racts_any w ⟨ai, ae, al, as_, bi, bn, ci, ce, cl, cs, di, dn⟩ G sets A (RPA.out w hb))
 have ACN := Lib.hid (fun w v (hv : NewV w G sets A v) => acts_nv w v G sets A hv lt)
 have RN := Lib.hid (fun w (hb : Below W.heap.size W w) => rnew_any w ⟨ai, ae, al, as_, bi, bn, ci, ce, cl, cs, di, dn⟩ G sets A (h.g.below hb) h.ok (h.s.below hb) (h.au.below hb) h.aok)
 have RN2 : Hid (∀ w, Below W.heap.size W w → Calls Try.prog 11 #[.agg #[.slice ai G.init.length ci, .slice ae G.edges.length ce, .slice al G.labels.length cl], .slice as_ sets.length cs, .agg #[.int .i64 A.sets, .slice bi A.init.length di, .slice bn A.nodes.length dn]] w fun e w' => e = .returned (.tuple #[.agg #[.slice ai G.init.length ci, .slice ae G.edges.length ce, .slice al G.labels.length cl, .slice as_ sets.length cs, .int .i64 A.sets, .slice bi A.init.length di, .slice bn A.nodes.length dn], .bool true]) ∧ Below w.heap.size w w') := fun w hb => (RN.out w hb).mono fun e w' hh => by rw [hn] at hh; exact hh
 have hAP : Hid (∀ st lo, lassoActs (ndAct G sets A) st lo = actsP G sets A st lo) := fun st lo => by unfold actsP; rw [if_pos hn]
 replace hn := Lib.hid hn
 replace lt := Lib.hid lt
 clear RN
 have B0 := BoxT.start W ⟨ai, ae, al, as_, bi, bn, ci, ce, cl, cs, di, dn⟩ G sets A b1 b2
 obtain ⟨w2, hw2⟩ : ∃ w2, w2 = (W.alloc (.cells #[.slice ai G.init.length ci, .slice ae G.edges.length ce, .slice al G.labels.length cl, .slice as_ sets.length cs, .int .i64 A.sets, .slice bi A.init.length di, .slice bn A.nodes.length dn] TTk)).alloc (.cells #[.int .i64 b1, .int .i64 b2] TBu) := ⟨_, rfl⟩
 replace B0 : BoxT W ⟨ai, ae, al, as_, bi, bn, ci, ce, cl, cs, di, dn⟩ G sets A b1 b2 w2 := by rw [hw2]; exact B0
 have HV : Hid (∀ w, Below W.heap.size W w → Calls Try.prog 9 #[.agg #[.slice ai G.init.length ci, .slice ae G.edges.length ce, .slice al G.labels.length cl, .slice as_ sets.length cs, .int .i64 A.sets, .slice bi A.init.length di, .slice bn A.nodes.length dn]] w fun e w' => e = .returned (.int .i64 0) ∧ Below w.heap.size w w') := fun w hb => by
  have := heavy_any w ⟨ai, ae, al, as_, bi, bn, ci, ce, cl, cs, di, dn⟩ G sets A (h.below hb)
  rw [heavyN_0 hl] at this
  exact this
 have hb0 := Lib.hid B0.below
 replace B0 := Lib.hid B0
 have r0 := Lib.hid B0.out.rt
 have t0 : w2.cell? ⟨W.heap.size, 0, none⟩ = some (.slice ai G.init.length ci) := B0.out.rt.cell 0
 have t1 : w2.cell? ⟨W.heap.size, 1, none⟩ = some (.slice ae G.edges.length ce) := B0.out.rt.cell 1
 have t2 : w2.cell? ⟨W.heap.size, 2, none⟩ = some (.slice al G.labels.length cl) := B0.out.rt.cell 2
 have t3 : w2.cell? ⟨W.heap.size, 3, none⟩ = some (.slice as_ sets.length cs) := B0.out.rt.cell 3
 have t4 : w2.cell? ⟨W.heap.size, 4, none⟩ = some (.int .i64 A.sets) := B0.out.rt.cell 4
 have t5 : w2.cell? ⟨W.heap.size, 5, none⟩ = some (.slice bi A.init.length di) := B0.out.rt.cell 5
 have t6 : w2.cell? ⟨W.heap.size, 6, none⟩ = some (.slice bn A.nodes.length dn) := B0.out.rt.cell 6
 replace hw2 := Lib.hid hw2
 clear r0
 go_enter Try.func3, Try.ntmps3
 go_upto_region 1 with (fail)
 rw [← hw2.out]
 clear hw2
 go_wp2_with fail
 refine (HV.out _ hb0.out).mono ?_
 rintro e w3 ⟨rfl, hb3⟩
 clear t0 t1 t2 t3 t4 t5 t6
 have BT := B0.out.next hb3
 have t0 : w3.cell? ⟨W.heap.size, 0, none⟩ = some (.slice ai G.init.length ci) := BT.rt.cell 0
 have t1 : w3.cell? ⟨W.heap.size, 1, none⟩ = some (.slice ae G.edges.length ce) := BT.rt.cell 1
 have t2 : w3.cell? ⟨W.heap.size, 2, none⟩ = some (.slice al G.labels.length cl) := BT.rt.cell 2
 have t3 : w3.cell? ⟨W.heap.size, 3, none⟩ = some (.slice as_ sets.length cs) := BT.rt.cell 3
 have t4 : w3.cell? ⟨W.heap.size, 4, none⟩ = some (.int .i64 A.sets) := BT.rt.cell 4
 have t5 : w3.cell? ⟨W.heap.size, 5, none⟩ = some (.slice bi A.init.length di) := BT.rt.cell 5
 have t6 : w3.cell? ⟨W.heap.size, 6, none⟩ = some (.slice bn A.nodes.length dn) := BT.rt.cell 6
 clear B0 HV h hl
 go_wp2_with fail
 refine (RN2.out w3 BT.below).mono ?_
 rintro e w4 ⟨rfl, hb4⟩
 clear t0 t1 t2 t3 t4 t5 t6
 obtain ⟨w5, hw5⟩ : ∃ w5, w5 = w4.alloc (.cells #[.slice ai G.init.length ci, .slice ae G.edges.length ce, .slice al G.labels.length cl, .slice as_ sets.length cs, .int .i64 A.sets, .slice bi A.init.length di, .slice bn A.nodes.length dn] TRP) := ⟨_, rfl⟩
 obtain ⟨pb, hpb⟩ : ∃ pb, pb = w4.heap.size := ⟨_, rfl⟩
 have rp5 : RowAt w5 pb TRP [.slice ai G.init.length ci, .slice ae G.edges.length ce, .slice al G.labels.length cl, .slice as_ sets.length cs, .int .i64 A.sets, .slice bi A.init.length di, .slice bn A.nodes.length dn] := by rw [hw5]; exact RowAt.new #[.slice ai G.init.length ci, .slice ae G.edges.length ce, .slice al G.labels.length cl, .slice as_ sets.length cs, .int .i64 A.sets, .slice bi A.init.length di, .slice bn A.nodes.length dn] hpb
 have hb5 : Below w4.heap.size w4 w5 := by rw [hw5]; exact balloc (Below.refl _ _) _
 have BT5 := Lib.hid ((BT.next hb4).next hb5)
 replace hw5 := Lib.hid hw5
 replace hpb := Lib.hid hpb
 replace rp5 := Lib.hid rp5
 clear RN2 BT hb4 hb5 hb3
 go_upto_region 6 with (fail)
 rw [← hw5.out, ← hpb.out]
 clear hw5 hpb
 refine wp_region_kp (by kernel_rfl) 9 [.fix (.pointer (some ⟨W.heap.size, 0, none⟩)), .fix (.agg #[.slice ai G.init.length ci, .slice ae G.edges.length ce, .slice al G.labels.length cl]), .fix (.pointer (some ⟨W.heap.size, 3, none⟩)), .fix (.slice as_ sets.length cs), Kp.src G sets, .fix (.pointer (some ⟨W.heap.size, 4, none⟩)), .fix (.agg #[.int .i64 A.sets, .slice bi A.init.length di, .slice bn A.nodes.length dn]), Kp.new G sets A, Kp.new G sets A] (by kernel_rfl) (by kernel_rfl) (by kernel_rfl) ?_ ?_
 ·intro i hi
  match i, hi with
  | 0, _ =>
   intro o ho ac w' hR hF hD K hK
   simp only [zqA, zqZ, zqI] at ho
   subst ho
   have e2 : ac.tmps.getD 2 undef = .pointer (some ⟨W.heap.size, 0, none⟩) := hF 2 (znd (by kernel_rfl))
   have d2 := zgD e2
   clear hD hF
   go_simp
   exact hK _ _ (Below.refl _ _) rfl
  | 1, _ =>
   intro o ho ac w' hR hF hD K hK
   simp only [zqA, zqZ, zqS, zqI] at ho
   subst ho
   have e33 : ac.tmps.getD 33 undef = .pointer (some ⟨W.heap.size, 0, none⟩) := hD 0 (zdp (by kernel_rfl)) 33 rfl
   have d33 := zgD e33
   clear hD hF
   have q0 : w'.cell? ⟨W.heap.size, 0, none⟩ = some (.slice ai G.init.length ci) := (BT5.out.rt.below hR).cell 0
   have q1 : w'.cell? ⟨W.heap.size, 1, none⟩ = some (.slice ae G.edges.length ce) := (BT5.out.rt.below hR).cell 1
   have q2 : w'.cell? ⟨W.heap.size, 2, none⟩ = some (.slice al G.labels.length cl) := (BT5.out.rt.below hR).cell 2
   go_simp
   exact hK _ _ (Below.refl _ _) rfl
  | 2, _ =>
   intro o ho ac w' hR hF hD K hK
   simp only [zqA, zqZ, zqS, zqI] at ho
   subst ho
   have e2 : ac.tmps.getD 2 undef = .pointer (some ⟨W.heap.size, 0, none⟩) := hF 2 (znd (by kernel_rfl))
   have d2 := zgD e2
   clear hD hF
   go_simp
   exact hK _ _ (Below.refl _ _) rfl
  | 3, _ =>
   intro o ho ac w' hR hF hD K hK
   simp only [zqA, zqZ, zqS, zqI] at ho
   subst ho
   have e35 : ac.tmps.getD 35 undef = .pointer (some ⟨W.heap.size, 3, none⟩) := hD 2 (zdp (by kernel_rfl)) 35 rfl
   have d35 := zgD e35
   clear hD hF
   have q3 : w'.cell? ⟨W.heap.size, 3, none⟩ = some (.slice as_ sets.length cs) := (BT5.out.rt.below hR).cell 3
   go_simp
   exact hK _ _ (Below.refl _ _) rfl
  | 4, _ =>
   intro o ho ac w' hR hF hD K hK
   simp only [zqA, zqZ, zqS, zqI] at ho
   subst ho
   have e34 : ac.tmps.getD 34 undef = .agg #[.slice ai G.init.length ci, .slice ae G.edges.length ce, .slice al G.labels.length cl] := hD 1 (zdp (by kernel_rfl)) 34 rfl
   have d34 := zgD e34
   have e36 : ac.tmps.getD 36 undef = .slice as_ sets.length cs := hD 3 (zdp (by kernel_rfl)) 36 rfl
   have d36 := zgD e36
   clear hD hF
   go_simp
   refine (GRC.out w' (btrans BT5.out.below hR)).mono ?_
   rintro e w6 h6
   have hb6 := h6.1
   obtain ⟨v, rfl, hv⟩ := h6.v
   exact hK _ _ hb6 hv
  | 5, _ =>
   intro o ho ac w' hR hF hD K hK
   simp only [zqA, zqZ, zqS, zqI] at ho
   subst ho
   have e2 : ac.tmps.getD 2 undef = .pointer (some ⟨W.heap.size, 0, none⟩) := hF 2 (znd (by kernel_rfl))
   have d2 := zgD e2
   clear hD hF
   go_simp
   exact hK _ _ (Below.refl _ _) rfl
  | 6, _ =>
   intro o ho ac w' hR hF hD K hK
   simp only [zqA, zqZ, zqS, zqI] at ho
   subst ho
   have e38 : ac.tmps.getD 38 undef = .pointer (some ⟨W.heap.size, 4, none⟩) := hD 5 (zdp (by kernel_rfl)) 38 rfl
   have d38 := zgD e38
   clear hD hF
   have q4 : w'.cell? ⟨W.heap.size, 4, none⟩ = some (.int .i64 A.sets) := (BT5.out.rt.below hR).cell 4
   have q5 : w'.cell? ⟨W.heap.size, 5, none⟩ = some (.slice bi A.init.length di) := (BT5.out.rt.below hR).cell 5
   have q6 : w'.cell? ⟨W.heap.size, 6, none⟩ = some (.slice bn A.nodes.length dn) := (BT5.out.rt.below hR).cell 6
   go_simp
   exact hK _ _ (Below.refl _ _) rfl
  | 7, _ =>
   intro o ho ac w' hR hF hD K hK
   simp only [zqA, zqZ, zqS, zqI] at ho
   subst ho
   have y37 := hD 4 (zdp (by kernel_rfl)) 37 rfl
   obtain ⟨xv, hxv⟩ : ∃ xv, xv = ac.tmps.getD 37 undef := ⟨_, rfl⟩
   have sv : SrcV w' G sets xv := by rw [hxv]; exact y37
   have e37 := hxv.symm
   have d37 := zgD e37
   clear y37 hxv
   have e39 : ac.tmps.getD 39 undef = .agg #[.int .i64 A.sets, .slice bi A.init.length di, .slice bn A.nodes.length dn] := hD 6 (zdp (by kernel_rfl)) 39 rfl
   have d39 := zgD e39
   clear hD hF
   go_simp
   refine (NVC.out w' (btrans BT5.out.below hR) _ sv).mono ?_
   rintro e w6 h6
   have hb6 := h6.1
   obtain ⟨v, rfl, hv⟩ := h6.v
   exact hK _ _ hb6 hv
  | 8, _ =>
   intro o ho ac w' hR hF hD K hK
   simp only [zqA, zqZ, zqS, zqI] at ho
   subst ho
   have e33 : ac.tmps.getD 33 undef = .pointer (some ⟨W.heap.size, 0, none⟩) := hD 0 (zdp (by kernel_rfl)) 33 rfl
   have d33 := zgD e33
   have e34 : ac.tmps.getD 34 undef = .agg #[.slice ai G.init.length ci, .slice ae G.edges.length ce, .slice al G.labels.length cl] := hD 1 (zdp (by kernel_rfl)) 34 rfl
   have d34 := zgD e34
   have e35 : ac.tmps.getD 35 undef = .pointer (some ⟨W.heap.size, 3, none⟩) := hD 2 (zdp (by kernel_rfl)) 35 rfl
   have d35 := zgD e35
   have e36 : ac.tmps.getD 36 undef = .slice as_ sets.length cs := hD 3 (zdp (by kernel_rfl)) 36 rfl
   have d36 := zgD e36
   have y37 := hD 4 (zdp (by kernel_rfl)) 37 rfl
   obtain ⟨xv, hxv⟩ : ∃ xv, xv = ac.tmps.getD 37 undef := ⟨_, rfl⟩
   have sv : SrcV w' G sets xv := by rw [hxv]; exact y37
   have e37 := hxv.symm
   have d37 := zgD e37
   clear y37 hxv
   have e38 : ac.tmps.getD 38 undef = .pointer (some ⟨W.heap.size, 4, none⟩) := hD 5 (zdp (by kernel_rfl)) 38 rfl
   have d38 := zgD e38
   have e39 : ac.tmps.getD 39 undef = .agg #[.int .i64 A.sets, .slice bi A.init.length di, .slice bn A.nodes.length dn] := hD 6 (zdp (by kernel_rfl)) 39 rfl
   have d39 := zgD e39
   have y40 := hD 7 (zdp (by kernel_rfl)) 40 rfl
   obtain ⟨xv, hxv⟩ : ∃ xv, xv = ac.tmps.getD 40 undef := ⟨_, rfl⟩
   have sv : NewV w' G sets A xv := by rw [hxv]; exact y40
   have e40 := hxv.symm
   have d40 := zgD e40
   clear y40 hxv
   clear hD hF
   go_simp
   exact hK _ _ (Below.refl _ _) sv
  | k + 9, hk => omega
 ·rintro ⟨tm, df⟩ w6 hdf hsz hF hR hV
  obtain rfl : df = [] := hdf
  obtain ⟨q, rfl⟩ := frame93 tm hsz
  have nv : NewV w6 G sets A (q 7) := hV 8 7 (by decide) rfl
  obtain ⟨pv, hpv⟩ : ∃ pv, pv = q 7 := ⟨_, rfl⟩
  rw [← hpv] at nv ⊢
  clear hpv
  have kk := zbk hF [0, 1, 2, 3, 4, 5, 6, 8, 9, 10, 11, 12, 13, 14, 15, 16, 17, 18, 19, 20, 21, 22, 23, 24, 25, 26, 27, 28, 29, 30, 31, 32, 41, 42, 43, 44, 45, 46, 47, 48, 49, 50, 51, 52, 53, 54, 55, 56, 57, 58, 59, 60, 61, 62, 63, 64, 65, 66, 67, 68, 69, 70, 71, 72, 73, 74, 75, 76, 77, 78, 79, 80, 81, 82, 83, 84, 85, 86, 87, 88, 89, 90, 91, 92] (by kernel_rfl)
  simp only [Bk, Array.getD_eq_getD_getElem?, zqA, zqS, zqZ, Option.getD_some] at kk
  simp only [kk]
  clear kk
  clear hF hV hsz
  change wpAny _ _ _ _ 0 _ _ _
  refine ⟨by kernel_rfl, ?_⟩
  have b60 : w6.cell? ⟨W.heap.size + 1, 0, none⟩ = some (.int .i64 b1) := (BT5.out.rb.below hR).cell 0
  have b61 : w6.cell? ⟨W.heap.size + 1, 1, none⟩ = some (.int .i64 b2) := (BT5.out.rb.below hR).cell 1
  have rb6 := Lib.hid (BT5.out.rb.below hR)
  have rp6 := Lib.hid (rp5.out.below hR)
  have hbw6 := Lib.hid (btrans BT5.out.below hR)
  replace nv := Lib.hid nv
  clear hR BT5 rp5 GRC NVC
  go_wp2_with fail
  refine (SC.out w6 pv nv.out).mono ?_
  rintro e w7 ⟨v, rfl, hb7, hfv⟩
  obtain ⟨f, hf⟩ : ∃ f, f = resP G sets A b1 b2 := ⟨_, rfl⟩
  rw [← hf] at hfv LEN XL0 RSC
  clear hf
  obtain ⟨fk, fy, fn, fe, fd, stem, loop⟩ := f
  obtain ⟨sa, sc, la, lc, rfl, ps, pl⟩ := hfv.at
  clear hfv
  obtain ⟨k9, hk9⟩ : ∃ k9 : Int, k9 = (fk : Int) := ⟨_, rfl⟩
  obtain ⟨y9, hy9⟩ : ∃ k9 : Int, k9 = (fy : Int) := ⟨_, rfl⟩
  obtain ⟨n9, hn9⟩ : ∃ k9 : Int, k9 = (fn : Int) := ⟨_, rfl⟩
  obtain ⟨m9, hm9⟩ : ∃ k9 : Int, k9 = (fe : Int) := ⟨_, rfl⟩
  obtain ⟨o9, ho9⟩ : ∃ k9 : Int, k9 = (fd : Int) := ⟨_, rfl⟩
  obtain ⟨n1, hn1⟩ : ∃ n, n = stem.length := ⟨_, rfl⟩
  obtain ⟨n2, hn2⟩ : ∃ n, n = loop.length := ⟨_, rfl⟩
  have hfc : ∀ sa sc la lc, Value.agg (fcells ⟨fk, fy, fn, fe, fd, stem, loop⟩ sa sc la lc).toArray = .agg #[.int .i64 k9, .int .i64 y9, .int .i64 n9, .int .i64 m9, .int .i64 o9, .slice sa n1 sc, .slice la n2 lc] := fun sa sc la lc => by rw [hk9, hy9, hn9, hm9, ho9, hn1, hn2]; rfl
  rw [hfc]
  dsimp only at ps pl LEN XL0
  replace RSC : Hid (∀ w, Below W.heap.size W w → Calls Try.prog 15 #[.agg #[.slice ai G.init.length ci, .slice ae G.edges.length ce, .slice al G.labels.length cl, .slice as_ sets.length cs, .int .i64 A.sets, .slice bi A.init.length di, .slice bn A.nodes.length dn], .agg #[.int .i64 b1, .int .i64 b2]] w fun e w' => ∃ sa sc la lc, e = .returned (.agg #[.int .i64 k9, .int .i64 y9, .int .i64 n9, .int .i64 m9, .int .i64 o9, .slice sa n1 sc, .slice la n2 lc]) ∧ Below w.heap.size w w' ∧ PpsAt w' sa stem ∧ PpsAt w' la loop) := fun w hb => (RSC.out w hb).mono fun e w' ⟨sa, sc, la, lc, h1, h2⟩ => ⟨sa, sc, la, lc, h1.trans (by rw [hfc]), h2⟩
  replace hn1 := Lib.hid hn1.symm
  replace hn2 := Lib.hid hn2.symm
  replace LEN := Lib.hid LEN
  replace XL0 := Lib.hid XL0
  clear hfc hk9 hy9 hn9 hm9 ho9 b60 b61
  obtain ⟨w8, hw8⟩ : ∃ w8, w8 = w7.alloc (.cells #[.int .i64 k9, .int .i64 y9, .int .i64 n9, .int .i64 m9, .int .i64 o9, .slice sa n1 sc, .slice la n2 lc] TFd) := ⟨_, rfl⟩
  obtain ⟨p8, hp8⟩ : ∃ p8, p8 = w7.heap.size := ⟨_, rfl⟩
  have r8 : RowAt w8 p8 TFd [.int .i64 k9, .int .i64 y9, .int .i64 n9, .int .i64 m9, .int .i64 o9, .slice sa n1 sc, .slice la n2 lc] := by rw [hw8]; exact RowAt.new #[.int .i64 k9, .int .i64 y9, .int .i64 n9, .int .i64 m9, .int .i64 o9, .slice sa n1 sc, .slice la n2 lc] hp8
  have hb68 : Below w6.heap.size w6 w8 := by rw [hw8]; exact balloc hb7 _
  have hb78 : Below w7.heap.size w7 w8 := by rw [hw8]; exact balloc (Below.refl _ _) _
  have ps8 := Lib.hid (ps.below hb78)
  have pl8 := Lib.hid (pl.below hb78)
  have rb8 := Lib.hid (rb6.out.below hb68)
  have rp8 := Lib.hid (rp6.out.below hb68)
  have nv8 := Lib.hid (nv.out.below hb68)
  have hbw8 := Lib.hid (btrans hbw6.out hb68)
  replace hw8 := Lib.hid hw8
  replace hp8 := Lib.hid hp8
  replace r8 := Lib.hid r8
  clear ps pl hb68 hb78 hb7 rb6 rp6 nv hbw6 SC
  go_upto_region 8 with (fail)
  rw [← hw8.out, ← hp8.out]
  clear hw8 hp8
  have b80 : w8.cell? ⟨W.heap.size + 1, 0, none⟩ = some (.int .i64 b1) := rb8.out.cell 0
  have b81 : w8.cell? ⟨W.heap.size + 1, 1, none⟩ = some (.int .i64 b2) := rb8.out.cell 1
  have z0 : w8.cell? ⟨pb, 0, none⟩ = some (.slice ai G.init.length ci) := rp8.out.cell 0
  have z1 : w8.cell? ⟨pb, 1, none⟩ = some (.slice ae G.edges.length ce) := rp8.out.cell 1
  have z2 : w8.cell? ⟨pb, 2, none⟩ = some (.slice al G.labels.length cl) := rp8.out.cell 2
  have z3 : w8.cell? ⟨pb, 3, none⟩ = some (.slice as_ sets.length cs) := rp8.out.cell 3
  have z4 : w8.cell? ⟨pb, 4, none⟩ = some (.int .i64 A.sets) := rp8.out.cell 4
  have z5 : w8.cell? ⟨pb, 5, none⟩ = some (.slice bi A.init.length di) := rp8.out.cell 5
  have z6 : w8.cell? ⟨pb, 6, none⟩ = some (.slice bn A.nodes.length dn) := rp8.out.cell 6
  go_wp2_with fail
  refine (RSC.out w8 hbw8.out).mono ?_
  rintro e w9 ⟨a1, c1, a2, c2, rfl, hb9, qs, ql⟩
  obtain ⟨wz, hwz⟩ : ∃ wz, wz = w9.alloc (.cells #[.int .i64 k9, .int .i64 y9, .int .i64 n9, .int .i64 m9, .int .i64 o9, .slice a1 n1 c1, .slice a2 n2 c2] TRF) := ⟨_, rfl⟩
  obtain ⟨p9, hp9⟩ : ∃ p9, p9 = w9.heap.size := ⟨_, rfl⟩
  have r9 : RowAt wz p9 TRF [.int .i64 k9, .int .i64 y9, .int .i64 n9, .int .i64 m9, .int .i64 o9, .slice a1 n1 c1, .slice a2 n2 c2] := by rw [hwz]; exact RowAt.new #[.int .i64 k9, .int .i64 y9, .int .i64 n9, .int .i64 m9, .int .i64 o9, .slice a1 n1 c1, .slice a2 n2 c2] hp9
  have hb8z : Below w8.heap.size w8 wz := by rw [hwz]; exact balloc hb9 _
  have hb9z : Below w9.heap.size w9 wz := by rw [hwz]; exact balloc (Below.refl _ _) _
  have psz := ps8.out.below hb8z
  have plz := pl8.out.below hb8z
  have qsz := qs.below hb9z
  have qlz := ql.below hb9z
  have rpz := Lib.hid (rp8.out.below hb8z)
  have nvz := Lib.hid (nv8.out.below hb8z)
  have r8z := Lib.hid (r8.out.below hb8z)
  have hbwz := Lib.hid (btrans hbw8.out hb8z)
  have LL : Hid (stem.length ≤ 1000000 ∧ loop.length ≤ 1000000) := by have := LEN.out; exact ⟨by omega, by omega⟩
  have LAS : Hid (∀ w, Below wz.heap.size wz w → Calls Try.prog 16 #[.agg #[.int .i64 k9, .int .i64 y9, .int .i64 n9, .int .i64 m9, .int .i64 o9, .slice sa n1 sc, .slice la n2 lc]] w fun e w' => ∃ a c a2 c2, e = .returned (.agg #[.slice a n1 c, .slice a2 n2 c2]) ∧ NumsNew w.heap.size w' a (stem.map PP.node) ∧ NumsNew w.heap.size w' a2 (loop.map PP.node) ∧ Below w.heap.size w w') := fun w hb => by
   have := lassoV_any w k9 y9 n9 m9 o9 sa la sc lc stem loop (psz.below hb) (plz.below hb) LL.out.1 LL.out.2
   rw [hn1.out, hn2.out] at this
   refine this.mono fun e w' ⟨v', e1, e2, a, c, a2, c2, e3, e4, e5⟩ => ⟨a, c, a2, c2, ?_, e4, e5, e2⟩
   rw [e1, e3, List.length_map, List.length_map, hn1.out, hn2.out]
  have RLA : Hid (∀ w, Below wz.heap.size wz w → Calls Try.prog 17 #[.agg #[.int .i64 k9, .int .i64 y9, .int .i64 n9, .int .i64 m9, .int .i64 o9, .slice a1 n1 c1, .slice a2 n2 c2]] w fun e w' => ∃ a c a2 c2, e = .returned (.agg #[.slice a n1 c, .slice a2 n2 c2]) ∧ NumsNew w.heap.size w' a (stem.map PP.node) ∧ NumsNew w.heap.size w' a2 (loop.map PP.node) ∧ Below w.heap.size w w') := fun w hb => by
   have := rlassoV_any w k9 y9 n9 m9 o9 a1 a2 c1 c2 stem loop (qsz.below hb) (qlz.below hb) LL.out.1 LL.out.2
   rw [hn1.out, hn2.out] at this
   refine this.mono fun e w' ⟨v', e1, e2, a, c, a2, c2, e3, e4, e5⟩ => ⟨a, c, a2, c2, ?_, e4, e5, e2⟩
   rw [e1, e3, List.length_map, List.length_map, hn1.out, hn2.out]
  have ACT : Hid (∀ w, Below wz.heap.size wz w → Calls Try.prog 18 #[pv, .agg #[.int .i64 k9, .int .i64 y9, .int .i64 n9, .int .i64 m9, .int .i64 o9, .slice sa n1 sc, .slice la n2 lc]] w fun e w' => Below w.heap.size w w' ∧ TwoAt w' e (actsP G sets A stem loop)) := fun w hb => by
   have := ACN.out w pv (nvz.out.below hb) k9 y9 n9 m9 o9 sa la sc lc stem loop (psz.below hb) (plz.below hb) LL.out.1 LL.out.2
   rw [hn1.out, hn2.out] at this
   exact this
  have RAC : Hid (∀ w, Below wz.heap.size wz w → Calls Try.prog 19 #[.agg #[.slice ai G.init.length ci, .slice ae G.edges.length ce, .slice al G.labels.length cl, .slice as_ sets.length cs, .int .i64 A.sets, .slice bi A.init.length di, .slice bn A.nodes.length dn], .agg #[.int .i64 k9, .int .i64 y9, .int .i64 n9, .int .i64 m9, .int .i64 o9, .slice a1 n1 c1, .slice a2 n2 c2]] w fun e w' => Below w.heap.size w w' ∧ TwoAt w' e (actsP G sets A stem loop)) := fun w hb => by
   have := RAC0.out w (btrans hbwz.out hb) k9 y9 n9 m9 o9 a1 a2 c1 c2 stem loop (qsz.below hb) (qlz.below hb) LL.out.1 LL.out.2
   rw [hn1.out, hn2.out, hAP.out] at this
   exact this
  have SAM : Hid (∀ w, Below wz.heap.size wz w → Calls Try.prog 20 #[.agg #[.int .i64 k9, .int .i64 y9, .int .i64 n9, .int .i64 m9, .int .i64 o9, .slice sa n1 sc, .slice la n2 lc], .agg #[.int .i64 k9, .int .i64 y9, .int .i64 n9, .int .i64 m9, .int .i64 o9, .slice a1 n1 c1, .slice a2 n2 c2]] w fun e w' => e = .returned (.bool true) ∧ Below w.heap.size w w') := fun w hb => by
   have := same_any w k9 y9 n9 m9 o9 sa la a1 a2 sc lc c1 c2 stem loop (psz.below hb) (plz.below hb) (qsz.below hb) (qlz.below hb) LL.out.1 LL.out.2
   rw [hn1.out, hn2.out] at this
   exact this
  have hl1 : Hid ((stem.map PP.node).length = n1) := by show _ = _; rw [List.length_map]; exact hn1.out
  have hl2' : Hid ((loop.map PP.node).length = n2) := by show _ = _; rw [List.length_map]; exact hn2.out
  have hln : Hid (n1 ≤ 1000000 ∧ n2 ≤ 1000000) := by have h1 := LL.out; have h2 := hn1.out; have h3 := hn2.out; exact ⟨by omega, by omega⟩
  generalize actsP G sets A stem loop = X9 at ACT RAC XL0
  obtain ⟨X1, X2⟩ := X9
  have hXl : Hid (X1.length ≤ 9223372036854775807 ∧ X2.length ≤ 9223372036854775807) := by
   have h1 := XL0.out; have h2 := LL.out; dsimp only at h1; exact ⟨by omega, by omega⟩
  replace hwz := Lib.hid hwz
  replace hp9 := Lib.hid hp9
  replace r9 := Lib.hid r9
  clear psz plz qsz qlz nvz ps8 pl8 qs ql rp8 nv8 r8 hbw8 hb9z hb8z hb9 LEN XL0 RSC RAC0 ACN RPA rb8 hAP b80 b81 z0 z1 z2 z3 z4 z5 z6
  go_upto_region 9 with (fail)
  rw [← hwz.out, ← hp9.out]
  clear hwz hp9
  refine wp_region_dyn (by kernel_rfl) 6 (fun w' => Below wz.heap.size wz w') (fun i => ([some (.agg #[.int .i64 k9, .int .i64 y9, .int .i64 n9, .int .i64 m9, .int .i64 o9, .slice sa n1 sc, .slice la n2 lc]), none, some (.agg #[.int .i64 k9, .int .i64 y9, .int .i64 n9, .int .i64 m9, .int .i64 o9, .slice a1 n1 c1, .slice a2 n2 c2]), none, none, none] : List (Option Value)).getD i none) (fun i => ([false, true, false, true, true, true] : List Bool).getD i false) (LasD wz.heap.size n1 n2 (stem.map PP.node) (loop.map PP.node)) (by kernel_rfl) (by kernel_rfl) (by kernel_rfl) (Below.refl _ _).drew (fun rho => LasD.start) ?_ ?_ ?_
  ·intro i hi hdy
   match i, hi, hdy with
   | 0, _, _ =>
    refine ⟨_, rfl, fun L rho w h => h.pass (by decide) (by decide) (by decide) (by decide), ?_⟩
    intro o ho ac w' hR hF hX
    simp only [zqA, zqZ, zqI] at ho
    subst ho
    refine ⟨fun h => (by cases h), fun K hK => ?_⟩
    have e8 : ac.tmps.getD 8 undef = .pointer (some ⟨p8, 0, none⟩) := hF 8 (znd (by kernel_rfl))
    have d8 := zgD e8
    have q0 : w'.cell? ⟨p8, 0, none⟩ = some (.int .i64 k9) := (r8z.out.below hR).cell 0
    have q1 : w'.cell? ⟨p8, 1, none⟩ = some (.int .i64 y9) := (r8z.out.below hR).cell 1
    have q2 : w'.cell? ⟨p8, 2, none⟩ = some (.int .i64 n9) := (r8z.out.below hR).cell 2
    have q3 : w'.cell? ⟨p8, 3, none⟩ = some (.int .i64 m9) := (r8z.out.below hR).cell 3
    have q4 : w'.cell? ⟨p8, 4, none⟩ = some (.int .i64 o9) := (r8z.out.below hR).cell 4
    have q5 : w'.cell? ⟨p8, 5, none⟩ = some (.slice sa n1 sc) := (r8z.out.below hR).cell 5
    have q6 : w'.cell? ⟨p8, 6, none⟩ = some (.slice la n2 lc) := (r8z.out.below hR).cell 6
    clear hX hF
    go_simp
    exact hK
   | 1, _, hdy => exact znF hdy
   | 2, _, _ =>
    refine ⟨_, rfl, fun L rho w h => h.pass (by decide) (by decide) (by decide) (by decide), ?_⟩
    intro o ho ac w' hR hF hX
    simp only [zqA, zqZ, zqS, zqI] at ho
    subst ho
    refine ⟨fun h => (by cases h), fun K hK => ?_⟩
    have e9 : ac.tmps.getD 9 undef = .pointer (some ⟨p9, 0, none⟩) := hF 9 (znd (by kernel_rfl))
    have d9 := zgD e9
    have q0 : w'.cell? ⟨p9, 0, none⟩ = some (.int .i64 k9) := (r9.out.below hR).cell 0
    have q1 : w'.cell? ⟨p9, 1, none⟩ = some (.int .i64 y9) := (r9.out.below hR).cell 1
    have q2 : w'.cell? ⟨p9, 2, none⟩ = some (.int .i64 n9) := (r9.out.below hR).cell 2
    have q3 : w'.cell? ⟨p9, 3, none⟩ = some (.int .i64 m9) := (r9.out.below hR).cell 3
    have q4 : w'.cell? ⟨p9, 4, none⟩ = some (.int .i64 o9) := (r9.out.below hR).cell 4
    have q5 : w'.cell? ⟨p9, 5, none⟩ = some (.slice a1 n1 c1) := (r9.out.below hR).cell 5
    have q6 : w'.cell? ⟨p9, 6, none⟩ = some (.slice a2 n2 c2) := (r9.out.below hR).cell 6
    clear hX hF
    go_simp
    exact hK
   | 3, _, hdy => exact znF hdy
   | 4, _, hdy => exact znF hdy
   | 5, _, hdy => exact znF hdy
   | k + 6, hk, _ => omega
  ·intro i hi hdy
   match i, hi, hdy with
   | 0, _, hdy => exact znT hdy
   | 1, _, _ =>
    intro o ho ac w' L rho hR hD hl hc hdep hX hF K hK
    simp only [zqA, zqZ, zqS, zqI] at ho
    subst ho
    have e47 : ac.tmps.getD 47 undef = .agg #[.int .i64 k9, .int .i64 y9, .int .i64 n9, .int .i64 m9, .int .i64 o9, .slice sa n1 sc, .slice la n2 lc] := hX 0 (zdp (by kernel_rfl)) _ rfl
    have d47 := zgD e47
    go_simp
    refine (LAS.out w' hR).mono ?_
    rintro e w6 ⟨a, c, a2, c2, rfl, h1, h2, hb6⟩
    exact hK _ _ (btrans hR hb6) (fun h => by cases h) (fun u h => by cases h) (hD.call_ (by decide) hb6 hR.size hl1.out hl2'.out h1 h2)
   | 2, _, hdy => exact znT hdy
   | 3, _, _ =>
    intro o ho ac w' L rho hR hD hl hc hdep hX hF K hK
    simp only [zqA, zqZ, zqS, zqI] at ho
    subst ho
    have r48 : ac.tmps.getD 48 undef = rho 1 := (hdep 1 (zdp (by kernel_rfl))).2
    have e49 : ac.tmps.getD 49 undef = .agg #[.int .i64 k9, .int .i64 y9, .int .i64 n9, .int .i64 m9, .int .i64 o9, .slice a1 n1 c1, .slice a2 n2 c2] := hX 2 (zdp (by kernel_rfl)) _ rfl
    have d49 := zgD e49
    go_simp
    refine (RLA.out w' hR).mono ?_
    rintro e w6 ⟨a, c, a2, c2, rfl, h1, h2, hb6⟩
    exact hK _ _ (btrans hR hb6) (fun h => by cases h) (fun u h => by cases h) (hD.call_ (by decide) hb6 hR.size hl1.out hl2'.out h1 h2)
   | 4, _, _ =>
    intro o ho ac w' L rho hR hD hl hc hdep hX hF K hK
    simp only [zqA, zqZ, zqS, zqI] at ho
    subst ho
    go_simp
    exact hK _ _ (balloc hR _) (fun h => by cases h) (fun u h => by cases h) (hD.box_ (by decide) hR.size hl1.out hl2'.out)
   | 5, _, _ =>
    intro o ho ac w' L rho hR hD hl hc hdep hX hF K hK
    simp only [zqA, zqZ, zqS, zqI] at ho
    subst ho
    go_simp
    exact hK _ _ (balloc hR _) (fun h => by cases h) (fun u h => by cases h) (hD.box_ (by decide) hR.size hl1.out hl2'.out)
   | k + 6, hk, _ => omega
  ·rintro ⟨tm, df⟩ w7 rho hdf hsz hF hR hX hV hD
   obtain rfl : df = [] := hdf
   obtain ⟨q, rfl⟩ := frame93 tm hsz
   have hD' := hD (fun i => decide (i < 6)) (fun i hi => decide_eq_true hi) (fun i hi => decide_eq_false (by omega))
   obtain ⟨p1, d1, p2, d2, e1, m1, m2, ap1⟩ := hD'.p 1 (.inl rfl) rfl
   obtain ⟨p3, d3, p4, d4, e2, m3, m4, ap2⟩ := hD'.p 3 (.inr rfl) rfl
   obtain ⟨g9, e3, hg9, rb9⟩ := hD'.b 4 (.inl rfl) rfl
   obtain ⟨g10, e4, hg10, rb10⟩ := hD'.b 5 (.inr rfl) rfl
   have hne : g9 ≠ g10 := fun e => hD'.d rfl rfl (by rw [e3, e4, e])
   obtain ⟨x11, x12⟩ := ap1 4 (.inl rfl) rfl g9 e3
   obtain ⟨x13, x14⟩ := ap1 5 (.inr rfl) rfl g10 e4
   obtain ⟨x21, x22⟩ := ap2 4 (.inl rfl) rfl g9 e3
   obtain ⟨x23, x24⟩ := ap2 5 (.inr rfl) rfl g10 e4
   have k10 : q 10 = _ := (hV 4 (by decide)).trans e3
   have k11 : q 11 = _ := (hV 5 (by decide)).trans e4
   have k48 : q 48 = _ := (hV 1 (by decide)).trans e1
   have k50 : q 50 = _ := (hV 3 (by decide)).trans e2
   rw [k10, k11, k48, k50]
   clear k10 k11 k48 k50
   have kk := zbk hF [0, 1, 2, 3, 4, 5, 6, 7, 8, 9, 12, 13, 14, 15, 16, 17, 18, 19, 20, 21, 22, 23, 24, 25, 26, 27, 28, 29, 30, 31, 32, 33, 34, 35, 36, 37, 38, 39, 40, 41, 42, 43, 44, 45, 46, 51, 52, 53, 54, 55, 56, 57, 58, 59, 60, 61, 62, 63, 64, 65, 66, 67, 68, 69, 70, 71, 72, 73, 74, 75, 76, 77, 78, 79, 80, 81, 82, 83, 84, 85, 86, 87, 88, 89, 90, 91, 92] (by kernel_rfl)
   simp only [Bk, Array.getD_eq_getD_getElem?, zqA, zqS, zqZ, Option.getD_some] at kk
   simp only [kk]
   clear kk
   clear hF hX hV hD hsz hD' e1 e2 e3 e4 ap1 ap2
   change wpAny _ _ _ _ 2 _ _ _
   have f0 := rb9.free 0
   have f1 := rb9.free 1
   have c0 : w7.cell? ⟨g9, 0, none⟩ = some (.slice none 0 0) := rb9.cell 0
   have c1' : w7.cell? ⟨g9, 1, none⟩ = some (.slice none 0 0) := rb9.cell 1
   refine wpAny_ready (rs := [6]) (by kernel_rfl) (by simp) ?_
   refine AllReady.cons (i := 6) rfl (fun K hK => ?_) AllReady.nil
   go_simp
   refine hK _ _ ?_
   clear hK K f0 f1 c0 c1'
   have s9 := (rb9.set 0 (.slice p1 n1 d1)).set 1 (.slice p2 n2 d2)
   have K9 : Keeps w7 ((w7.setCell ⟨g9, 0, none⟩ (.slice p1 n1 d1)).setCell ⟨g9, 1, none⟩ (.slice p2 n2 d2)) (fun j => j = g9) := (Keeps.set (S := fun j => j = g9) w7 g9 0 _ rfl).trans (Keeps.set (S := fun j => j = g9) _ g9 1 _ rfl) (fun _ _ h => h)
   generalize (w7.setCell ⟨g9, 0, none⟩ _).setCell ⟨g9, 1, none⟩ _ = w8' at s9 K9 ⊢
   replace rb10 := rb10.keeps K9 (fun e => hne e.symm)
   have f0 := rb10.free 0
   have f1 := rb10.free 1
   have c0 : w8'.cell? ⟨g10, 0, none⟩ = some (.slice none 0 0) := rb10.cell 0
   have c1' : w8'.cell? ⟨g10, 1, none⟩ = some (.slice none 0 0) := rb10.cell 1
   refine wpAny_ready (rs := [7]) (by kernel_rfl) (by simp) ?_
   refine AllReady.cons (i := 7) rfl (fun K hK => ?_) AllReady.nil
   go_simp
   refine hK _ _ ?_
   clear hK K f0 f1 c0 c1'
   have s10 := (rb10.set 0 (.slice p3 n1 d3)).set 1 (.slice p4 n2 d4)
   have K10 : Keeps w8' ((w8'.setCell ⟨g10, 0, none⟩ (.slice p3 n1 d3)).setCell ⟨g10, 1, none⟩ (.slice p4 n2 d4)) (fun j => j = g10) := (Keeps.set (S := fun j => j = g10) w8' g10 0 _ rfl).trans (Keeps.set (S := fun j => j = g10) _ g10 1 _ rfl) (fun _ _ h => h)
   generalize (w8'.setCell ⟨g10, 0, none⟩ _).setCell ⟨g10, 1, none⟩ _ = wl at s10 K10 ⊢
   refine ⟨by kernel_rfl, ?_⟩
   have s9' := s9.keeps K10 hne
   have hbl : Below wz.heap.size wz wl := K10.below (K9.below hR (fun j e => by rw [e]; exact hg9)) (fun j e => by rw [e]; exact hg10)
   have ee1 := hl1.out
   have ee2 := hl2'.out
   have A1 := (m1.1.apart K9 (by rw [ee1]; exact x11)).apart K10 (by rw [ee1]; exact x13)
   have A2 := (m2.1.apart K9 (by rw [ee2]; exact x12)).apart K10 (by rw [ee2]; exact x14)
   have A3 := (m3.1.apart K9 (by rw [ee1]; exact x21)).apart K10 (by rw [ee1]; exact x23)
   have A4 := (m4.1.apart K9 (by rw [ee2]; exact x22)).apart K10 (by rw [ee2]; exact x24)
   have s9l := Lib.hid (show RowAt wl g9 57 [.slice p1 n1 d1, .slice p2 n2 d2] from s9')
   have s10l := Lib.hid (show RowAt wl g10 57 [.slice p3 n1 d3, .slice p4 n2 d4] from s10)
   have E1 : Hid (∀ v, Below wl.heap.size wl v → Calls Try.prog 21 #[.slice p1 n1 d1, .slice p3 n1 d3] v fun e w' => e = .returned (.bool true) ∧ Quiet v w') := fun v hb => by
    have := eq_ints v p1 p3 n1 d1 n1 d3 _ _ (A1.below hb) (A3.below hb) ee1.symm ee1.symm (by have := hln.out; omega) (by have := hln.out; omega)
    rw [decide_eq_true rfl] at this
    exact this
   have E2 : Hid (∀ v, Below wl.heap.size wl v → Calls Try.prog 21 #[.slice p2 n2 d2, .slice p4 n2 d4] v fun e w' => e = .returned (.bool true) ∧ Quiet v w') := fun v hb => by
    have := eq_ints v p2 p4 n2 d2 n2 d4 _ _ (A2.below hb) (A4.below hb) ee2.symm ee2.symm (by have := hln.out; omega) (by have := hln.out; omega)
    rw [decide_eq_true rfl] at this
    exact this
   have r8l := Lib.hid (r8z.out.below hbl)
   have r9l := Lib.hid (r9.out.below hbl)
   have rpl := Lib.hid (rpz.out.below hbl)
   have hbwl := Lib.hid (btrans hbwz.out hbl)
   have hbzl := Lib.hid hbl
   clear s9 s10 s9' K9 K10 rb9 rb10 m1 m2 m3 m4 A1 A2 A3 A4 x11 x12 x13 x14 x21 x22 x23 x24 hR hbl r8z r9 rpz hbwz hg9 hg10 ee1 ee2 LAS RLA
   have q0 : wl.cell? ⟨p8, 0, none⟩ = some (.int .i64 k9) := r8l.out.cell 0
   have q1 : wl.cell? ⟨p8, 1, none⟩ = some (.int .i64 y9) := r8l.out.cell 1
   have q2 : wl.cell? ⟨p8, 2, none⟩ = some (.int .i64 n9) := r8l.out.cell 2
   have q3 : wl.cell? ⟨p8, 3, none⟩ = some (.int .i64 m9) := r8l.out.cell 3
   have q4 : wl.cell? ⟨p8, 4, none⟩ = some (.int .i64 o9) := r8l.out.cell 4
   have q5 : wl.cell? ⟨p8, 5, none⟩ = some (.slice sa n1 sc) := r8l.out.cell 5
   have q6 : wl.cell? ⟨p8, 6, none⟩ = some (.slice la n2 lc) := r8l.out.cell 6
   go_wp2_with fail
   refine (ACT.out wl hbzl.out).mono ?_
   rintro e wa ⟨hba, a13, c13, a14, c14, rfl, NA, NB⟩
   dsimp only at NA NB ⊢
   clear q0 q1 q2 q3 q4 q5 q6
   have hbla := Lib.hid hba
   replace NA := Lib.hid NA
   replace NB := Lib.hid NB
   clear hba ACT
   have z0 : wa.cell? ⟨pb, 0, none⟩ = some (.slice ai G.init.length ci) := (rpl.out.below hbla.out).cell 0
   have z1 : wa.cell? ⟨pb, 1, none⟩ = some (.slice ae G.edges.length ce) := (rpl.out.below hbla.out).cell 1
   have z2 : wa.cell? ⟨pb, 2, none⟩ = some (.slice al G.labels.length cl) := (rpl.out.below hbla.out).cell 2
   have z3 : wa.cell? ⟨pb, 3, none⟩ = some (.slice as_ sets.length cs) := (rpl.out.below hbla.out).cell 3
   have z4 : wa.cell? ⟨pb, 4, none⟩ = some (.int .i64 A.sets) := (rpl.out.below hbla.out).cell 4
   have z5 : wa.cell? ⟨pb, 5, none⟩ = some (.slice bi A.init.length di) := (rpl.out.below hbla.out).cell 5
   have z6 : wa.cell? ⟨pb, 6, none⟩ = some (.slice bn A.nodes.length dn) := (rpl.out.below hbla.out).cell 6
   have q0 : wa.cell? ⟨p9, 0, none⟩ = some (.int .i64 k9) := (r9l.out.below hbla.out).cell 0
   have q1 : wa.cell? ⟨p9, 1, none⟩ = some (.int .i64 y9) := (r9l.out.below hbla.out).cell 1
   have q2 : wa.cell? ⟨p9, 2, none⟩ = some (.int .i64 n9) := (r9l.out.below hbla.out).cell 2
   have q3 : wa.cell? ⟨p9, 3, none⟩ = some (.int .i64 m9) := (r9l.out.below hbla.out).cell 3
   have q4 : wa.cell? ⟨p9, 4, none⟩ = some (.int .i64 o9) := (r9l.out.below hbla.out).cell 4
   have q5 : wa.cell? ⟨p9, 5, none⟩ = some (.slice a1 n1 c1) := (r9l.out.below hbla.out).cell 5
   have q6 : wa.cell? ⟨p9, 6, none⟩ = some (.slice a2 n2 c2) := (r9l.out.below hbla.out).cell 6
   go_wp2_with fail
   refine (RAC.out wa (btrans hbzl.out hbla.out)).mono ?_
   rintro e wc ⟨hbc, a15, c15, a16, c16, rfl, NC, ND⟩
   dsimp only at NC ND ⊢
   clear q0 q1 q2 q3 q4 q5 q6 z0 z1 z2 z3 z4 z5 z6
   have F1 : Hid (∀ v, Below wc.heap.size wc v → Calls Try.prog 21 #[.slice a13 X1.length c13, .slice a15 X1.length c15] v fun e w' => e = .returned (.bool true) ∧ Quiet v w') := fun v hb => by
    have := eq_ints v a13 a15 X1.length c13 X1.length c15 X1 X1 ((NA.out.below hbc).below hb) (NumsAt.below NC hb) rfl rfl hXl.out.1 hXl.out.1
    rw [decide_eq_true rfl] at this
    exact this
   have F2 : Hid (∀ v, Below wc.heap.size wc v → Calls Try.prog 21 #[.slice a14 X2.length c14, .slice a16 X2.length c16] v fun e w' => e = .returned (.bool true) ∧ Quiet v w') := fun v hb => by
    have := eq_ints v a14 a16 X2.length c14 X2.length c16 X2 X2 ((NB.out.below hbc).below hb) (NumsAt.below ND hb) rfl rfl hXl.out.2 hXl.out.2
    rw [decide_eq_true rfl] at this
    exact this
   have hblc := Lib.hid (btrans hbla.out hbc)
   have WT := Lib.hid (fun v => works_true v)
   clear NC ND NA NB hbc hbla RAC
   have q0 : wc.cell? ⟨p8, 0, none⟩ = some (.int .i64 k9) := (r8l.out.below hblc.out).cell 0
   have q1 : wc.cell? ⟨p8, 1, none⟩ = some (.int .i64 y9) := (r8l.out.below hblc.out).cell 1
   have q2 : wc.cell? ⟨p8, 2, none⟩ = some (.int .i64 n9) := (r8l.out.below hblc.out).cell 2
   have q3 : wc.cell? ⟨p8, 3, none⟩ = some (.int .i64 m9) := (r8l.out.below hblc.out).cell 3
   have q4 : wc.cell? ⟨p8, 4, none⟩ = some (.int .i64 o9) := (r8l.out.below hblc.out).cell 4
   have q5 : wc.cell? ⟨p8, 5, none⟩ = some (.slice sa n1 sc) := (r8l.out.below hblc.out).cell 5
   have q6 : wc.cell? ⟨p8, 6, none⟩ = some (.slice la n2 lc) := (r8l.out.below hblc.out).cell 6
   have z0 : wc.cell? ⟨p9, 0, none⟩ = some (.int .i64 k9) := (r9l.out.below hblc.out).cell 0
   have z1 : wc.cell? ⟨p9, 1, none⟩ = some (.int .i64 y9) := (r9l.out.below hblc.out).cell 1
   have z2 : wc.cell? ⟨p9, 2, none⟩ = some (.int .i64 n9) := (r9l.out.below hblc.out).cell 2
   have z3 : wc.cell? ⟨p9, 3, none⟩ = some (.int .i64 m9) := (r9l.out.below hblc.out).cell 3
   have z4 : wc.cell? ⟨p9, 4, none⟩ = some (.int .i64 o9) := (r9l.out.below hblc.out).cell 4
   have z5 : wc.cell? ⟨p9, 5, none⟩ = some (.slice a1 n1 c1) := (r9l.out.below hblc.out).cell 5
   have z6 : wc.cell? ⟨p9, 6, none⟩ = some (.slice a2 n2 c2) := (r9l.out.below hblc.out).cell 6
   go_wp2_with fail
   refine (SAM.out wc (btrans hbzl.out hblc.out)).mono ?_
   rintro e we ⟨rfl, hbe⟩
   have hbce := Lib.hid hbe
   clear hbe q0 q1 q2 q3 q4 q5 q6 z0 z1 z2 z3 z4 z5 z6 SAM
   have S0 : Hid (∀ v, Below we.heap.size we v → v.cell? ⟨g9, 0, none⟩ = some (.slice p1 n1 d1) ∧ v.cell? ⟨g9, 1, none⟩ = some (.slice p2 n2 d2) ∧ v.cell? ⟨g10, 0, none⟩ = some (.slice p3 n1 d3) ∧ v.cell? ⟨g10, 1, none⟩ = some (.slice p4 n2 d4)) := fun v hb => by
    have h := btrans (btrans hblc.out hbce.out) hb
    exact ⟨(s9l.out.below h).cell 0, (s9l.out.below h).cell 1, (s10l.out.below h).cell 0, (s10l.out.below h).cell 1⟩
   obtain ⟨y0, y1, y2, y3⟩ := S0.out we (Below.refl _ _)
   go_wp2_with fail
   refine (E1.out we (btrans hblc.out hbce.out)).mono ?_
   rintro e wf ⟨rfl, hqf⟩
   have kf := Lib.hid (hqf.below we.heap.size)
   clear y0 y1 y2 y3 hqf
   obtain ⟨y0, y1, y2, y3⟩ := S0.out wf kf.out
   go_wp2_with fail
   refine (E2.out wf (btrans (btrans hblc.out hbce.out) kf.out)).mono ?_
   rintro e wg ⟨rfl, hqg⟩
   have kg := Lib.hid (btrans kf.out (hqg.below wf.heap.size))
   clear y0 y1 y2 y3 hqg kf
   go_wp2_with fail
   refine (F1.out wg (btrans hbce.out kg.out)).mono ?_
   rintro e wh ⟨rfl, hqh⟩
   have kh := Lib.hid (btrans kg.out (hqh.below wg.heap.size))
   clear hqh kg
   go_wp2_with fail
   refine (F2.out wh (btrans hbce.out kh.out)).mono ?_
   rintro e wi ⟨rfl, hqi⟩
   have ki := Lib.hid (btrans kh.out (hqi.below wh.heap.size))
   clear hqi kh
   go_wp2_with fail
   refine (WT.out wi).mono ?_
   rintro e wj ⟨rfl, hbj⟩
   go_wp2
   go_ret
   exact ⟨rfl, btrans hbwl.out (btrans hblc.out (btrans hbce.out (btrans ki.out hbj)))⟩
theorem bud_cellsF {W : World} {c : Array Value} {b : Int × Int} (s : rBud W c.toList b) : c = #[.int .i64 b.1, .int .i64 b.2] := by
 cases c; simpa [rBud] using s
theorem ndfsFinds_walk (W : World) (c0 : Array Value) (t : TK) (s0 : rTask W c0.toList t) (c1 : Array Value) (b : Int × Int) (s1 : rBud W c1.toList b) :
  Calls Try.prog 3 #[.agg c0, .agg c1] W fun e w' => e = .returned (.bool true) ∧ Below W.heap.size W w' := by
 obtain ⟨X, rfl, h⟩ := LawIn.task s0
 rw [bud_cellsF s1]
 cases hl : lightK t.G t.sets t.A with
 | false => exact finds_heavy W X t.G t.sets t.A b.1 b.2 h hl
 | true =>
  cases hn : newB t.G t.sets t.A with
  | false => exact finds_none W X t.G t.sets t.A b.1 b.2 h hl hn
  | true => exact finds_light W X t.G t.sets t.A b.1 b.2 h hl hn
end Go.Proofs.Ytfcpfcgcfaacnaa
