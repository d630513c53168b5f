/- What holds in the document's inner search. Conditions: the bounds of a search. The document's inner search. Conditions: the bounds of a search. What holds in the document's outer search. Conditions: the bounds of a search. -/
import Derived.Test.YtfcpfcgcfaacnaaSNdRA
import Derived.Test.YtfcpfcgcfaacnaaSNdFromP
import Derived.Test.YtfcpfcgcfaacnaaSCut
import Derived.IntWalk
import Derived.Test.YtfcpfcgcfaacnaaSNdSearchP
namespace Go.Proofs.Ytfcpfcgcfaacnaa
open Go.RowKit
set_option linter.unusedVariables false
set_option linter.unusedSimpArgs false
theorem cutA_at3 {b off cap l : Nat} (h : l < cap) : cutA (some ⟨b, off, none⟩) cap l 3 = some ⟨b, off + l * 3, none⟩ := by
 unfold cutA
 rw [if_neg (by omega)]
 simp [add_off]
theorem PpsAt.cut3 {w : World} {a : Option Addr} {l : List PP} (h : PpsAt w a l) {k cap : Nat} (hc : l.length ≤ cap) : PpsAt w (cutA a cap k 3) (l.drop k) := by
 intro h0
 rw [List.length_drop] at h0
 obtain ⟨b, off, rfl, hcell⟩ := h (by omega)
 rw [cutA_at3 (by omega)]
 refine ⟨b, off + k * 3, rfl, fun i hi => ?_⟩
 rw [List.length_drop] at hi
 have := hcell (k + i) (by omega)
 rw [List.getElem_drop]
 rw [show off + k * 3 + i * 3 = off + (k + i) * 3 by omega]
 exact this
theorem PpsAt.upto3 {w : World} {a : Option Addr} {l : List PP} (h : PpsAt w a l) (m : Nat) : PpsAt w a (l.take m) := by
 intro h0
 rw [List.length_take] at h0
 obtain ⟨b, off, rfl, hcell⟩ := h (by omega)
 refine ⟨b, off, rfl, fun i hi => ?_⟩
 rw [List.length_take] at hi
 rw [List.getElem_take]
 exact hcell i (by omega)
theorem Try.sizeRq (w : World) : (sizeOf TRq).run Try.prog w = .ok 3 w := by kernel_rfl
theorem Hd.newp {N : Nat → Prop} {w : World} {g T : Nat} {l : List PP} (h : RowAt w g T (qcells l)) (hn : ¬ N g) : Hd N w (fun w => PpsAt w (some ⟨g, 0, none⟩) l) := fun w' k => by
 have h' := h.keeps k hn
 intro _
 refine ⟨g, 0, rfl, fun i hi => ?_⟩
 obtain ⟨q0, q1, q2⟩ := qcells_at l i hi
 rw [Nat.zero_add, h'.cell, h'.cell, h'.cell]
 exact ⟨q0, q1, q2⟩
theorem Hd.newi {N : Nat → Prop} {w : World} {g T : Nat} {l : List Int} (h : RowAt w g T (l.map (Value.int .i64))) (hn : ¬ N g) : Hd N w (fun w => NumsAt .i64 w (some ⟨g, 0, none⟩) l) := fun w' k => by
 have h' := h.keeps k hn
 intro _
 refine ⟨g, 0, rfl, fun i hi => ?_⟩
 rw [Nat.zero_add, h'.cell, List.getElem?_map, List.getElem?_eq_getElem hi]
 simp [List.getD, hi]
theorem ats_last (x : PP) (k : Nat) (r : List (PP × Nat)) (d : Int) : (ats ((x, k) :: r)).getD r.length d = (k : Int) := by
 rw [ats_cons, List.getD_eq_getElem?_getD, List.getElem?_append_right (by rw [ats_len]; exact Nat.le_refl _), ats_len, Nat.sub_self]
 rfl
theorem way_last (x : PP) (k : Nat) (r : List (PP × Nat)) (h : r.length < (way ((x, k) :: r)).length) : (way ((x, k) :: r))[r.length] = x := by
 have e : way ((x, k) :: r) = way r ++ [x] := way_cons _ _
 have : (way ((x, k) :: r))[r.length]? = some x := by
  rw [e, List.getElem?_append_right (by rw [way_len]; exact Nat.le_refl _), way_len, Nat.sub_self]
  rfl
 rw [List.getElem?_eq_getElem h] at this
 exact Option.some.inj this
structure CI (W : World) (l : List Value) (b1 b2 b3 : Nat) (w : World) : Prop where
 r1 : RowAt w b1 TRS l
 r2 : RowAt w b2 TRS zsc
 r3 : RowAt w b3 TRF zfc
 bw : Below W.heap.size W w
 e1 : b1 = W.heap.size
 e2 : b2 = W.heap.size + 1
 e3 : b3 = W.heap.size + 1 + 1
section
variable {W w w' : World} {l : List Value} {b1 b2 b3 : Nat}
theorem CI.below (h : CI W l b1 b2 b3 w) (hb : Below w.heap.size w w') : CI W l b1 b2 b3 w' := ⟨h.r1.below hb, h.r2.below hb, h.r3.below hb, btrans h.bw hb, h.e1, h.e2, h.e3⟩
theorem CI.set (h : CI W l b1 b2 b3 w) (j : Nat) (v : Value) : CI W (l.set j v) b1 b2 b3 (w.setCell ⟨b1, j, none⟩ v) := by
 obtain ⟨h2, h4, h5, hb, e1, e2, e3⟩ := h
 subst e1 e2 e3
 exact ⟨h2.set j v, h4.other (by omega) j v, h5.other (by omega) j v, bsetN hb (Nat.le_refl _), rfl, rfl, rfl⟩
theorem CI.start (W : World) (l : List Value) : ∃ w b1 b2 b3, w = (((W.alloc (.cells l.toArray TRS)).alloc (.cells zsc.toArray TRS)).alloc (.cells zfc.toArray TRF)) ∧ CI W l b1 b2 b3 w := by
 refine ⟨_, W.heap.size, W.heap.size + 1, W.heap.size + 1 + 1, rfl, ?_, ?_, ?_, balloc (balloc (balloc (Below.refl _ _) _) _) _, rfl, rfl, rfl⟩
 ·exact ((RowAt.new l.toArray rfl).alloc _).alloc _
 ·exact (RowAt.new zsc.toArray (by simp)).alloc _
 ·exact RowAt.new zfc.toArray (by simp)
theorem CI.out (h : CI W l b1 b2 b3 w) {w3 w4 : World} {l2 f2 : List Value} (q1 : RowAt w3 b2 TRS l2) (k1 : Keeps w w3 (fun j => j = b2)) (q2 : RowAt w4 b3 TRF f2) (k2 : Keeps w3 w4 (fun j => j = b3)) : RowAt w4 b2 TRS l2 ∧ RowAt w4 b3 TRF f2 ∧ Below W.heap.size W w4 ∧ Keeps w w4 (fun j => j = b2 ∨ j = b3) := by
 obtain ⟨h2, h4, h5, hb, e1, e2, e3⟩ := h
 subst e1 e2 e3
 have kk : Keeps w w4 (fun j => j = W.heap.size + 1 ∨ j = W.heap.size + 1 + 1) := Keeps.trans (S := fun j => j = W.heap.size + 1 ∨ j = W.heap.size + 1 + 1) ⟨k1.os, k1.tape, k1.output, k1.size, fun j hj hn => k1.block j hj (fun e => hn (.inl e))⟩ k2 (fun j _ e => .inr e)
 exact ⟨q1.keeps k2 (by omega), q2, kk.below hb (fun j hj => by omega), kk⟩
theorem CI.low (h : CI W l b1 b2 b3 w) {N : Nat → Prop} : ∀ j, j < W.heap.size → NB3 N b1 b2 b3 j → N j := by
 intro j hj hn
 have := h.e1; have := h.e2; have := h.e3
 rcases hn with hn | hn | hn | hn
 ·exact hn
 ·omega
 ·omega
 ·omega
theorem CI.lt (h : CI W l b1 b2 b3 w) {N : Nat → Prop} (hN : ∀ j, N j → j < W.heap.size) : ∀ j, NB3 N b1 b2 b3 j → j < w.heap.size := by
 intro j hn
 have := h.r1.lt; have := h.r2.lt; have := h.r3.lt; have := h.bw.size
 rcases hn with hn | hn | hn | hn
 ·have := hN j hn; omega
 ·omega
 ·omega
 ·omega
end
theorem keeps_b1 {N : Nat → Prop} {b1 b2 b3 : Nat} (w : World) (j : Nat) (v : Value) : Keeps w (w.setCell ⟨b1, j, none⟩ v) (NB3 N b1 b2 b3) := Keeps.set _ _ _ _ (.inr (.inl rfl))
structure IS (N : Nat → Prop) (W : World) (Z : RZ) (C E : Nat) (res : NS × Option NF) (b1 b2 b3 q : Nat) (V : RV) (s : NS) (st : List (PP × Nat)) (wa ia : Option Addr) (wc ic : Nat) (wr : World) : Prop where
 cb : CI W (scl Z V s) b1 b2 b3 wr
 hv : Hd (NB3 N b1 b2 b3) wr (RSm V s)
 hc : RSc V s
 hp : Hd (NB3 N b1 b2 b3) wr (fun w => PpsAt w wa (way st))
 hi : Hd (NB3 N b1 b2 b3) wr (fun w => NumsAt .i64 w ia (ats st))
 pc : st.length ≤ wc
 ic_ : st.length ≤ ic
 hr : innerF Z.b (nextP Z.G Z.sets Z.A) q s st = res
 hm : muI C s st < q
 inv : IInv Z.b (nextP Z.G Z.sets Z.A) (vPP Z.G Z.sets Z.A) s st
 he : s.edges + q ≤ E
section
variable {N : Nat → Prop} {W : World} {Z : RZ} {C E : Nat} {res : NS × Option NF} {b1 b2 b3 m : Nat} {V : RV} {s : NS} {x y : PP} {k : Nat} {r : List (PP × Nat)} {wa ia : Option Addr} {wc ic : Nat} {wr w' : World}
theorem way_take (x : PP) (k : Nat) (r : List (PP × Nat)) : (way ((x, k) :: r)).take r.length = way r := by
 rw [way_cons, ← way_len r, List.take_left']
 rfl
theorem ats_take (x : PP) (k : Nat) (r : List (PP × Nat)) : (ats ((x, k) :: r)).take r.length = ats r := by
 rw [ats_cons, ← ats_len r, List.take_left']
 rfl
theorem IS.pop (h : IS N W Z C E res b1 b2 b3 (m + 1) V s ((x, k) :: r) wa ia wc ic wr) (hb : Below wr.heap.size wr w') (NI : Nice (nextP Z.G Z.sets Z.A) (vPP Z.G Z.sets Z.A) C) (hnk : (nextP Z.G Z.sets Z.A x)[k]? = none) : IS N W Z C E res b1 b2 b3 m V s r wa ia wc ic w' := by
 refine ⟨h.cb.below hb, h.hv.below hb, h.hc, (h.hp.below hb).imp (fun w q => ?_), (h.hi.below hb).imp (fun w q => ?_), ?_, ?_, ?_, ?_, h.inv.pop, ?_⟩
 ·have := q.upto3 r.length; rw [way_take] at this; exact this
 ·have := q.upto r.length; rw [ats_take] at this; exact this
 ·have := h.pc; simp only [List.length_cons] at this; omega
 ·have := h.ic_; simp only [List.length_cons] at this; omega
 ·have := h.hr; rw [innerF_pop hnk] at this; exact this
 ·have := muI_pop NI h.inv; have := h.hm; omega
 ·have := h.he; omega
theorem IS.skip (h : IS N W Z C E res b1 b2 b3 (m + 1) V s ((x, k) :: r) wa ia wc ic wr) {ia' : Option Addr} {ic' : Nat} (NI : Nice (nextP Z.G Z.sets Z.A) (vPP Z.G Z.sets Z.A) C) (hnk : (nextP Z.G Z.sets Z.A x)[k]? = some y) (hn : y ∉ way s.ot) (hy : y ∈ s.marked)
  (cb : CI W (scl Z V (edgeS s)) b1 b2 b3 w') (hv : Hd (NB3 N b1 b2 b3) w' (RSm V (edgeS s))) (hp : Hd (NB3 N b1 b2 b3) w' (fun w => PpsAt w wa (way ((x, k) :: r)))) (hi : Hd (NB3 N b1 b2 b3) w' (fun w => NumsAt .i64 w ia' (ats ((x, k + 1) :: r)))) (hic : r.length + 1 ≤ ic') : IS N W Z C E res b1 b2 b3 m V (edgeS s) ((x, k + 1) :: r) wa ia' wc ic' w' := by
 refine ⟨cb, hv, ⟨h.hc.o, h.hc.t⟩, hp, hi, h.pc, hic, ?_, ?_, h.inv.skip (get_le hnk), ?_⟩
 ·have := h.hr; rw [innerF_skip hnk hn hy] at this; exact this
 ·have := muI_skip (s := s) (r := r) NI (get_le hnk); have := h.hm; omega
 ·have := h.he; show s.edges + 1 + m ≤ E; omega
end
section
variable {N : Nat → Prop} {W : World} {Z : RZ} {C E : Nat} {res : NS × Option NF} {b1 b2 b3 m : Nat} {V V' : RV} {s : NS} {x y : PP} {k : Nat} {r : List (PP × Nat)} {wa ia : Option Addr} {wc ic : Nat} {wr w' : World}
theorem IS.push (h : IS N W Z C E res b1 b2 b3 (m + 1) V s ((x, k) :: r) wa ia wc ic wr) {wa' ia' : Option Addr} {wc' ic' : Nat} (NI : Nice (nextP Z.G Z.sets Z.A) (vPP Z.G Z.sets Z.A) C) (hnk : (nextP Z.G Z.sets Z.A x)[k]? = some y) (hn : y ∉ way s.ot) (hy : y ∉ s.marked) (hvy : vPP Z.G Z.sets Z.A y) (h3 : ¬ Z.b.d < s.ot.length + (r.length + 1))
  (cb : CI W (scl Z V' (deepS (markS (edgeS s) y) (s.ot.length + (r.length + 1)))) b1 b2 b3 w') (hv : Hd (NB3 N b1 b2 b3) w' (RSm V' (markS (edgeS s) y))) (hc : RSc V' (markS (edgeS s) y)) (hp : Hd (NB3 N b1 b2 b3) w' (fun w => PpsAt w wa' (way ((x, k) :: r) ++ [y]))) (hi : Hd (NB3 N b1 b2 b3) w' (fun w => NumsAt .i64 w ia' (ats ((x, k + 1) :: r) ++ [0]))) (hpc : r.length + 1 + 1 ≤ wc') (hic : r.length + 1 + 1 ≤ ic') : IS N W Z C E res b1 b2 b3 m V' (deepS (markS (edgeS s) y) (s.ot.length + (r.length + 1))) ((y, 0) :: (x, k + 1) :: r) wa' ia' wc' ic' w' := by
 refine ⟨cb, hv.imp (fun w q => ⟨q.r, q.m, q.o, q.t⟩), ⟨hc.o, hc.t⟩, hp.imp (fun w q => ?_), hi.imp (fun w q => ?_), hpc, hic, ?_, ?_, h.inv.push (get_le hnk) hy hvy h3, ?_⟩
 ·rw [way_cons, way_cons]; rw [way_cons] at q; exact q
 ·rw [ats_cons]; exact q
 ·have := h.hr; rw [innerF_push hnk hn hy h3] at this; exact this
 ·have := muI_push NI h.inv (get_le hnk) hy hvy (s.ot.length + (r.length + 1)); have := h.hm; omega
 ·have := h.he; show s.edges + 1 + m ≤ E; omega
end
structure IM (N : Nat → Prop) (W : World) (Z : RZ) (b1 b2 b3 gt : Nat) (y : PP) (V : RV) (s : NS) (wl : List PP) (il : List Int) (wa ia : Option Addr) (w : World) : Prop where
 cb : CI W (scl Z V s) b1 b2 b3 w
 hv : Hd (NB3 N b1 b2 b3) w (RSm V s)
 hc : RSc V s
 hp : Hd (NB3 N b1 b2 b3) w (fun w => PpsAt w wa wl)
 hi : Hd (NB3 N b1 b2 b3) w (fun w => NumsAt .i64 w ia il)
 rt : RowAt w gt TRq [.int .i64 y.node, .int .i64 y.state, .int .i64 y.turn]
 gb : ¬ NB3 N b1 b2 b3 gt
section
variable {N : Nat → Prop} {W : World} {Z : RZ} {b1 b2 b3 gt : Nat} {y : PP} {V V' : RV} {s s' : NS} {wl : List PP} {il : List Int} {wa ia : Option Addr} {w w' : World}
theorem IM.below (h : IM N W Z b1 b2 b3 gt y V s wl il wa ia w) (hb : Below w.heap.size w w') : IM N W Z b1 b2 b3 gt y V s wl il wa ia w' := ⟨h.cb.below hb, h.hv.below hb, h.hc, h.hp.below hb, h.hi.below hb, h.rt.below hb, h.gb⟩
theorem IM.set (h : IM N W Z b1 b2 b3 gt y V s wl il wa ia w) (j : Nat) (v : Value) (hl : (scl Z V s).set j v = scl Z V' s') (hv : Hd (NB3 N b1 b2 b3) (w.setCell ⟨b1, j, none⟩ v) (RSm V' s')) (hc : RSc V' s') : IM N W Z b1 b2 b3 gt y V' s' wl il wa ia (w.setCell ⟨b1, j, none⟩ v) := by
 have k : Keeps w (w.setCell ⟨b1, j, none⟩ v) (NB3 N b1 b2 b3) := keeps_b1 w j v
 refine ⟨?_, hv, hc, h.hp.keeps k, h.hi.keeps k, h.rt.keeps k h.gb, h.gb⟩
 rw [← hl]
 exact h.cb.set j v
theorem IM.edge (h : IM N W Z b1 b2 b3 gt y V s wl il wa ia w) : IM N W Z b1 b2 b3 gt y V (edgeS s) wl il wa ia (w.setCell ⟨b1, 10, none⟩ (.int .i64 ((s.edges : Int) + 1))) :=
 h.set 10 _ (by simp [scl, edgeS]) ((h.hv.keeps (keeps_b1 w _ _)).imp (fun w q => ⟨q.r, q.m, q.o, q.t⟩)) ⟨h.hc.o, h.hc.t⟩
end
end Go.Proofs.Ytfcpfcgcfaacnaa
namespace Go.Proofs.Ytfcpfcgcfaacnaa
open Go.RowKit
set_option linter.unusedVariables false
set_option linter.unusedSimpArgs false
set_option maxRecDepth 20000 in
theorem frame150 (arr : Array Value) (h : arr.size = 150) : ∃ q : Nat → Value, arr = #[q 0, q 1, q 2, q 3, q 4, q 5, q 6, q 7, q 8, q 9, q 10, q 11, q 12, q 13, q 14, q 15, q 16, q 17, q 18, q 19, q 20, q 21, q 22, q 23, q 24, q 25, q 26, q 27, q 28, q 29, q 30, q 31, q 32, q 33, q 34, q 35, q 36, q 37, q 38, q 39, q 40, q 41, q 42, q 43, q 44, q 45, q 46, q 47, q 48, q 49, q 50, q 51, q 52, q 53, q 54, q 55, q 56, q 57, q 58, q 59, q 60, q 61, q 62, q 63, q 64, q 65, q 66, q 67, q 68, q 69, q 70, q 71, q 72, q 73, q 74, q 75, q 76, q 77, q 78, q 79, q 80, q 81, q 82, q 83, q 84, q 85, q 86, q 87, q 88, q 89, q 90, q 91, q 92, q 93, q 94, q 95, q 96, q 97, q 98, q 99, q 100, q 101, q 102, q 103, q 104, q 105, q 106, q 107, q 108, q 109, q 110, q 111, q 112, q 113, q 114, q 115, q 116, q 117, q 118, q 119, q 120, q 121, q 122, q 123, q 124, q 125, q 126, q 127, q 128, q 129, q 130, q 131, q 132, q 133, q 134, q 135, q 136, q 137, q 138, q 139, q 140, q 141, q 142, q 143, q 144, q 145, q 146, q 147, q 148, q 149] := by
 refine ⟨fun i => arr.toList.getD i undef, ?_⟩
 have h1 := list_getP (l := arr.toList) (n := 150) (by simpa using h)
 apply Array.ext'
 exact h1
set_option maxRecDepth 20000 in
set_option maxHeartbeats 40000000 in
theorem rinner_any (N : Nat → Prop) (W : World) (Z : RZ) (C E : Nat) (V : RV) (s0 : NS) (x0 : PP) (k0 : Nat) (r0 : List (PP × Nat)) (hR : RpA W Z.X Z.G Z.sets Z.A) (NI : Nice (nextP Z.G Z.sets Z.A) (vPP Z.G Z.sets Z.A) C) (hC : C ≤ 3200) (hE : E ≤ 4000000000000000000) (HV : Hd N W (RSm V s0)) (HC : RSc V s0) (HN : ∀ j, N j → j < W.heap.size) (bn : Z.b.n ≤ 65536) (bd : Z.b.d ≤ 65536) (hI : NInv Z.b (nextP Z.G Z.sets Z.A) (vPP Z.G Z.sets Z.A) s0) (ho : s0.ot = (x0, k0) :: r0) (he : s0.edges + FI ≤ E) :
  Calls Try.prog 73 #[.agg (scl Z V s0).toArray] W (RGives N W Z (innerF Z.b (nextP Z.G Z.sets Z.A) FI s0 [(x0, 0)])) := by
 obtain ⟨res, hres⟩ : ∃ res, res = innerF Z.b (nextP Z.G Z.sets Z.A) FI s0 [(x0, 0)] := ⟨_, rfl⟩
 rw [← hres]
 obtain ⟨w1, b1, b2, b3, hw1, cb⟩ := CI.start W (scl Z V s0)
 have hmu := Lib.hid (muI_start C s0 x0 hC)
 have hi0 := Lib.hid (IInv.start (p := (vPP Z.G Z.sets Z.A)) hI ho)
 have bo : s0.ot.length ≤ 65536 := by have := hI.ld; have := hI.db; omega
 have bo1 : s0.ot.length = r0.length + 1 := by rw [ho]; rfl
 have PO := (HV.now).o
 rw [ho] at PO
 obtain ⟨ob, oo, hoa, _, o0, o1, o2⟩ := (PO.below cb.bw).at r0.length (by rw [way_len]; exact Nat.lt_succ_self _)
 rw [way_last] at o0 o1 o2
 have c14 : w1.cell? ⟨b1, 14, none⟩ = some (.slice (some ⟨ob, oo, none⟩) (r0.length + 1) V.oc) := by rw [cb.r1.cell 14, ← hoa, ← bo1]; rfl
 have hr0 : Hid (r0.length ≤ 65536) := by show _ ≤ _; omega
 have hr1 : (r0.length : Int) ≤ 65536 := by omega
 have hww : IntKind.i64.wrap ((r0.length : Int) + 1 - 1) = (r0.length : Int) := by rw [IntWalk.i64_in _ (by omega)]; omega
 have hww2 : IntKind.i64.wrap (r0.length : Int) = (r0.length : Int) := IntWalk.i64_in _ (by omega)
 have hlt : (r0.length : Int) < (r0.length : Int) + 1 := by omega
 replace hw1 := Lib.hid hw1
 replace cb := Lib.hid cb
 have e1 := Lib.hid cb.out.e1
 have e2 := Lib.hid cb.out.e2
 have e3 := Lib.hid cb.out.e3
 replace hR := Lib.hid hR
 replace NI := Lib.hid NI
 replace hC := Lib.hid hC
 replace hE := Lib.hid hE
 replace HV := Lib.hid HV
 replace HC := Lib.hid HC
 replace HN := Lib.hid HN
 replace bn := Lib.hid bn
 replace bd := Lib.hid bd
 replace bo := Lib.hid bo
 replace he := Lib.hid he
 replace hres := Lib.hid hres
 clear hI ho hoa PO bo1
 go_enter Try.func73, Try.ntmps73
 go_upto_region 1 with (fail)
 change Code.wp _ _ _ _ (((W.alloc (.cells (scl Z V s0).toArray TRS)).alloc (.cells zsc.toArray TRS)).alloc (.cells zfc.toArray TRF))
 rw [← hw1.out, ← e3.out, ← e2.out, ← e1.out]
 clear hw1 e1 e2 e3
 go_upto_region 2 with (fail)
 have rp := RowAt.new (w := w1) (T := TRq) #[.int .i64 x0.node, .int .i64 x0.state, .int .i64 x0.turn] rfl
 have hb2 := balloc (Below.refl w1.heap.size w1) (.cells #[.int .i64 x0.node, .int .i64 x0.state, .int .i64 x0.turn] TRq)
 clear c14 o0 o1 o2
 generalize w1.alloc (.cells #[.int .i64 x0.node, .int .i64 x0.state, .int .i64 x0.turn] TRq) = w2 at rp hb2 ⊢
 obtain ⟨g1, hg1⟩ : ∃ g, g = w1.heap.size := ⟨_, rfl⟩
 rw [← hg1] at rp ⊢
 replace rp := Lib.hid rp
 replace hb2 := Lib.hid hb2
 have HB := Lib.hid (CI.lt cb.out HN.out)
 have hg1b : Hid (w1.heap.size ≤ g1) := by show _ ≤ _; omega
 replace hg1 := Lib.hid hg1
 go_wp2
 have ri := RowAt.new (w := w2) (T := 3) #[.int .i64 0] rfl
 have hb3 : Below w1.heap.size w1 (w2.alloc (.cells #[.int .i64 0] 3)) := balloc hb2.out _
 have rp3 := (rp.out).below (balloc (Below.refl w2.heap.size w2) (.cells #[.int .i64 0] 3))
 generalize w2.alloc (.cells #[.int .i64 0] 3) = w3 at ri hb3 rp3 ⊢
 obtain ⟨g2, hg2⟩ : ∃ g, g = w2.heap.size := ⟨_, rfl⟩
 rw [← hg2] at ri ⊢
 have ST : Hid (IS N W Z C E res b1 b2 b3 FI V s0 [(x0, 0)] (some ⟨g1, 0, none⟩) (some ⟨g2, 0, none⟩) 1 1 w3) := by
  have n1 : ¬ NB3 N b1 b2 b3 g1 := fun h => by have := HB.out _ h; have := hg1.out; omega
  have n2 : ¬ NB3 N b1 b2 b3 g2 := fun h => by have := HB.out _ h; have := hb2.out.size; omega
  refine ⟨cb.out.below hb3, HV.out.into (btrans cb.out.bw hb3) cb.out.low, HC.out, Hd.newp (l := [x0]) rp3 n1, Hd.newi (l := [0]) ri n2, Nat.le_refl _, Nat.le_refl _, hres.out.symm, hmu.out, hi0.out, he.out⟩
 replace ri := Lib.hid ri
 replace rp3 := Lib.hid rp3
 replace hb3 := Lib.hid hb3
 replace hg2 := Lib.hid hg2
 clear hb2 rp ri rp3 HV HC hres hmu hi0 bo he cb HB hg1 hg2 hg1b hb3 hr0 hr1 hww hww2 hlt
 go_loopg [4, 5, 6] FI (fun q v4 v5 v6 wr => v4 = .bool false ∧ ∃ (V : RV) (s : NS) (st : List (PP × Nat)) (wa ia : Option Addr) (wc ic : Nat), v5 = .slice wa st.length wc ∧ v6 = .slice ia st.length ic ∧ Hid (IS N W Z C E res b1 b2 b3 q V s st wa ia wc ic wr))
 case atStart => exact ⟨rfl, V, s0, [(x0, 0)], some ⟨g1, 0, none⟩, some ⟨g2, 0, none⟩, 1, 1, rfl, rfl, ST⟩
 case round =>
  obtain ⟨rfl, V, s, st, wa, ia, wc, ic, rfl, rfl, st1⟩ := hrel
  have HB := Lib.hid (CI.lt st1.out.cb HN.out)
  obtain ⟨m, hm⟩ : ∃ m, gk = m + 1 := ⟨gk - 1, by have := st1.out.hm; omega⟩
  subst hm
  cases st with
  | nil =>
   have hr : res = (s, none) := st1.out.hr.symm
   simp only [List.length_nil]
   go_upto_region 22 with (fail)
   refine wp_region_list ?_
   refine list_load undS infoS1 st1.out.cb.r1 rfl rfl 1 rfl rfl ?_
   refine wpList_plain rfl (fun K hK => ?_)
   go_simp
   refine hK _ _ ?_
   clear hK K
   refine list_store (l := scl Z V s) infoS1 st1.out.cb.r2 rfl rfl (scl_one _ _ _) rfl 2 148 rfl rfl rfl ?_
   intro wa9 qa ka
   refine list_store (l := zfc) infoF1 (st1.out.cb.r3.keeps ka (by have := st1.out.cb.e2; have := st1.out.cb.e3; omega)) rfl rfl (by intro v hv; simp [zfc] at hv; rcases hv with rfl | rfl <;> rfl) rfl 3 149 rfl rfl rfl ?_
   intro wb9 qb kb
   refine wpList_plain rfl (fun K hK => ?_)
   go_simp
   refine hK _ _ ?_
   clear hK K
   refine wpList_nil ?_
   obtain ⟨z1, z2, z3, z4⟩ := st1.out.cb.out qa ka qb kb
   go_wp2
   refine bodyPost_ret (v := .tuple #[.agg (scl Z V s).toArray, .agg (zfc).toArray, .bool false]) (results3 (a := 2) (b := 3) (c := 4) (by kernel_rfl) rfl rfl rfl (loadVar_whole undS infoS1 z1 rfl) (loadVar_whole undF infoF1 z2 rfl)) rfl ?_
   rw [hr]
   exact ⟨V, zfc, rfl, rfl, (by intro v hv; simp [zfc] at hv; rcases hv with rfl | rfl <;> rfl), z3, CB.done st1.out.hv (Below.refl _ _) z4, st1.out.hc, fun f hf => by cases hf⟩
  | cons e r =>
   obtain ⟨x, k⟩ := e
   simp only [List.length_cons]
   have hlen := st1.out.inv.sd
   have hdb := st1.out.inv.inv.db
   have hrl : r.length ≤ 65536 := by have := bd.out; simp only [List.length_cons] at hlen; omega
   have hwr : IntKind.i64.wrap ((r.length : Int) + 1 - 1) = (r.length : Int) := by rw [IntWalk.i64_in _ (by omega)]; omega
   have hwr2 : IntKind.i64.wrap (r.length : Int) = (r.length : Int) := IntWalk.i64_in _ (by omega)
   obtain ⟨wb, wo, hwa, _, p0, p1, p2⟩ := (st1.out.hp.now).at r.length (by rw [way_len]; exact Nat.lt_succ_self _)
   rw [way_last] at p0 p1 p2
   obtain ⟨ib, io, hia, hic⟩ := st1.out.hi.now (by rw [ats_len]; exact Nat.succ_pos _)
   have i0 := hic r.length (by rw [ats_len]; exact Nat.lt_succ_self _)
   rw [ats_last] at i0
   subst hwa hia
   have hpc := st1.out.pc
   have hicc := st1.out.ic_
   simp only [List.length_cons] at hpc hicc
   replace p0 := Lib.hid p0
   replace p1 := Lib.hid p1
   replace p2 := Lib.hid p2
   replace i0 := Lib.hid i0
   replace hrl := Lib.hid hrl
   replace hpc := Lib.hid hpc
   replace hicc := Lib.hid hicc
   clear hlen hdb hic
   go_upto_region 4 with (fail)
   go_upto_region 5 with (fail)
   clear hwr hwr2
   refine wp_region_kp (by kernel_rfl) 6 [.fix (.pointer (some ⟨b1, 0, none⟩)), .fix (.agg #[.slice Z.X.ai Z.G.init.length Z.X.ci, .slice Z.X.ae Z.G.edges.length Z.X.ce, .slice Z.X.al Z.G.labels.length Z.X.cl, .slice Z.X.as_ Z.sets.length Z.X.cs, .int .i64 Z.A.sets, .slice Z.X.bi Z.A.init.length Z.X.di, .slice Z.X.bn Z.A.nodes.length Z.X.dn]), .fix (.slice (some ⟨wb, wo, none⟩) (r.length + 1) wc), .fix (.int .i64 (r.length : Int)), .fix (.pointer (some ⟨wb, wo + r.length * 3, none⟩)), .fix (.agg #[.int .i64 x.node, .int .i64 x.state, .int .i64 x.turn])] (by kernel_rfl) (by kernel_rfl) (by kernel_rfl) ?_ ?_
   ·intro i hi
    match i, hi with
    | 0, _ =>
     intro o ho ac w' hR hF hD K hK
     simp only [zqA, zqZ, zqI] at ho
     subst ho
     have e1 : ac.tmps.getD 1 undef = .pointer (some ⟨b1, 0, none⟩) := hF 1 (znd (by kernel_rfl))
     have d1 := zgD e1
     clear hD hF
     go_simp
     exact hK _ _ (Below.refl _ _) rfl
    | 1, _ =>
     intro o ho ac w' hR hF hD K hK
     simp only [zqA, zqZ, zqS, zqI] at ho
     subst ho
     have e28 : ac.tmps.getD 28 undef = .pointer (some ⟨b1, 0, none⟩) := hD 0 (zdp (by kernel_rfl)) 28 rfl
     have d28 := zgD e28
     clear hD hF
     have q0 : w'.cell? ⟨b1, 0, none⟩ = some (.slice Z.X.ai Z.G.init.length Z.X.ci) := (st1.out.cb.r1.below hR).cell 0
     have q1 : w'.cell? ⟨b1, 1, none⟩ = some (.slice Z.X.ae Z.G.edges.length Z.X.ce) := (st1.out.cb.r1.below hR).cell 1
     have q2 : w'.cell? ⟨b1, 2, none⟩ = some (.slice Z.X.al Z.G.labels.length Z.X.cl) := (st1.out.cb.r1.below hR).cell 2
     have q3 : w'.cell? ⟨b1, 3, none⟩ = some (.slice Z.X.as_ Z.sets.length Z.X.cs) := (st1.out.cb.r1.below hR).cell 3
     have q4 : w'.cell? ⟨b1, 4, none⟩ = some (.int .i64 Z.A.sets) := (st1.out.cb.r1.below hR).cell 4
     have q5 : w'.cell? ⟨b1, 5, none⟩ = some (.slice Z.X.bi Z.A.init.length Z.X.di) := (st1.out.cb.r1.below hR).cell 5
     have q6 : w'.cell? ⟨b1, 6, none⟩ = some (.slice Z.X.bn Z.A.nodes.length Z.X.dn) := (st1.out.cb.r1.below hR).cell 6
     go_simp
     exact hK _ _ (Below.refl _ _) rfl
    | 2, _ =>
     intro o ho ac w' hR hF hD K hK
     simp only [zqA, zqZ, zqS, zqI] at ho
     subst ho
     have e5 : ac.tmps.getD 5 undef = .slice (some ⟨wb, wo, none⟩) (r.length + 1) wc := hF 5 (znd (by kernel_rfl))
     have d5 := zgD e5
     clear hD hF
     go_simp
     exact hK _ _ (Below.refl _ _) rfl
    | 3, _ =>
     intro o ho ac w' hR hF hD K hK
     simp only [zqA, zqZ, zqS, zqI] at ho
     subst ho
     have e7 : ac.tmps.getD 7 undef = .int .i64 (r.length : Int) := hF 7 (znd (by kernel_rfl))
     have d7 := zgD e7
     clear hD hF
     go_simp
     exact hK _ _ (Below.refl _ _) rfl
    | 4, _ =>
     intro o ho ac w' hR hF hD K hK
     simp only [zqA, zqZ, zqS, zqI] at ho
     subst ho
     have e30 : ac.tmps.getD 30 undef = .slice (some ⟨wb, wo, none⟩) (r.length + 1) wc := hD 2 (zdp (by kernel_rfl)) 30 rfl
     have d30 := zgD e30
     have e31 : ac.tmps.getD 31 undef = .int .i64 (r.length : Int) := hD 3 (zdp (by kernel_rfl)) 31 rfl
     have d31 := zgD e31
     clear hD hF
     have hrI : (r.length : Int) < (r.length : Int) + 1 := by omega
     go_simp
     exact hK _ _ (Below.refl _ _) rfl
    | 5, _ =>
     intro o ho ac w' hR hF hD K hK
     simp only [zqA, zqZ, zqS, zqI] at ho
     subst ho
     have e32 : ac.tmps.getD 32 undef = .pointer (some ⟨wb, wo + r.length * 3, none⟩) := hD 4 (zdp (by kernel_rfl)) 32 rfl
     have d32 := zgD e32
     clear hD hF
     have q0 : w'.cell? ⟨wb, wo + r.length * 3, none⟩ = some (.int .i64 x.node) := bcell hR p0.out
     have q1 : w'.cell? ⟨wb, wo + r.length * 3 + 1, none⟩ = some (.int .i64 x.state) := bcell hR p1.out
     have q2 : w'.cell? ⟨wb, wo + r.length * 3 + 2, none⟩ = some (.int .i64 x.turn) := bcell hR p2.out
     go_simp
     exact hK _ _ (Below.refl _ _) rfl
    | k + 6, hk => omega
   ·rintro ⟨tm, df⟩ w4 hdf hsz hF hR9 hV
    obtain rfl : df = [] := hdf
    obtain ⟨q, rfl⟩ := frame150 tm hsz
    have k0 : q 28 = .pointer (some ⟨b1, 0, none⟩) := hV 0 28 (by decide) rfl
    have k1 : q 29 = .agg #[.slice Z.X.ai Z.G.init.length Z.X.ci, .slice Z.X.ae Z.G.edges.length Z.X.ce, .slice Z.X.al Z.G.labels.length Z.X.cl, .slice Z.X.as_ Z.sets.length Z.X.cs, .int .i64 Z.A.sets, .slice Z.X.bi Z.A.init.length Z.X.di, .slice Z.X.bn Z.A.nodes.length Z.X.dn] := hV 1 29 (by decide) rfl
    have k2 : q 30 = .slice (some ⟨wb, wo, none⟩) (r.length + 1) wc := hV 2 30 (by decide) rfl
    have k3 : q 31 = .int .i64 (r.length : Int) := hV 3 31 (by decide) rfl
    have k4 : q 32 = .pointer (some ⟨wb, wo + r.length * 3, none⟩) := hV 4 32 (by decide) rfl
    have k5 : q 33 = .agg #[.int .i64 x.node, .int .i64 x.state, .int .i64 x.turn] := hV 5 33 (by decide) rfl
    rw [k0, k1, k2, k3, k4, k5]
    clear k0 k1 k2 k3 k4 k5
    have kk := zbk hF [0, 1, 2, 3, 4, 5, 6, 7, 8, 9, 10, 11, 12, 13, 14, 15, 16, 17, 18, 19, 20, 21, 148, 149] (by kernel_rfl)
    simp only [Bk, Array.getD_eq_getD_getElem?, zqA, zqS, zqZ, Option.getD_some] at kk
    simp only [kk]
    clear kk
    clear hF hV hsz
    have NXT := Lib.hid (rnext_any w4 Z.X Z.G Z.sets Z.A (hR.out.below (btrans st1.out.cb.bw hR9)) x)
    change wpAny _ _ _ _ 2 _ _ _
    refine wpAny_ready (rs := [6]) (by kernel_rfl) (by simp) ?_
    refine AllReady.cons (i := 6) rfl (fun K hK => ?_) AllReady.nil
    go_simp
    refine NXT.out.mono ?_
    rintro e w5 ⟨na, nc, rfl, own, hb5⟩
    refine hK _ _ ?_
    clear hK K NXT
    refine wpAny_ready (rs := [7]) (by kernel_rfl) (by simp) ?_
    refine AllReady.cons (i := 7) rfl (fun K hK => ?_) AllReady.nil
    go_simp
    refine hK _ _ ?_
    clear hK K
    refine ⟨by kernel_rfl, ?_⟩
    have hb := Lib.hid (btrans hR9 hb5)
    have PN := Lib.hid (PpsAt.of_own own)
    clear own hb5 hR9
    have i5 : w5.cell? ⟨ib, io + r.length, none⟩ = some (.int .i64 (k : Int)) := bcell hb.out i0.out
    have hrI : (r.length : Int) < (r.length : Int) + 1 := by omega
    have st5 := Lib.hid (st1.out.cb.below hb.out)
    cases hnk : ((nextP Z.G Z.sets Z.A) x)[k]? with
    | none =>
     have hlk : (((nextP Z.G Z.sets Z.A) x).length : Int) ≤ (k : Int) := by have := List.getElem?_eq_none_iff.1 hnk; omega
     have hcutA := fun w => run_cut_h (P := Try.prog) Try.underlying52 (sz := 3) Try.sizeRq (some ⟨wb, wo, none⟩) (r.length + 1) wc r.length (kh := .i64) (H := (r.length : Int)) rfl (by have := hpc.out; omega) w
     have hcutB := fun w => run_cut_h (P := Try.prog) Try.underlying22 (sz := 1) Try.sizeInt (some ⟨ib, io, none⟩) (r.length + 1) ic r.length (kh := .i64) (H := (r.length : Int)) rfl (by have := hicc.out; omega) w
     go_upto_region 7 with (fail)
     go_quiet (fail)
     go_wp2
     go_roundg m
     case rel => exact ⟨rfl, V, s, r, _, _, wc, ic, rfl, rfl, st1.out.pop (bdrewN hb.out _) NI.out hnk⟩
     case measure => omega
    | some y =>
     have hkl := get_le hnk
     have hyk : ((nextP Z.G Z.sets Z.A) x)[k] = y := by rw [List.getElem?_eq_getElem hkl] at hnk; exact Option.some.inj hnk
     have hlk : (k : Int) < (((nextP Z.G Z.sets Z.A) x).length : Int) := by omega
     obtain ⟨nb, no, hna, _, n0, n1, n2⟩ := PN.out.at k hkl
     rw [hyk] at n0 n1 n2
     subst hna
     have hkb : (k : Int) ≤ 146 := by have := NI.out.len x; omega
     have hnkH := Lib.hid hnk
     clear hnk hyk
     go_upto_region 9 with (fail)
     have rt := RowAt.new (w := w5) (T := TRq) #[.int .i64 y.node, .int .i64 y.state, .int .i64 y.turn] rfl
     have hb6 := btrans hb.out (balloc (Below.refl w5.heap.size w5) (.cells #[.int .i64 y.node, .int .i64 y.state, .int .i64 y.turn] TRq))
     generalize w5.alloc (.cells #[.int .i64 y.node, .int .i64 y.state, .int .i64 y.turn] TRq) = w6 at rt hb6 ⊢
     obtain ⟨gt, hgt⟩ : ∃ g, g = w5.heap.size := ⟨_, rfl⟩
     rw [← hgt] at rt ⊢
     have i6 := Lib.hid (bcell hb6 i0.out)
     have PI6 : Hid (NumsAt .i64 w6 (some ⟨ib, io, none⟩) (ats r)) := by
      have := ((st1.out.hi.below hb6).now).upto r.length
      rw [ats_take] at this
      exact this
     have hcutB := fun w => run_cut_h (P := Try.prog) Try.underlying22 (sz := 1) Try.sizeInt (some ⟨ib, io, none⟩) (r.length + 1) ic r.length (kh := .i64) (H := (r.length : Int)) rfl (by have := hicc.out; omega) w
     have hgtb : Hid (wr.heap.size ≤ gt) := by show _ ≤ _; have := hb.out.size; omega
     replace rt := Lib.hid rt
     replace hb6 := Lib.hid hb6
     replace hgt := Lib.hid hgt
     have hwk : IntKind.i64.wrap ((k : Int) + 1) = (k : Int) + 1 := IntWalk.i64_in _ (by omega)
     clear n0 n1 n2 PN i5 st5 hlk
     refine wp_region_dyn (by kernel_rfl) 12 (fun w' => Below w6.heap.size w6 w') (fun i => ([none, some (.slice (some ⟨ib, io, none⟩) (r.length + 1) ic), some (.int .i64 (r.length : Int)), some (.slice (some ⟨ib, io, none⟩) r.length ic), none, some (.slice (some ⟨ib, io, none⟩) (r.length + 1) ic), some (.int .i64 (r.length : Int)), some (.pointer (some ⟨ib, io + r.length, none⟩)), some (.int .i64 (k : Int)), some (.int .i64 ((k : Int) + 1)), none, none] : List (Option Value)).getD i none) (fun i => ([true, false, false, false, true, false, false, false, false, false, true, true] : List Bool).getD i false) (Ap3 w6.heap.size 3 1 (r.length) (r.length + 1) ((ats r).map (Value.int .i64)) ((ats r).map (Value.int .i64) ++ [.int .i64 ((k : Int) + 1)]) [.int .i64 ((k : Int) + 1)] 0 4 11 10) (by kernel_rfl) (by kernel_rfl) (by kernel_rfl) (Below.refl _ _).drew (fun rho => Ap3.start rho _) ?_ ?_ ?_
     ·intro i hi hdy
      match i, hi, hdy with
      | 0, _, hdy => exact znF hdy
      | 1, _, _ =>
       refine ⟨_, rfl, fun L rho w h => h.pass (by decide) (by decide) (by decide) (by decide), ?_⟩
       intro o ho ac w' hR hF hX
       simp only [zqA, zqZ, zqS, zqI] at ho
       subst ho
       refine ⟨fun h => (by cases h), fun K hK => ?_⟩
       have e6 : ac.tmps.getD 6 undef = .slice (some ⟨ib, io, none⟩) (r.length + 1) ic := hF 6 (znd (by kernel_rfl))
       have d6 := zgD e6
       clear hX hF
       go_simp
       exact hK
      | 2, _, _ =>
       refine ⟨_, rfl, fun L rho w h => h.pass (by decide) (by decide) (by decide) (by decide), ?_⟩
       intro o ho ac w' hR hF hX
       simp only [zqA, zqZ, zqS, zqI] at ho
       subst ho
       refine ⟨fun h => (by cases h), fun K hK => ?_⟩
       have e7 : ac.tmps.getD 7 undef = .int .i64 (r.length : Int) := hF 7 (znd (by kernel_rfl))
       have d7 := zgD e7
       clear hX hF
       go_simp
       exact hK
      | 3, _, _ =>
       refine ⟨_, rfl, fun L rho w h => h.pass (by decide) (by decide) (by decide) (by decide), ?_⟩
       intro o ho ac w' hR hF hX
       simp only [zqA, zqZ, zqS, zqI] at ho
       subst ho
       refine ⟨fun h => (by cases h), fun K hK => ?_⟩
       have e56 : ac.tmps.getD 56 undef = .slice (some ⟨ib, io, none⟩) (r.length + 1) ic := hX 1 (zdp (by kernel_rfl)) _ rfl
       have d56 := zgD e56
       have e57 : ac.tmps.getD 57 undef = .int .i64 (r.length : Int) := hX 2 (zdp (by kernel_rfl)) _ rfl
       have d57 := zgD e57
       have hc3 := hcutB w'
       clear hX hF
       go_simp
       exact hK
      | 4, _, hdy => exact znF hdy
      | 5, _, _ =>
       refine ⟨_, rfl, fun L rho w h => h.pass (by decide) (by decide) (by decide) (by decide), ?_⟩
       intro o ho ac w' hR hF hX
       simp only [zqA, zqZ, zqS, zqI] at ho
       subst ho
       refine ⟨fun h => (by cases h), fun K hK => ?_⟩
       have e6 : ac.tmps.getD 6 undef = .slice (some ⟨ib, io, none⟩) (r.length + 1) ic := hF 6 (znd (by kernel_rfl))
       have d6 := zgD e6
       clear hX hF
       go_simp
       exact hK
      | 6, _, _ =>
       refine ⟨_, rfl, fun L rho w h => h.pass (by decide) (by decide) (by decide) (by decide), ?_⟩
       intro o ho ac w' hR hF hX
       simp only [zqA, zqZ, zqS, zqI] at ho
       subst ho
       refine ⟨fun h => (by cases h), fun K hK => ?_⟩
       have e7 : ac.tmps.getD 7 undef = .int .i64 (r.length : Int) := hF 7 (znd (by kernel_rfl))
       have d7 := zgD e7
       clear hX hF
       go_simp
       exact hK
      | 7, _, _ =>
       refine ⟨_, rfl, fun L rho w h => h.pass (by decide) (by decide) (by decide) (by decide), ?_⟩
       intro o ho ac w' hR hF hX
       simp only [zqA, zqZ, zqS, zqI] at ho
       subst ho
       refine ⟨fun h => (by cases h), fun K hK => ?_⟩
       have e60 : ac.tmps.getD 60 undef = .slice (some ⟨ib, io, none⟩) (r.length + 1) ic := hX 5 (zdp (by kernel_rfl)) _ rfl
       have d60 := zgD e60
       have e61 : ac.tmps.getD 61 undef = .int .i64 (r.length : Int) := hX 6 (zdp (by kernel_rfl)) _ rfl
       have d61 := zgD e61
       have hrI : (r.length : Int) < (r.length : Int) + 1 := by omega
       clear hX hF
       go_simp
       exact hK
      | 8, _, _ =>
       refine ⟨_, rfl, fun L rho w h => h.pass (by decide) (by decide) (by decide) (by decide), ?_⟩
       intro o ho ac w' hR hF hX
       simp only [zqA, zqZ, zqS, zqI] at ho
       subst ho
       refine ⟨fun h => (by cases h), fun K hK => ?_⟩
       have e62 : ac.tmps.getD 62 undef = .pointer (some ⟨ib, io + r.length, none⟩) := hX 7 (zdp (by kernel_rfl)) _ rfl
       have d62 := zgD e62
       have c0 : w'.cell? ⟨ib, io + r.length, none⟩ = some (.int .i64 (k : Int)) := bcell hR i6.out
       clear hX hF
       go_simp
       exact hK
      | 9, _, _ =>
       refine ⟨_, rfl, fun L rho w h => h.pass (by decide) (by decide) (by decide) (by decide), ?_⟩
       intro o ho ac w' hR hF hX
       simp only [zqA, zqZ, zqS, zqI] at ho
       subst ho
       refine ⟨fun h => (by cases h), fun K hK => ?_⟩
       have e63 : ac.tmps.getD 63 undef = .int .i64 (k : Int) := hX 8 (zdp (by kernel_rfl)) _ rfl
       have d63 := zgD e63
       clear hX hF
       go_simp
       exact hK
      | 10, _, hdy => exact znF hdy
      | 11, _, hdy => exact znF hdy
      | k + 12, hk, _ => omega
     ·intro i hi hdy
      match i, hi, hdy with
      | 0, _, _ =>
       intro o ho ac w' L rho hR hD hl hc hdep hX hF K hK
       simp only [zqA, zqZ, zqI] at ho
       subst ho
       go_simp
       refine hK _ _ (balloc hR _) (fun h => by cases h) (fun u h => by cases h) ?_
       exact hD.zero hR.size (by decide) (by decide) (by decide) (fun h => hc 4 h 0 (zdp (by kernel_rfl))) (fun h => hc 11 h 4 (zdp (by kernel_rfl))) hl
      | 1, _, hdy => exact znT hdy
      | 2, _, hdy => exact znT hdy
      | 3, _, hdy => exact znT hdy
      | 4, _, _ =>
       intro o ho ac w' L rho hR hD hl hc hdep hX hF K hK
       simp only [zqA, zqZ, zqS, zqI] at ho
       subst ho
       have r55 : ac.tmps.getD 55 undef = rho 0 := (hdep 0 (zdp (by kernel_rfl))).2
       have e58 : ac.tmps.getD 58 undef = .slice (some ⟨ib, io, none⟩) r.length ic := hX 3 (zdp (by kernel_rfl)) _ rfl
       have d58 := zgD e58
       have hl0 := (hdep 0 (zdp (by kernel_rfl))).1
       obtain ⟨a0, c0, e1, e2, _⟩ := hD.z hl0 hl
       rw [e1] at r55
       refine step_appG rfl _ _ 22 3 (.int .i64 0) 1 8 rfl Try.underlying22 (by kernel_rfl) rfl (by decide) w6.heap.size a0 0 c0 [] r55 e2 (some ⟨ib, io, none⟩) r.length ic ((ats r).map (Value.int .i64)) e58 (by simp [ats_len]) (SrcAt.nums (PI6.out.below hR)) (ints_one _ _) (by have := hrl.out; unfold maxLen; omega) (by have := hrl.out; omega) hR.size ?_
       intro a' c' w2' ho hg hat
       simp only [Nat.zero_add, List.nil_append] at ho hg hat ⊢
       refine hK _ _ (bgrown hR hg (fun j hj => (OwnR.lt e2 hj).1)) (fun h => by cases h) (fun u h => by cases h) ?_
       exact hD.src1 (by decide) (by decide) (by decide) e1 hl0 hl (fun h => hc 11 h 4 (zdp (by kernel_rfl))) ho hg hat
      | 5, _, hdy => exact znT hdy
      | 6, _, hdy => exact znT hdy
      | 7, _, hdy => exact znT hdy
      | 8, _, hdy => exact znT hdy
      | 9, _, hdy => exact znT hdy
      | 10, _, _ =>
       intro o ho ac w' L rho hR hD hl hc hdep hX hF K hK
       simp only [zqA, zqZ, zqS, zqI] at ho
       subst ho
       have e64 : ac.tmps.getD 64 undef = .int .i64 ((k : Int) + 1) := hX 9 (zdp (by kernel_rfl)) _ rfl
       have d64 := zgD e64
       go_simp
       refine hK _ _ (balloc hR _) (fun h => by cases h) (fun u h => by cases h) ?_
       exact hD.elem hR.size (by decide) (by decide) (by decide) #[.int .i64 ((k : Int) + 1)] rfl
      | 11, _, _ =>
       intro o ho ac w' L rho hR hD hl hc hdep hX hF K hK
       simp only [zqA, zqZ, zqS, zqI] at ho
       subst ho
       have r59 : ac.tmps.getD 59 undef = rho 4 := (hdep 4 (zdp (by kernel_rfl))).2
       have r65 : ac.tmps.getD 65 undef = rho 10 := (hdep 10 (zdp (by kernel_rfl))).2
       have hl1 := (hdep 4 (zdp (by kernel_rfl))).1
       have hl5 := (hdep 10 (zdp (by kernel_rfl))).1
       obtain ⟨a0, c0, e1, e2, _⟩ := hD.y hl1 hl
       obtain ⟨g5, e5, _, rg5⟩ := hD.x hl5
       rw [e1] at r59
       rw [e5] at r65
       refine step_appG rfl _ _ 22 3 (.int .i64 0) 1 8 rfl Try.underlying22 (by kernel_rfl) rfl (by decide) w6.heap.size a0 (r.length) c0 ((ats r).map (Value.int .i64)) r59 e2 (some ⟨g5, 0, none⟩) 1 1 [.int .i64 ((k : Int) + 1)] r65 rfl (SrcAt.row rg5) (by intro u hu; simp at hu; rcases hu with rfl; rfl) (by have := hrl.out; unfold maxLen; omega) (by have := hrl.out; omega) hR.size ?_
       intro a' c' w2' ho hg hat
       refine hK _ _ (bgrown hR hg (fun j hj => (OwnR.lt e2 hj).1)) (fun h => by cases h) (fun u h => by cases h) ?_
       exact hD.src2 (by decide) (by decide) (by decide) e1 hl1 hl ho hg hat
      | k + 12, hk, _ => omega
     ·rintro ⟨tm, df⟩ w7 rho hdf hsz hF hR9 hX hV hD
      obtain rfl : df = [] := hdf
      obtain ⟨q, rfl⟩ := frame150 tm hsz
      have hD' := hD (fun i => decide (i < 12)) (fun i hi => decide_eq_true hi) (fun i hi => decide_eq_false (by omega))
      obtain ⟨ia7, ic7, e6', oi7, _⟩ := hD'.u rfl
      have kk1 : q 66 = _ := (hV 11 (by decide)).trans e6'
      rw [kk1]
      clear kk1
      have kk := zbk hF [0, 1, 2, 3, 4, 5, 6, 7, 8, 9, 10, 11, 12, 13, 14, 15, 16, 17, 18, 19, 20, 21, 148, 149] (by kernel_rfl)
      simp only [Bk, Array.getD_eq_getD_getElem?, zqA, zqS, zqZ, Option.getD_some] at kk
      simp only [kk]
      clear kk
      clear hF hX hV hD hsz hD' e6'
      replace oi7 := Lib.hid oi7
      have hRw7 := Lib.hid hR9
      clear hR9
      change wpAny _ _ _ _ 1 _ _ _
      refine wpAny_ready (rs := [12]) (by kernel_rfl) (by simp) ?_
      refine AllReady.cons (i := 12) rfl (fun K hK => ?_) AllReady.nil
      go_simp
      refine hK _ _ ?_
      clear hK K
      refine ⟨by kernel_rfl, ?_⟩
      have im7 : Hid (IM N W Z b1 b2 b3 gt y V s (way ((x, k) :: r)) (ats ((x, k + 1) :: r)) (some ⟨wb, wo, none⟩) ia7 w7) := by
       have hb7 := btrans hb6.out hRw7.out
       refine ⟨st1.out.cb.below hb7, st1.out.hv.below hb7, st1.out.hc, st1.out.hp.below hb7, ?_, rt.out.below hRw7.out, fun h => ?_⟩
       ·have o1 : OwnR w7 w6.heap.size 3 1 ia7 (r.length + 1) ic7 ((ats ((x, k + 1) :: r)).map (Value.int .i64)) := by
         have := oi7.out
         rw [ats_cons, List.map_append]
         exact this
        exact Hd.ints o1 (fun j hj => by have := HB.out j hj; have := hb6.out.size; omega)
       ·have := HB.out _ h; have := hgtb.out; omega
      have hic7 : Hid (r.length + 1 ≤ ic7) := (OwnR.caps oi7.out).1
      have hwe : IntKind.i64.wrap ((s.edges : Int) + 1) = (s.edges : Int) + 1 := IntWalk.i64_in _ (by have := st1.out.he; have := hE.out; omega)
      have c10 : w7.cell? ⟨b1, 10, none⟩ = some (.int .i64 (s.edges : Int)) := im7.out.cb.r1.cell 10
      have f10 := im7.out.cb.r1.free 10
      clear rt hb6 i6 PI6 hcutB hgtb hgt hwk hRw7 oi7
      go_upto_region 11 with (fail)
      clear c10 f10 hwe
      have im8 := im7.out.edge
      generalize w7.setCell ⟨b1, 10, none⟩ (.int .i64 ((s.edges : Int) + 1)) = w8 at im8 ⊢
      have PL := place_any w8 V.oa V.oc (way s.ot) (im8.hv.now).o y (by rw [way_len]; have := st1.out.inv.sd; have := st1.out.inv.inv.db; have := bd.out; simp only [List.length_cons] at *; omega)
      rw [way_len] at PL
      have c14 : w8.cell? ⟨b1, 14, none⟩ = some (.slice V.oa s.ot.length V.oc) := im8.cb.r1.cell 14
      have y0 : w8.cell? ⟨gt, 0, none⟩ = some (.int .i64 y.node) := im8.rt.cell 0
      have y1 : w8.cell? ⟨gt, 1, none⟩ = some (.int .i64 y.state) := im8.rt.cell 1
      have y2 : w8.cell? ⟨gt, 2, none⟩ = some (.int .i64 y.turn) := im8.rt.cell 2
      replace im8 := Lib.hid im8
      replace PL := Lib.hid PL
      clear im7
      refine wp_region_list ?_
      refine wpList_plain rfl (fun K hK => ?_)
      go_simp
      refine hK _ _ ?_
      clear hK K
      refine wpList_plain rfl (fun K hK => ?_)
      go_simp
      refine hK _ _ ?_
      clear hK K
      refine wpList_plain rfl (fun K hK => ?_)
      go_simp
      refine hK _ _ ?_
      clear hK K
      clear c14 y0 y1 y2
      refine wpList_plain rfl (fun K hK => ?_)
      go_simp
      refine PL.out.mono ?_
      rintro e w9 ⟨hp9, hb9⟩
      have im9 := Lib.hid (im8.out.below hb9)
      replace hb9 := Lib.hid hb9
      have hol : Hid (s.ot.length ≤ 65536) := by have := st1.out.inv.sd; have := st1.out.inv.inv.db; have := bd.out; show _ ≤ _; simp only [List.length_cons] at *; omega
      rcases hp9 with ⟨hm, rfl⟩ | ⟨hm, rfl⟩
      ·refine hK _ _ ?_
       clear hK K PL
       refine wpList_plain rfl (fun K hK => ?_)
       go_simp
       refine hK _ _ ?_
       clear hK K
       refine wpList_nil ?_
       obtain ⟨ki, hki⟩ : ∃ ki, ki = (way s.ot).idxOf y := ⟨_, rfl⟩
       rw [← hki]
       have hkl2 : ki < s.ot.length := by rw [hki]; have := List.idxOf_lt_length_of_mem hm; rw [way_len] at this; exact this
       have hrw : Hid (res = (edgeS s, some (failP (edgeS s) y ((x, k + 1) :: r)))) := by have := st1.out.hr; rw [innerF_fail hnkH.out hm] at this; exact this.symm
       have hk0 : (0 : Int) ≤ (ki : Int) := by omega
       have PW9 := Lib.hid (((im9.out.hp).now).cut3 (k := 1) (cap := wc) (by rw [way_len]; exact hpc.out))
       have PO9 := Lib.hid ((((im9.out.hv).now).o).cut3 (k := ki) (cap := V.oc) (by rw [way_len]; exact im9.out.hc.o))
       have hocc : Hid (s.ot.length ≤ V.oc) := im9.out.hc.o
       have hcutK := fun w => run_cut_l (P := Try.prog) Try.underlying52 (sz := 3) Try.sizeRq V.oa s.ot.length V.oc ki (kl := .i64) (L := (ki : Int)) rfl (by omega) w
       have hcutW := fun w => run_cut_l (P := Try.prog) Try.underlying52 (sz := 3) Try.sizeRq (some ⟨wb, wo, none⟩) (r.length + 1) wc 1 (kl := .i64) (L := 1) rfl (by omega) w
       have hcutS := fun w => run_cut_h (P := Try.prog) Try.underlying52 (sz := 3) Try.sizeRq V.oa s.ot.length V.oc ki (kh := .i64) (H := (ki : Int)) rfl (by have := hocc.out; omega) w
       rw [Nat.add_sub_cancel] at hcutW
       replace hkl2 := Lib.hid hkl2
       replace hki := Lib.hid hki
       clear hm
       go_upto_region 13 with (fail)
       refine wp_region_dyn (by kernel_rfl) 9 (fun w' => Below w9.heap.size w9 w') (fun i => ([none, some (.pointer (some ⟨b1, 14, none⟩)), some (.slice V.oa s.ot.length V.oc), some (.int .i64 (ki : Int)), some (.slice (cutA V.oa V.oc ki 3) (s.ot.length - ki) (V.oc - ki)), none, some (.slice (some ⟨wb, wo, none⟩) (r.length + 1) wc), some (.slice (cutA (some ⟨wb, wo, none⟩) wc 1 3) r.length (wc - 1)), none] : List (Option Value)).getD i none) (fun i => ([true, false, false, false, false, true, false, false, true] : List Bool).getD i false) (Ap3 w9.heap.size TRq 3 (s.ot.length - ki) (s.ot.length - ki + r.length) (qcells ((way s.ot).drop ki)) (qcells ((way s.ot).drop ki) ++ qcells ((way ((x, k) :: r)).drop 1)) [undef] 0 5 8 100) (by kernel_rfl) (by kernel_rfl) (by kernel_rfl) (Below.refl _ _).drew (fun rho => Ap3.start rho _) ?_ ?_ ?_
       ·intro i hi hdy
        match i, hi, hdy with
        | 0, _, hdy => exact znF hdy
        | 1, _, _ =>
         refine ⟨_, rfl, fun L rho w h => h.pass (by decide) (by decide) (by decide) (by decide), ?_⟩
         intro o ho ac w' hR hF hX
         simp only [zqA, zqZ, zqS, zqI] at ho
         subst ho
         refine ⟨fun h => (by cases h), fun K hK => ?_⟩
         have e1 : ac.tmps.getD 1 undef = .pointer (some ⟨b1, 0, none⟩) := hF 1 (znd (by kernel_rfl))
         have d1 := zgD e1
         clear hX hF
         go_simp
         exact hK
        | 2, _, _ =>
         refine ⟨_, rfl, fun L rho w h => h.pass (by decide) (by decide) (by decide) (by decide), ?_⟩
         intro o ho ac w' hR hF hX
         simp only [zqA, zqZ, zqS, zqI] at ho
         subst ho
         refine ⟨fun h => (by cases h), fun K hK => ?_⟩
         have e80 : ac.tmps.getD 80 undef = .pointer (some ⟨b1, 14, none⟩) := hX 1 (zdp (by kernel_rfl)) _ rfl
         have d80 := zgD e80
         have c14 : w'.cell? ⟨b1, 14, none⟩ = some (.slice V.oa s.ot.length V.oc) := (im9.out.cb.r1.below hR).cell 14
         clear hX hF
         go_simp
         exact hK
        | 3, _, _ =>
         refine ⟨_, rfl, fun L rho w h => h.pass (by decide) (by decide) (by decide) (by decide), ?_⟩
         intro o ho ac w' hR hF hX
         simp only [zqA, zqZ, zqS, zqI] at ho
         subst ho
         refine ⟨fun h => (by cases h), fun K hK => ?_⟩
         have e10 : ac.tmps.getD 10 undef = .int .i64 (ki : Int) := hF 10 (znd (by kernel_rfl))
         have d10 := zgD e10
         clear hX hF
         go_simp
         exact hK
        | 4, _, _ =>
         refine ⟨_, rfl, fun L rho w h => h.pass (by decide) (by decide) (by decide) (by decide), ?_⟩
         intro o ho ac w' hR hF hX
         simp only [zqA, zqZ, zqS, zqI] at ho
         subst ho
         refine ⟨fun h => (by cases h), fun K hK => ?_⟩
         have e81 : ac.tmps.getD 81 undef = .slice V.oa s.ot.length V.oc := hX 2 (zdp (by kernel_rfl)) _ rfl
         have d81 := zgD e81
         have e82 : ac.tmps.getD 82 undef = .int .i64 (ki : Int) := hX 3 (zdp (by kernel_rfl)) _ rfl
         have d82 := zgD e82
         clear hX hF
         go_simp
         exact hK
        | 5, _, hdy => exact znF hdy
        | 6, _, _ =>
         refine ⟨_, rfl, fun L rho w h => h.pass (by decide) (by decide) (by decide) (by decide), ?_⟩
         intro o ho ac w' hR hF hX
         simp only [zqA, zqZ, zqS, zqI] at ho
         subst ho
         refine ⟨fun h => (by cases h), fun K hK => ?_⟩
         have e5 : ac.tmps.getD 5 undef = .slice (some ⟨wb, wo, none⟩) (r.length + 1) wc := hF 5 (znd (by kernel_rfl))
         have d5 := zgD e5
         clear hX hF
         go_simp
         exact hK
        | 7, _, _ =>
         refine ⟨_, rfl, fun L rho w h => h.pass (by decide) (by decide) (by decide) (by decide), ?_⟩
         intro o ho ac w' hR hF hX
         simp only [zqA, zqZ, zqS, zqI] at ho
         subst ho
         refine ⟨fun h => (by cases h), fun K hK => ?_⟩
         have e85 : ac.tmps.getD 85 undef = .slice (some ⟨wb, wo, none⟩) (r.length + 1) wc := hX 6 (zdp (by kernel_rfl)) _ rfl
         have d85 := zgD e85
         clear hX hF
         go_simp
         exact hK
        | 8, _, hdy => exact znF hdy
        | k + 9, hk, _ => omega
       ·intro i hi hdy
        match i, hi, hdy with
        | 0, _, _ =>
         intro o ho ac w' L rho hR hD hl hc hdep hX hF K hK
         simp only [zqA, zqZ, zqI] at ho
         subst ho
         go_simp
         refine hK _ _ (balloc hR _) (fun h => by cases h) (fun u h => by cases h) ?_
         exact hD.zero hR.size (by decide) (by decide) (by decide) (fun h => hc 5 h 0 (zdp (by kernel_rfl))) (fun h => hc 8 h 5 (zdp (by kernel_rfl))) hl
        | 1, _, hdy => exact znT hdy
        | 2, _, hdy => exact znT hdy
        | 3, _, hdy => exact znT hdy
        | 4, _, hdy => exact znT hdy
        | 5, _, _ =>
         intro o ho ac w' L rho hR hD hl hc hdep hX hF K hK
         simp only [zqA, zqZ, zqS, zqI] at ho
         subst ho
         have r79 : ac.tmps.getD 79 undef = rho 0 := (hdep 0 (zdp (by kernel_rfl))).2
         have e83 : ac.tmps.getD 83 undef = .slice (cutA V.oa V.oc ki 3) (s.ot.length - ki) (V.oc - ki) := hX 4 (zdp (by kernel_rfl)) _ rfl
         have d83 := zgD e83
         have hl0 := (hdep 0 (zdp (by kernel_rfl))).1
         obtain ⟨a0, c0, e1, e2, _⟩ := hD.z hl0 hl
         rw [e1] at r79
         refine step_appG rfl _ _ 52 TRq (.agg #[.int .i64 0, .int .i64 0, .int .i64 0]) 3 24 rfl Try.underlying52 infoRq rfl (by decide) w9.heap.size a0 0 c0 [] r79 e2 (cutA V.oa V.oc ki 3) (s.ot.length - ki) (V.oc - ki) (qcells ((way s.ot).drop ki)) e83 (by rw [qcells_len, List.length_drop, way_len]) (SrcAt.pps (PO9.out.below hR)) (qcells_one _) (by have := hrl.out; have := hol.out; unfold maxLen; omega) (by have := hrl.out; have := hol.out; omega) hR.size ?_
         intro a' c' w2' ho hg hat
         simp only [Nat.zero_add, List.nil_append] at ho hg hat ⊢
         refine hK _ _ (bgrown hR hg (fun j hj => (OwnR.lt e2 hj).1)) (fun h => by cases h) (fun u h => by cases h) ?_
         exact hD.src1 (by decide) (by decide) (by decide) e1 hl0 hl (fun h => hc 8 h 5 (zdp (by kernel_rfl))) ho hg hat
        | 6, _, hdy => exact znT hdy
        | 7, _, hdy => exact znT hdy
        | 8, _, _ =>
         intro o ho ac w' L rho hR hD hl hc hdep hX hF K hK
         simp only [zqA, zqZ, zqS, zqI] at ho
         subst ho
         have r84 : ac.tmps.getD 84 undef = rho 5 := (hdep 5 (zdp (by kernel_rfl))).2
         have e86 : ac.tmps.getD 86 undef = .slice (cutA (some ⟨wb, wo, none⟩) wc 1 3) r.length (wc - 1) := hX 7 (zdp (by kernel_rfl)) _ rfl
         have d86 := zgD e86
         have hl1 := (hdep 5 (zdp (by kernel_rfl))).1
         obtain ⟨a0, c0, e1, e2, _⟩ := hD.y hl1 hl
         rw [e1] at r84
         refine step_appG rfl _ _ 52 TRq (.agg #[.int .i64 0, .int .i64 0, .int .i64 0]) 3 24 rfl Try.underlying52 infoRq rfl (by decide) w9.heap.size a0 (s.ot.length - ki) c0 (qcells ((way s.ot).drop ki)) r84 e2 (cutA (some ⟨wb, wo, none⟩) wc 1 3) r.length (wc - 1) (qcells ((way ((x, k) :: r)).drop 1)) e86 (by rw [qcells_len, List.length_drop, way_len]; rfl) (SrcAt.pps (PW9.out.below hR)) (qcells_one _) (by have := hrl.out; have := hol.out; unfold maxLen; omega) (by have := hrl.out; have := hol.out; omega) hR.size ?_
         intro a' c' w2' ho hg hat
         refine hK _ _ (bgrown hR hg (fun j hj => (OwnR.lt e2 hj).1)) (fun h => by cases h) (fun u h => by cases h) ?_
         exact hD.src2 (by decide) (by decide) (by decide) e1 hl1 hl ho hg hat
        | k + 9, hk, _ => omega
       ·rintro ⟨tm, df⟩ wa rho hdf hsz hF hR9 hX hV hD
        obtain rfl : df = [] := hdf
        obtain ⟨q, rfl⟩ := frame150 tm hsz
        have hD' := hD (fun i => decide (i < 9)) (fun i hi => decide_eq_true hi) (fun i hi => decide_eq_false (by omega))
        obtain ⟨la, lc, e6', ol, _⟩ := hD'.u rfl
        have kk1 : q 87 = _ := (hV 8 (by decide)).trans e6'
        rw [kk1]
        clear kk1
        have kk := zbk hF [0, 1, 2, 3, 4, 5, 6, 7, 8, 9, 10, 11, 12, 13, 14, 15, 16, 17, 18, 19, 20, 21, 148, 149] (by kernel_rfl)
        simp only [Bk, Array.getD_eq_getD_getElem?, zqA, zqS, zqZ, Option.getD_some] at kk
        simp only [kk]
        clear kk
        clear hF hX hV hD hsz hD' e6'
        replace ol := Lib.hid ol
        have hRwa := Lib.hid hR9
        clear hR9
        change wpAny _ _ _ _ 1 _ _ _
        refine wpAny_ready (rs := [9]) (by kernel_rfl) (by simp) ?_
        refine AllReady.cons (i := 9) rfl (fun K hK => ?_) AllReady.nil
        go_simp
        refine hK _ _ ?_
        clear hK K
        refine ⟨by kernel_rfl, ?_⟩
        have ima := Lib.hid (im9.out.below hRwa.out)
        have HL : Hid (Hd (NB3 N b1 b2 b3) wa (fun w => PpsAt w la ((way s.ot).drop ki ++ (way ((x, k) :: r)).drop 1))) := by
         have hl9 : ((way s.ot).drop ki ++ (way ((x, k) :: r)).drop 1).length = s.ot.length - ki + r.length := by rw [List.length_append, List.length_drop, List.length_drop, way_len, way_len]; rfl
         have o1 : OwnR wa w9.heap.size TRq 3 la (s.ot.length - ki + r.length) lc (qcells ((way s.ot).drop ki ++ (way ((x, k) :: r)).drop 1)) := by
          have := ol.out
          rw [show qcells ((way s.ot).drop ki ++ (way ((x, k) :: r)).drop 1) = qcells ((way s.ot).drop ki) ++ qcells ((way ((x, k) :: r)).drop 1) by simp [qcells]]
          exact this
         exact Hd.row o1 hl9 (CI.lt im9.out.cb HN.out)
        clear PW9 PO9 ol hcutK hcutW
        go_upto_region 14 with (fail)
        obtain ⟨fc, hfc⟩ : ∃ fc, fc = fcl (failP (edgeS s) y ((x, k + 1) :: r)) V.oa V.oc la lc := ⟨_, rfl⟩
        have hfl : fc = [.int .i64 2, .int .i64 0, .int .i64 (s.nodes : Int), .int .i64 ((edgeS s).edges : Int), .int .i64 (s.depth : Int), .slice V.oa ki V.oc, .slice la (s.ot.length - ki + r.length) lc] := by
         have q1 : (failP (edgeS s) y ((x, k + 1) :: r)).stem.length = ki := by
          show ((way s.ot).take ((way s.ot).idxOf y)).length = ki
          rw [← hki.out, List.length_take, way_len]; have := hkl2.out; omega
         have q2 : (failP (edgeS s) y ((x, k + 1) :: r)).loop.length = s.ot.length - ki + r.length := by
          show ((way s.ot).drop ((way s.ot).idxOf y) ++ (way ((x, k + 1) :: r)).drop 1).length = _
          rw [← hki.out, List.length_append, List.length_drop, List.length_drop, way_len, way_len]; rfl
         rw [hfc]
         unfold fcl
         rw [q1, q2]
         rfl
        have hf1 : Hid (∀ v ∈ fc, v.oneCell' = true) := by rw [hfc]; exact fcl_one _ _ _ _ _
        have hf7 : Hid (fc.length = zfc.length) := by rw [hfl]; rfl
        have hne : Hid (¬ (b1 = b2 ∨ b1 = b3) ∧ ¬ b3 = b2 ∧ ¬ b2 = b3) := by
         have := ima.out.cb.e1; have := ima.out.cb.e2; have := ima.out.cb.e3
         exact ⟨by omega, by omega, by omega⟩
        replace hfl := Lib.hid hfl
        replace hfc := Lib.hid hfc
        clear hk0
        refine wp_region_dyn (by kernel_rfl) 12 (fun w' => Keeps wa w' (fun j => j = b2 ∨ j = b3)) (fun i => ([some (.agg (scl Z V (edgeS s)).toArray), some (.pointer (some ⟨b1, 9, none⟩)), some (.agg #[.int .i64 (s.nodes : Int), .int .i64 ((edgeS s).edges : Int), .int .i64 (s.depth : Int)]), some (.pointer (some ⟨b1, 14, none⟩)), some (.slice V.oa s.ot.length V.oc), some (.int .i64 (ki : Int)), some (.slice V.oa ki V.oc), some (.slice la (s.ot.length - ki + r.length) lc), some (.agg #[.int .i64 2, .int .i64 0, .int .i64 (s.nodes : Int), .int .i64 ((edgeS s).edges : Int), .int .i64 (s.depth : Int), .slice V.oa ki V.oc, .slice la (s.ot.length - ki + r.length) lc]), none, none, some (.bool true)] : List (Option Value)).getD i none) (fun i => ([false, false, false, false, false, false, false, false, false, true, true, false] : List Bool).getD i false) (fun L _ w => WrD b2 TRS zsc (scl Z V (edgeS s)) 9 L w ∧ WrD b3 TRF zfc fc 10 L w) (by kernel_rfl) (by kernel_rfl) (by kernel_rfl) (Keeps.drewN _ 1 _) (fun rho => ⟨WrD.start ima.out.cb.r2, WrD.start ima.out.cb.r3⟩) ?_ ?_ ?_
        ·intro i hi hdy
         match i, hi, hdy with
         | 0, _, _ =>
          refine ⟨_, rfl, fun L rho w h => ⟨h.1.pass (by decide), h.2.pass (by decide)⟩, ?_⟩
          intro o ho ac w' hR hF hX
          simp only [zqA, zqZ, zqI] at ho
          subst ho
          refine ⟨fun h => (by cases h), fun K hK => ?_⟩
          have e1 : ac.tmps.getD 1 undef = .pointer (some ⟨b1, 0, none⟩) := hF 1 (znd (by kernel_rfl))
          have d1 := zgD e1
          clear hX hF
          exact step_load undS infoS1 (ima.out.cb.r1.keeps hR hne.out.1) rfl rfl 1 rfl e1 hK
         | 1, _, _ =>
          refine ⟨_, rfl, fun L rho w h => ⟨h.1.pass (by decide), h.2.pass (by decide)⟩, ?_⟩
          intro o ho ac w' hR hF hX
          simp only [zqA, zqZ, zqS, zqI] at ho
          subst ho
          refine ⟨fun h => (by cases h), fun K hK => ?_⟩
          have e1 : ac.tmps.getD 1 undef = .pointer (some ⟨b1, 0, none⟩) := hF 1 (znd (by kernel_rfl))
          have d1 := zgD e1
          clear hX hF
          go_simp
          exact hK
         | 2, _, _ =>
          refine ⟨_, rfl, fun L rho w h => ⟨h.1.pass (by decide), h.2.pass (by decide)⟩, ?_⟩
          intro o ho ac w' hR hF hX
          simp only [zqA, zqZ, zqS, zqI] at ho
          subst ho
          refine ⟨fun h => (by cases h), fun K hK => ?_⟩
          have e89 : ac.tmps.getD 89 undef = .pointer (some ⟨b1, 9, none⟩) := hX 1 (zdp (by kernel_rfl)) _ rfl
          have d89 := zgD e89
          have rb := ima.out.cb.r1.keeps hR hne.out.1
          have q0 : w'.cell? ⟨b1, 9, none⟩ = some (.int .i64 (s.nodes : Int)) := rb.cell 9
          have q1 : w'.cell? ⟨b1, 10, none⟩ = some (.int .i64 ((edgeS s).edges : Int)) := rb.cell 10
          have q2 : w'.cell? ⟨b1, 11, none⟩ = some (.int .i64 (s.depth : Int)) := rb.cell 11
          clear rb
          clear hX hF
          go_simp
          exact hK
         | 3, _, _ =>
          refine ⟨_, rfl, fun L rho w h => ⟨h.1.pass (by decide), h.2.pass (by decide)⟩, ?_⟩
          intro o ho ac w' hR hF hX
          simp only [zqA, zqZ, zqS, zqI] at ho
          subst ho
          refine ⟨fun h => (by cases h), fun K hK => ?_⟩
          have e1 : ac.tmps.getD 1 undef = .pointer (some ⟨b1, 0, none⟩) := hF 1 (znd (by kernel_rfl))
          have d1 := zgD e1
          clear hX hF
          go_simp
          exact hK
         | 4, _, _ =>
          refine ⟨_, rfl, fun L rho w h => ⟨h.1.pass (by decide), h.2.pass (by decide)⟩, ?_⟩
          intro o ho ac w' hR hF hX
          simp only [zqA, zqZ, zqS, zqI] at ho
          subst ho
          refine ⟨fun h => (by cases h), fun K hK => ?_⟩
          have e91 : ac.tmps.getD 91 undef = .pointer (some ⟨b1, 14, none⟩) := hX 3 (zdp (by kernel_rfl)) _ rfl
          have d91 := zgD e91
          have q4 : w'.cell? ⟨b1, 14, none⟩ = some (.slice V.oa s.ot.length V.oc) := (ima.out.cb.r1.keeps hR hne.out.1).cell 14
          clear hX hF
          go_simp
          exact hK
         | 5, _, _ =>
          refine ⟨_, rfl, fun L rho w h => ⟨h.1.pass (by decide), h.2.pass (by decide)⟩, ?_⟩
          intro o ho ac w' hR hF hX
          simp only [zqA, zqZ, zqS, zqI] at ho
          subst ho
          refine ⟨fun h => (by cases h), fun K hK => ?_⟩
          have e10 : ac.tmps.getD 10 undef = .int .i64 (ki : Int) := hF 10 (znd (by kernel_rfl))
          have d10 := zgD e10
          clear hX hF
          go_simp
          exact hK
         | 6, _, _ =>
          refine ⟨_, rfl, fun L rho w h => ⟨h.1.pass (by decide), h.2.pass (by decide)⟩, ?_⟩
          intro o ho ac w' hR hF hX
          simp only [zqA, zqZ, zqS, zqI] at ho
          subst ho
          refine ⟨fun h => (by cases h), fun K hK => ?_⟩
          have e92 : ac.tmps.getD 92 undef = .slice V.oa s.ot.length V.oc := hX 4 (zdp (by kernel_rfl)) _ rfl
          have d92 := zgD e92
          have e93 : ac.tmps.getD 93 undef = .int .i64 (ki : Int) := hX 5 (zdp (by kernel_rfl)) _ rfl
          have d93 := zgD e93
          have hc6 := hcutS w'
          clear hX hF
          go_simp
          exact hK
         | 7, _, _ =>
          refine ⟨_, rfl, fun L rho w h => ⟨h.1.pass (by decide), h.2.pass (by decide)⟩, ?_⟩
          intro o ho ac w' hR hF hX
          simp only [zqA, zqZ, zqS, zqI] at ho
          subst ho
          refine ⟨fun h => (by cases h), fun K hK => ?_⟩
          have e11 : ac.tmps.getD 11 undef = .slice la (s.ot.length - ki + r.length) lc := hF 11 (znd (by kernel_rfl))
          have d11 := zgD e11
          clear hX hF
          go_simp
          exact hK
         | 8, _, _ =>
          refine ⟨_, rfl, fun L rho w h => ⟨h.1.pass (by decide), h.2.pass (by decide)⟩, ?_⟩
          intro o ho ac w' hR hF hX
          simp only [zqA, zqZ, zqS, zqI] at ho
          subst ho
          refine ⟨fun h => (by cases h), fun K hK => ?_⟩
          have e90 : ac.tmps.getD 90 undef = .agg #[.int .i64 (s.nodes : Int), .int .i64 ((edgeS s).edges : Int), .int .i64 (s.depth : Int)] := hX 2 (zdp (by kernel_rfl)) _ rfl
          have d90 := zgD e90
          have e94 : ac.tmps.getD 94 undef = .slice V.oa ki V.oc := hX 6 (zdp (by kernel_rfl)) _ rfl
          have d94 := zgD e94
          have e95 : ac.tmps.getD 95 undef = .slice la (s.ot.length - ki + r.length) lc := hX 7 (zdp (by kernel_rfl)) _ rfl
          have d95 := zgD e95
          clear hX hF
          go_simp
          exact hK
         | 9, _, hdy => exact znF hdy
         | 10, _, hdy => exact znF hdy
         | 11, _, _ =>
          refine ⟨_, rfl, fun L rho w h => ⟨h.1.pass (by decide), h.2.pass (by decide)⟩, ?_⟩
          intro o ho ac w' hR hF hX
          simp only [zqA, zqZ, zqS, zqI] at ho
          subst ho
          refine ⟨fun h => (by cases h), fun K hK => ?_⟩
          have e88 : ac.tmps.getD 88 undef = .agg (scl Z V (edgeS s)).toArray := hX 0 (zdp (by kernel_rfl)) _ rfl
          have d88 := zgD e88
          have e89 : ac.tmps.getD 89 undef = .pointer (some ⟨b1, 9, none⟩) := hX 1 (zdp (by kernel_rfl)) _ rfl
          have d89 := zgD e89
          have e90 : ac.tmps.getD 90 undef = .agg #[.int .i64 (s.nodes : Int), .int .i64 ((edgeS s).edges : Int), .int .i64 (s.depth : Int)] := hX 2 (zdp (by kernel_rfl)) _ rfl
          have d90 := zgD e90
          have e91 : ac.tmps.getD 91 undef = .pointer (some ⟨b1, 14, none⟩) := hX 3 (zdp (by kernel_rfl)) _ rfl
          have d91 := zgD e91
          have e92 : ac.tmps.getD 92 undef = .slice V.oa s.ot.length V.oc := hX 4 (zdp (by kernel_rfl)) _ rfl
          have d92 := zgD e92
          have e93 : ac.tmps.getD 93 undef = .int .i64 (ki : Int) := hX 5 (zdp (by kernel_rfl)) _ rfl
          have d93 := zgD e93
          have e94 : ac.tmps.getD 94 undef = .slice V.oa ki V.oc := hX 6 (zdp (by kernel_rfl)) _ rfl
          have d94 := zgD e94
          have e95 : ac.tmps.getD 95 undef = .slice la (s.ot.length - ki + r.length) lc := hX 7 (zdp (by kernel_rfl)) _ rfl
          have d95 := zgD e95
          have e96 : ac.tmps.getD 96 undef = .agg #[.int .i64 2, .int .i64 0, .int .i64 (s.nodes : Int), .int .i64 ((edgeS s).edges : Int), .int .i64 (s.depth : Int), .slice V.oa ki V.oc, .slice la (s.ot.length - ki + r.length) lc] := hX 8 (zdp (by kernel_rfl)) _ rfl
          have d96 := zgD e96
          clear hX hF
          go_simp
          exact hK
         | k + 12, hk, _ => omega
        ·intro i hi hdy
         match i, hi, hdy with
         | 0, _, hdy => exact znT hdy
         | 1, _, hdy => exact znT hdy
         | 2, _, hdy => exact znT hdy
         | 3, _, hdy => exact znT hdy
         | 4, _, hdy => exact znT hdy
         | 5, _, hdy => exact znT hdy
         | 6, _, hdy => exact znT hdy
         | 7, _, hdy => exact znT hdy
         | 8, _, hdy => exact znT hdy
         | 9, _, _ =>
          intro o ho ac w' L rho hR hD hl hc hdep hX hF K hK
          simp only [zqA, zqZ, zqS, zqI] at ho
          subst ho
          have e2 : ac.tmps.getD 2 undef = .pointer (some ⟨b2, 0, none⟩) := hF 2 (znd (by kernel_rfl))
          have d2 := zgD e2
          have e88 : ac.tmps.getD 88 undef = .agg (scl Z V (edgeS s)).toArray := hX 0 (zdp (by kernel_rfl)) _ rfl
          have d88 := zgD e88
          refine step_store (l := scl Z V (edgeS s)) infoS1 (hD.1.old_ hl) rfl (rfl) (scl_one _ _ _) rfl 2 88 rfl e2 e88 ?_
          intro w9' hrow hk
          refine hK _ _ (hR.trans hk (fun j _ e => .inl e)) (fun _ => rfl) (fun u h => by cases h) ⟨WrD.wrote hrow, (hD.2.pass (by decide)).keeps hk hne.out.2.1⟩
         | 10, _, _ =>
          intro o ho ac w' L rho hR hD hl hc hdep hX hF K hK
          simp only [zqA, zqZ, zqS, zqI] at ho
          subst ho
          have e3 : ac.tmps.getD 3 undef = .pointer (some ⟨b3, 0, none⟩) := hF 3 (znd (by kernel_rfl))
          have d3 := zgD e3
          have e88 : ac.tmps.getD 88 undef = .agg (scl Z V (edgeS s)).toArray := hX 0 (zdp (by kernel_rfl)) _ rfl
          have d88 := zgD e88
          have e89 : ac.tmps.getD 89 undef = .pointer (some ⟨b1, 9, none⟩) := hX 1 (zdp (by kernel_rfl)) _ rfl
          have d89 := zgD e89
          have e90 : ac.tmps.getD 90 undef = .agg #[.int .i64 (s.nodes : Int), .int .i64 ((edgeS s).edges : Int), .int .i64 (s.depth : Int)] := hX 2 (zdp (by kernel_rfl)) _ rfl
          have d90 := zgD e90
          have e91 : ac.tmps.getD 91 undef = .pointer (some ⟨b1, 14, none⟩) := hX 3 (zdp (by kernel_rfl)) _ rfl
          have d91 := zgD e91
          have e92 : ac.tmps.getD 92 undef = .slice V.oa s.ot.length V.oc := hX 4 (zdp (by kernel_rfl)) _ rfl
          have d92 := zgD e92
          have e93 : ac.tmps.getD 93 undef = .int .i64 (ki : Int) := hX 5 (zdp (by kernel_rfl)) _ rfl
          have d93 := zgD e93
          have e94 : ac.tmps.getD 94 undef = .slice V.oa ki V.oc := hX 6 (zdp (by kernel_rfl)) _ rfl
          have d94 := zgD e94
          have e95 : ac.tmps.getD 95 undef = .slice la (s.ot.length - ki + r.length) lc := hX 7 (zdp (by kernel_rfl)) _ rfl
          have d95 := zgD e95
          have e96 : ac.tmps.getD 96 undef = .agg #[.int .i64 2, .int .i64 0, .int .i64 (s.nodes : Int), .int .i64 ((edgeS s).edges : Int), .int .i64 (s.depth : Int), .slice V.oa ki V.oc, .slice la (s.ot.length - ki + r.length) lc] := hX 8 (zdp (by kernel_rfl)) _ rfl
          have d96 := zgD e96
          refine step_store (l := fc) infoF1 (hD.2.old_ hl) rfl (hf7.out) (hf1.out) rfl 3 96 rfl e3 (e96.trans (by rw [hfl.out])) ?_
          intro w9' hrow hk
          refine hK _ _ (hR.trans hk (fun j _ e => .inr e)) (fun _ => rfl) (fun u h => by cases h) ⟨(hD.1.pass (by decide)).keeps hk hne.out.2.2, WrD.wrote hrow⟩
         | 11, _, hdy => exact znT hdy
         | k + 12, hk, _ => omega
        ·rintro ⟨tm, df⟩ wz rho hdf hsz hF hR9 hX hV hD
         obtain rfl : df = [] := hdf
         obtain ⟨q, rfl⟩ := frame150 tm hsz
         have hD' := hD (fun i => decide (i < 12)) (fun i hi => decide_eq_true hi) (fun i hi => decide_eq_false (by omega))
         have k4 : q 4 = .bool true := hX 11 _ (by decide) rfl
         rw [k4]
         clear k4
         have kk := zbk hF [0, 1, 2, 3] (by kernel_rfl)
         simp only [Bk, Array.getD_eq_getD_getElem?, zqA, zqS, zqZ, Option.getD_some] at kk
         simp only [kk]
         clear kk
         have z1 := hD'.1.new_ rfl
         have z2 := hD'.2.new_ rfl
         clear hF hX hV hD hsz hD'
         change wpAny _ _ _ _ 0 _ _ _
         refine ⟨by kernel_rfl, ?_⟩
         go_wp2
         refine bodyPost_ret (v := .tuple #[.agg (scl Z V (edgeS s)).toArray, .agg (List.toArray fc), .bool true]) (results3 (a := 2) (b := 3) (c := 4) (by kernel_rfl) rfl rfl rfl (loadVar_whole undS infoS1 z1 rfl) (loadVar_whole undF infoF1 z2 hf7.out)) rfl ?_
         rw [hrw.out]
         refine ⟨V, fc, rfl, hf7.out, hf1.out, hR9.below ima.out.cb.bw (fun j hj => ?_), CB.done ima.out.hv (Below.refl _ _) hR9, ima.out.hc, fun f hf => ?_⟩
         ·have := ima.out.cb.e2; have := ima.out.cb.e3; omega
         ·cases hf
          refine ⟨V.oa, V.oc, la, lc, hfc.out, CB.done (b2 := b1) (b4 := b2) (b5 := b3) ?_ (Below.refl _ _) hR9⟩
          refine ((ima.out.hv).and HL.out).imp (fun w h => ⟨?_, ?_⟩)
          ·have := (h.1.o).upto3 ki
           rw [hki.out] at this
           exact this
          ·have := h.2
           rw [hki.out, way_cons] at this
           show PpsAt w la ((way s.ot).drop ((way s.ot).idxOf y) ++ (way ((x, k + 1) :: r)).drop 1)
           rw [way_cons]
           exact this
      ·refine hK _ _ ?_
       clear hK K PL
       refine wpList_plain rfl (fun K hK => ?_)
       go_simp
       refine hK _ _ ?_
       clear hK K
       refine wpList_nil ?_
       have PM := place_any w9 V.ma V.mc s.marked (im9.out.hv.now).m y (by have := NI.out.few _ st1.out.inv.inv.mn st1.out.inv.inv.mv; have := hC.out; omega)
       have hml : Hid (s.marked.length ≤ 3200) := by have := NI.out.few _ st1.out.inv.inv.mn st1.out.inv.inv.mv; have := hC.out; show _ ≤ _; omega
       have c13 : w9.cell? ⟨b1, 13, none⟩ = some (.slice V.ma s.marked.length V.mc) := im9.out.cb.r1.cell 13
       have y0 : w9.cell? ⟨gt, 0, none⟩ = some (.int .i64 y.node) := im9.out.rt.cell 0
       have y1 : w9.cell? ⟨gt, 1, none⟩ = some (.int .i64 y.state) := im9.out.rt.cell 1
       have y2 : w9.cell? ⟨gt, 2, none⟩ = some (.int .i64 y.turn) := im9.out.rt.cell 2
       replace PM := Lib.hid PM
       replace hm := Lib.hid hm
       go_upto_region 15 with (fail)
       refine wp_region_list ?_
       refine wpList_plain rfl (fun K hK => ?_)
       go_simp
       refine hK _ _ ?_
       clear hK K
       refine wpList_plain rfl (fun K hK => ?_)
       go_simp
       refine hK _ _ ?_
       clear hK K
       refine wpList_plain rfl (fun K hK => ?_)
       go_simp
       refine hK _ _ ?_
       clear hK K
       clear c13 y0 y1 y2
       refine wpList_plain rfl (fun K hK => ?_)
       go_simp
       refine PM.out.mono ?_
       rintro e wb' ⟨hp9, hb10⟩
       have imb := Lib.hid (im9.out.below hb10)
       replace hb10 := Lib.hid hb10
       rcases hp9 with ⟨hm2, rfl⟩ | ⟨hm2, rfl⟩
       ·obtain ⟨kj, hkj⟩ : ∃ kj, kj = s.marked.idxOf y := ⟨_, rfl⟩
        rw [← hkj]
        have hk0 : (0 : Int) ≤ (kj : Int) := by omega
        clear hkj
        refine hK _ _ ?_
        clear hK K PM
        refine wpList_plain rfl (fun K hK => ?_)
        go_simp
        refine hK _ _ ?_
        clear hK K
        refine wpList_nil ?_
        go_wp2
        go_roundg m
        case rel => exact ⟨rfl, V, edgeS s, (x, k + 1) :: r, _, ia7, wc, ic7, rfl, rfl, st1.out.skip NI.out hnkH.out hm.out hm2 imb.out.cb imb.out.hv imb.out.hp imb.out.hi hic7.out⟩
        case measure => omega
       ·refine hK _ _ ?_
        clear hK K PM
        replace hm2 := Lib.hid hm2
        refine wpList_plain rfl (fun K hK => ?_)
        go_simp
        refine hK _ _ ?_
        clear hK K
        refine wpList_nil ?_
        go_upto_region 16 with (fail)
        have PMb := Lib.hid (imb.out.hv.now).m
        refine wp_region_dyn (by kernel_rfl) 8 (fun w' => Below wb'.heap.size wb' w') (fun i => ([none, some (.pointer (some ⟨b1, 13, none⟩)), some (.slice V.ma s.marked.length V.mc), none, some (.agg #[.int .i64 y.node, .int .i64 y.state, .int .i64 y.turn]), none, none, some (.pointer (some ⟨b1, 13, none⟩))] : List (Option Value)).getD i none) (fun i => ([true, false, false, true, false, true, true, false] : List Bool).getD i false) (Ap3 wb'.heap.size TRq 3 (s.marked.length) (s.marked.length + 1) (qcells s.marked) (qcells s.marked ++ [.int .i64 y.node, .int .i64 y.state, .int .i64 y.turn]) [.int .i64 y.node, .int .i64 y.state, .int .i64 y.turn] 0 3 6 5) (by kernel_rfl) (by kernel_rfl) (by kernel_rfl) (Below.refl _ _).drew (fun rho => Ap3.start rho _) ?_ ?_ ?_
        ·intro i hi hdy
         match i, hi, hdy with
         | 0, _, hdy => exact znF hdy
         | 1, _, _ =>
          refine ⟨_, rfl, fun L rho w h => h.pass (by decide) (by decide) (by decide) (by decide), ?_⟩
          intro o ho ac w' hR hF hX
          simp only [zqA, zqZ, zqS, zqI] at ho
          subst ho
          refine ⟨fun h => (by cases h), fun K hK => ?_⟩
          have e1 : ac.tmps.getD 1 undef = .pointer (some ⟨b1, 0, none⟩) := hF 1 (znd (by kernel_rfl))
          have d1 := zgD e1
          clear hX hF
          go_simp
          exact hK
         | 2, _, _ =>
          refine ⟨_, rfl, fun L rho w h => h.pass (by decide) (by decide) (by decide) (by decide), ?_⟩
          intro o ho ac w' hR hF hX
          simp only [zqA, zqZ, zqS, zqI] at ho
          subst ho
          refine ⟨fun h => (by cases h), fun K hK => ?_⟩
          have e103 : ac.tmps.getD 103 undef = .pointer (some ⟨b1, 13, none⟩) := hX 1 (zdp (by kernel_rfl)) _ rfl
          have d103 := zgD e103
          have c13 : w'.cell? ⟨b1, 13, none⟩ = some (.slice V.ma s.marked.length V.mc) := (imb.out.cb.r1.below hR).cell 13
          clear hX hF
          go_simp
          exact hK
         | 3, _, hdy => exact znF hdy
         | 4, _, _ =>
          refine ⟨_, rfl, fun L rho w h => h.pass (by decide) (by decide) (by decide) (by decide), ?_⟩
          intro o ho ac w' hR hF hX
          simp only [zqA, zqZ, zqS, zqI] at ho
          subst ho
          refine ⟨fun h => (by cases h), fun K hK => ?_⟩
          have e9 : ac.tmps.getD 9 undef = .pointer (some ⟨gt, 0, none⟩) := hF 9 (znd (by kernel_rfl))
          have d9 := zgD e9
          have q0 : w'.cell? ⟨gt, 0, none⟩ = some (.int .i64 y.node) := (imb.out.rt.below hR).cell 0
          have q1 : w'.cell? ⟨gt, 1, none⟩ = some (.int .i64 y.state) := (imb.out.rt.below hR).cell 1
          have q2 : w'.cell? ⟨gt, 2, none⟩ = some (.int .i64 y.turn) := (imb.out.rt.below hR).cell 2
          clear hX hF
          go_simp
          exact hK
         | 5, _, hdy => exact znF hdy
         | 6, _, hdy => exact znF hdy
         | 7, _, _ =>
          refine ⟨_, rfl, fun L rho w h => h.pass (by decide) (by decide) (by decide) (by decide), ?_⟩
          intro o ho ac w' hR hF hX
          simp only [zqA, zqZ, zqS, zqI] at ho
          subst ho
          refine ⟨fun h => (by cases h), fun K hK => ?_⟩
          have e1 : ac.tmps.getD 1 undef = .pointer (some ⟨b1, 0, none⟩) := hF 1 (znd (by kernel_rfl))
          have d1 := zgD e1
          have e103 : ac.tmps.getD 103 undef = .pointer (some ⟨b1, 13, none⟩) := hX 1 (zdp (by kernel_rfl)) _ rfl
          have d103 := zgD e103
          have e104 : ac.tmps.getD 104 undef = .slice V.ma s.marked.length V.mc := hX 2 (zdp (by kernel_rfl)) _ rfl
          have d104 := zgD e104
          have e106 : ac.tmps.getD 106 undef = .agg #[.int .i64 y.node, .int .i64 y.state, .int .i64 y.turn] := hX 4 (zdp (by kernel_rfl)) _ rfl
          have d106 := zgD e106
          clear hX hF
          go_simp
          exact hK
         | k + 8, hk, _ => omega
        ·intro i hi hdy
         match i, hi, hdy with
         | 0, _, _ =>
          intro o ho ac w' L rho hR hD hl hc hdep hX hF K hK
          simp only [zqA, zqZ, zqI] at ho
          subst ho
          go_simp
          refine hK _ _ (balloc hR _) (fun h => by cases h) (fun u h => by cases h) ?_
          exact hD.zero hR.size (by decide) (by decide) (by decide) (fun h => hc 3 h 0 (zdp (by kernel_rfl))) (fun h => hc 6 h 3 (zdp (by kernel_rfl))) hl
         | 1, _, hdy => exact znT hdy
         | 2, _, hdy => exact znT hdy
         | 3, _, _ =>
          intro o ho ac w' L rho hR hD hl hc hdep hX hF K hK
          simp only [zqA, zqZ, zqS, zqI] at ho
          subst ho
          have r102 : ac.tmps.getD 102 undef = rho 0 := (hdep 0 (zdp (by kernel_rfl))).2
          have e104 : ac.tmps.getD 104 undef = .slice V.ma s.marked.length V.mc := hX 2 (zdp (by kernel_rfl)) _ rfl
          have d104 := zgD e104
          have hl0 := (hdep 0 (zdp (by kernel_rfl))).1
          obtain ⟨a0, c0, e1, e2, _⟩ := hD.z hl0 hl
          rw [e1] at r102
          refine step_appG rfl _ _ 52 TRq (.agg #[.int .i64 0, .int .i64 0, .int .i64 0]) 3 24 rfl Try.underlying52 infoRq rfl (by decide) wb'.heap.size a0 0 c0 [] r102 e2 V.ma s.marked.length V.mc (qcells s.marked) e104 (by rw [qcells_len]) (SrcAt.pps (PMb.out.below hR)) (qcells_one _) (by have := hml.out; unfold maxLen; omega) (by have := hml.out; omega) hR.size ?_
          intro a' c' w2' ho hg hat
          simp only [Nat.zero_add, List.nil_append] at ho hg hat ⊢
          refine hK _ _ (bgrown hR hg (fun j hj => (OwnR.lt e2 hj).1)) (fun h => by cases h) (fun u h => by cases h) ?_
          exact hD.src1 (by decide) (by decide) (by decide) e1 hl0 hl (fun h => hc 6 h 3 (zdp (by kernel_rfl))) ho hg hat
         | 4, _, hdy => exact znT hdy
         | 5, _, _ =>
          intro o ho ac w' L rho hR hD hl hc hdep hX hF K hK
          simp only [zqA, zqZ, zqS, zqI] at ho
          subst ho
          have e106 : ac.tmps.getD 106 undef = .agg #[.int .i64 y.node, .int .i64 y.state, .int .i64 y.turn] := hX 4 (zdp (by kernel_rfl)) _ rfl
          have d106 := zgD e106
          go_simp
          refine hK _ _ (balloc hR _) (fun h => by cases h) (fun u h => by cases h) ?_
          exact hD.elem hR.size (by decide) (by decide) (by decide) #[.int .i64 y.node, .int .i64 y.state, .int .i64 y.turn] rfl
         | 6, _, _ =>
          intro o ho ac w' L rho hR hD hl hc hdep hX hF K hK
          simp only [zqA, zqZ, zqS, zqI] at ho
          subst ho
          have r105 : ac.tmps.getD 105 undef = rho 3 := (hdep 3 (zdp (by kernel_rfl))).2
          have r107 : ac.tmps.getD 107 undef = rho 5 := (hdep 5 (zdp (by kernel_rfl))).2
          have hl1 := (hdep 3 (zdp (by kernel_rfl))).1
          have hl5 := (hdep 5 (zdp (by kernel_rfl))).1
          obtain ⟨a0, c0, e1, e2, _⟩ := hD.y hl1 hl
          obtain ⟨g5, e5, _, rg5⟩ := hD.x hl5
          rw [e1] at r105
          rw [e5] at r107
          refine step_appG rfl _ _ 52 TRq (.agg #[.int .i64 0, .int .i64 0, .int .i64 0]) 3 24 rfl Try.underlying52 infoRq rfl (by decide) wb'.heap.size a0 (s.marked.length) c0 (qcells s.marked) r105 e2 (some ⟨g5, 0, none⟩) 1 1 [.int .i64 y.node, .int .i64 y.state, .int .i64 y.turn] r107 rfl (SrcAt.row rg5) (by intro u hu; simp at hu; rcases hu with rfl | rfl | rfl <;> rfl) (by have := hml.out; unfold maxLen; omega) (by have := hml.out; omega) hR.size ?_
          intro a' c' w2' ho hg hat
          refine hK _ _ (bgrown hR hg (fun j hj => (OwnR.lt e2 hj).1)) (fun h => by cases h) (fun u h => by cases h) ?_
          exact hD.src2 (by decide) (by decide) (by decide) e1 hl1 hl ho hg hat
         | 7, _, hdy => exact znT hdy
         | k + 8, hk, _ => omega
        ·rintro ⟨tm, df⟩ wc9 rho hdf hsz hF hR9 hX hV hD
         obtain rfl : df = [] := hdf
         obtain ⟨q, rfl⟩ := frame150 tm hsz
         have hD' := hD (fun i => decide (i < 8)) (fun i hi => decide_eq_true hi) (fun i hi => decide_eq_false (by omega))
         obtain ⟨am, cm, e6', om, _⟩ := hD'.u rfl
         have kk1 : q 108 = _ := (hV 6 (by decide)).trans e6'
         have kl7 : q 109 = .pointer (some ⟨b1, 13, none⟩) := hX 7 _ (by decide) rfl
         rw [kk1, kl7]
         clear kk1 kl7
         have kk := zbk hF [0, 1, 2, 3, 4, 5, 6, 7, 8, 9, 10, 11, 12, 13, 14, 15, 16, 17, 18, 19, 20, 21, 148, 149] (by kernel_rfl)
         simp only [Bk, Array.getD_eq_getD_getElem?, zqA, zqS, zqZ, Option.getD_some] at kk
         simp only [kk]
         clear kk
         clear hF hX hV hD hsz hD' e6'
         replace om := Lib.hid om
         have hRwc9 := Lib.hid hR9
         clear hR9
         change wpAny _ _ _ _ 1 _ _ _
         have imc := Lib.hid (imb.out.below hRwc9.out)
         have t0 : wc9.cell? ⟨b1, 13, none⟩ = some (.slice V.ma s.marked.length V.mc) := imc.out.cb.r1.cell 13
         have t1 := imc.out.cb.r1.free 13
         refine wpAny_ready (rs := [8]) (by kernel_rfl) (by simp) ?_
         refine AllReady.cons (i := 8) rfl (fun K hK => ?_) AllReady.nil
         go_simp
         refine hK _ _ ?_
         clear hK K t0 t1
         refine ⟨by kernel_rfl, ?_⟩
         obtain ⟨V2, hV2⟩ : ∃ V2 : RV, V2 = ⟨V.ra, V.rc, am, cm, V.oa, V.oc, V.ta, V.tc⟩ := ⟨_, rfl⟩
         have imd : IM N W Z b1 b2 b3 gt y V2 (markS (edgeS s) y) (way ((x, k) :: r)) (ats ((x, k + 1) :: r)) (some ⟨wb, wo, none⟩) ia7 (wc9.setCell ⟨b1, 13, none⟩ (.slice am (s.marked.length + 1) cm)) := by
          refine imc.out.set 13 _ (by rw [hV2]; simp [scl, markS, edgeS]) ?_ (by rw [hV2]; exact ⟨imc.out.hc.o, imc.out.hc.t⟩)
          have o1 : OwnR (wc9.setCell ⟨b1, 13, none⟩ (.slice am (s.marked.length + 1) cm)) wb'.heap.size TRq 3 am (s.marked.length + 1) cm (qcells (s.marked ++ [y])) := by
           have := OwnR.keeps om.out (Keeps.set (S := fun j => j = b1) wc9 b1 13 (.slice am (s.marked.length + 1) cm) rfl) (fun j hj e => by have := (OwnR.lt om.out hj).1; have := imb.out.cb.r1.lt; omega)
           rw [show qcells (s.marked ++ [y]) = qcells s.marked ++ [.int .i64 y.node, .int .i64 y.state, .int .i64 y.turn] by simp [qcells]]
           exact this
          have h1 := imc.out.hv.keeps (keeps_b1 (N := N) (b2 := b2) (b3 := b3) wc9 13 (.slice am (s.marked.length + 1) cm) (b1 := b1))
          have h2 := Hd.row o1 (by simp) (CI.lt imb.out.cb HN.out)
          rw [hV2]
          exact (h1.and h2).imp (fun w h => ⟨h.1.r, h.2, h.1.o, h.1.t⟩)
         generalize wc9.setCell ⟨b1, 13, none⟩ (.slice am (s.marked.length + 1) cm) = wd at imd ⊢
         have c14 : wd.cell? ⟨b1, 14, none⟩ = some (.slice V.oa s.ot.length V.oc) := by rw [imd.cb.r1.cell 14, hV2]; rfl
         have c8 : wd.cell? ⟨b1, 8, none⟩ = some (.int .i64 (Z.b.d : Int)) := imd.cb.r1.cell 8
         have hV2o : Hid (V2.oa = V.oa ∧ V2.oc = V.oc) := by rw [hV2]; exact ⟨rfl, rfl⟩
         have hwt : IntKind.i64.wrap ((s.ot.length : Int) + ((r.length : Int) + 1)) = (s.ot.length : Int) + ((r.length : Int) + 1) := IntWalk.i64_in _ (by have := hol.out; have := hrl.out; omega)
         replace imd := Lib.hid imd
         replace hV2 := Lib.hid hV2
         clear imc om imb im9 im8 PMb hRwc9 hb9 hb10
         by_cases h3 : Z.b.d < s.ot.length + (r.length + 1)
         ·have h3I : (Z.b.d : Int) < (s.ot.length : Int) + ((r.length : Int) + 1) := by omega
          have hrw : Hid (res = (markS (edgeS s) y, some (overP (markS (edgeS s) y) 2))) := by have := st1.out.hr; rw [innerF_over hnkH.out hm.out hm2.out h3] at this; exact this.symm
          clear h3
          go_upto_region 18 with (fail)
          refine wp_region_list ?_
          have HO := rover_i wd Z V2 (markS (edgeS s) y) 2 2 rfl
          replace HO := Lib.hid HO
          refine list_load undS infoS1 imd.out.cb.r1 rfl rfl 1 rfl rfl ?_
          refine wpList_plain rfl (fun K hK => ?_)
          go_simp
          refine HO.out.mono ?_
          rintro e wv ⟨rfl, hbv⟩
          have cbv := Lib.hid (imd.out.cb.below hbv)
          replace hbv := Lib.hid hbv
          clear HO
          refine hK _ _ ?_
          clear hK K
          refine wpList_plain rfl (fun K hK => ?_)
          go_simp
          refine hK _ _ ?_
          clear hK K
          refine wpList_plain rfl (fun K hK => ?_)
          go_simp
          refine hK _ _ ?_
          clear hK K
          refine wpList_plain rfl (fun K hK => ?_)
          go_simp
          refine hK _ _ ?_
          clear hK K
          refine list_store (l := scl Z V2 (markS (edgeS s) y)) infoS1 cbv.out.r2 rfl rfl (scl_one _ _ _) rfl 2 121 rfl rfl rfl ?_
          intro wx qa ka
          refine list_store (l := fcl (overP (markS (edgeS s) y) 2) none 0 none 0) infoF1 (cbv.out.r3.keeps ka (by have := cbv.out.e2; have := cbv.out.e3; omega)) rfl rfl (fcl_one _ _ _ _ _) rfl 3 122 rfl rfl rfl ?_
          intro wy qb kb
          refine wpList_plain rfl (fun K hK => ?_)
          go_simp
          refine hK _ _ ?_
          clear hK K
          refine wpList_nil ?_
          obtain ⟨z1, z2, z3, z4⟩ := cbv.out.out qa ka qb kb
          go_wp2
          refine bodyPost_ret (v := .tuple #[.agg (scl Z V2 (markS (edgeS s) y)).toArray, .agg (fcl (overP (markS (edgeS s) y) 2) none 0 none 0).toArray, .bool true]) (results3 (a := 2) (b := 3) (c := 4) (by kernel_rfl) rfl rfl rfl (loadVar_whole undS infoS1 z1 rfl) (loadVar_whole undF infoF1 z2 rfl)) rfl ?_
          rw [hrw.out]
          refine ⟨V2, fcl (overP (markS (edgeS s) y) 2) none 0 none 0, rfl, rfl, fcl_one _ _ _ _ _, z3, CB.done imd.out.hv hbv.out z4, imd.out.hc, fun f hf => ?_⟩
          cases hf
          exact ⟨none, 0, none, 0, rfl, fun _ _ => ⟨PpsAt.none_ _ _, PpsAt.none_ _ _⟩⟩
         ·have h3I : (s.ot.length : Int) + ((r.length : Int) + 1) ≤ (Z.b.d : Int) := by omega
          replace h3 := Lib.hid h3
          go_upto_region 19 with (fail)
          clear hwt h3I c14 c8
          have PWd := Lib.hid (imd.out.hp.now)
          refine wp_region_dyn (by kernel_rfl) 6 (fun w' => Below wd.heap.size wd w') (fun i => ([none, some (.slice (some ⟨wb, wo, none⟩) (r.length + 1) wc), none, some (.agg #[.int .i64 y.node, .int .i64 y.state, .int .i64 y.turn]), none, none] : List (Option Value)).getD i none) (fun i => ([true, false, true, false, true, true] : List Bool).getD i false) (Ap3 wd.heap.size TRq 3 (r.length + 1) (r.length + 1 + 1) (qcells (way ((x, k) :: r))) (qcells (way ((x, k) :: r)) ++ [.int .i64 y.node, .int .i64 y.state, .int .i64 y.turn]) [.int .i64 y.node, .int .i64 y.state, .int .i64 y.turn] 0 2 5 4) (by kernel_rfl) (by kernel_rfl) (by kernel_rfl) (Below.refl _ _).drew (fun rho => Ap3.start rho _) ?_ ?_ ?_
          ·intro i hi hdy
           match i, hi, hdy with
           | 0, _, hdy => exact znF hdy
           | 1, _, _ =>
            refine ⟨_, rfl, fun L rho w h => h.pass (by decide) (by decide) (by decide) (by decide), ?_⟩
            intro o ho ac w' hR hF hX
            simp only [zqA, zqZ, zqS, zqI] at ho
            subst ho
            refine ⟨fun h => (by cases h), fun K hK => ?_⟩
            have e5 : ac.tmps.getD 5 undef = .slice (some ⟨wb, wo, none⟩) (r.length + 1) wc := hF 5 (znd (by kernel_rfl))
            have d5 := zgD e5
            clear hX hF
            go_simp
            exact hK
           | 2, _, hdy => exact znF hdy
           | 3, _, _ =>
            refine ⟨_, rfl, fun L rho w h => h.pass (by decide) (by decide) (by decide) (by decide), ?_⟩
            intro o ho ac w' hR hF hX
            simp only [zqA, zqZ, zqS, zqI] at ho
            subst ho
            refine ⟨fun h => (by cases h), fun K hK => ?_⟩
            have e9 : ac.tmps.getD 9 undef = .pointer (some ⟨gt, 0, none⟩) := hF 9 (znd (by kernel_rfl))
            have d9 := zgD e9
            have q0 : w'.cell? ⟨gt, 0, none⟩ = some (.int .i64 y.node) := (imd.out.rt.below hR).cell 0
            have q1 : w'.cell? ⟨gt, 1, none⟩ = some (.int .i64 y.state) := (imd.out.rt.below hR).cell 1
            have q2 : w'.cell? ⟨gt, 2, none⟩ = some (.int .i64 y.turn) := (imd.out.rt.below hR).cell 2
            clear hX hF
            go_simp
            exact hK
           | 4, _, hdy => exact znF hdy
           | 5, _, hdy => exact znF hdy
           | k + 6, hk, _ => omega
          ·intro i hi hdy
           match i, hi, hdy with
           | 0, _, _ =>
            intro o ho ac w' L rho hR hD hl hc hdep hX hF K hK
            simp only [zqA, zqZ, zqI] at ho
            subst ho
            go_simp
            refine hK _ _ (balloc hR _) (fun h => by cases h) (fun u h => by cases h) ?_
            exact hD.zero hR.size (by decide) (by decide) (by decide) (fun h => hc 2 h 0 (zdp (by kernel_rfl))) (fun h => hc 5 h 2 (zdp (by kernel_rfl))) hl
           | 1, _, hdy => exact znT hdy
           | 2, _, _ =>
            intro o ho ac w' L rho hR hD hl hc hdep hX hF K hK
            simp only [zqA, zqZ, zqS, zqI] at ho
            subst ho
            have r124 : ac.tmps.getD 124 undef = rho 0 := (hdep 0 (zdp (by kernel_rfl))).2
            have e125 : ac.tmps.getD 125 undef = .slice (some ⟨wb, wo, none⟩) (r.length + 1) wc := hX 1 (zdp (by kernel_rfl)) _ rfl
            have d125 := zgD e125
            have hl0 := (hdep 0 (zdp (by kernel_rfl))).1
            obtain ⟨a0, c0, e1, e2, _⟩ := hD.z hl0 hl
            rw [e1] at r124
            refine step_appG rfl _ _ 52 TRq (.agg #[.int .i64 0, .int .i64 0, .int .i64 0]) 3 24 rfl Try.underlying52 infoRq rfl (by decide) wd.heap.size a0 0 c0 [] r124 e2 (some ⟨wb, wo, none⟩) (r.length + 1) wc (qcells (way ((x, k) :: r))) e125 (by rw [qcells_len, way_len]; rfl) (SrcAt.pps (PWd.out.below hR)) (qcells_one _) (by have := hrl.out; unfold maxLen; omega) (by have := hrl.out; omega) hR.size ?_
            intro a' c' w2' ho hg hat
            simp only [Nat.zero_add, List.nil_append] at ho hg hat ⊢
            refine hK _ _ (bgrown hR hg (fun j hj => (OwnR.lt e2 hj).1)) (fun h => by cases h) (fun u h => by cases h) ?_
            exact hD.src1 (by decide) (by decide) (by decide) e1 hl0 hl (fun h => hc 5 h 2 (zdp (by kernel_rfl))) ho hg hat
           | 3, _, hdy => exact znT hdy
           | 4, _, _ =>
            intro o ho ac w' L rho hR hD hl hc hdep hX hF K hK
            simp only [zqA, zqZ, zqS, zqI] at ho
            subst ho
            have e127 : ac.tmps.getD 127 undef = .agg #[.int .i64 y.node, .int .i64 y.state, .int .i64 y.turn] := hX 3 (zdp (by kernel_rfl)) _ rfl
            have d127 := zgD e127
            go_simp
            refine hK _ _ (balloc hR _) (fun h => by cases h) (fun u h => by cases h) ?_
            exact hD.elem hR.size (by decide) (by decide) (by decide) #[.int .i64 y.node, .int .i64 y.state, .int .i64 y.turn] rfl
           | 5, _, _ =>
            intro o ho ac w' L rho hR hD hl hc hdep hX hF K hK
            simp only [zqA, zqZ, zqS, zqI] at ho
            subst ho
            have r126 : ac.tmps.getD 126 undef = rho 2 := (hdep 2 (zdp (by kernel_rfl))).2
            have r128 : ac.tmps.getD 128 undef = rho 4 := (hdep 4 (zdp (by kernel_rfl))).2
            have hl1 := (hdep 2 (zdp (by kernel_rfl))).1
            have hl5 := (hdep 4 (zdp (by kernel_rfl))).1
            obtain ⟨a0, c0, e1, e2, _⟩ := hD.y hl1 hl
            obtain ⟨g5, e5, _, rg5⟩ := hD.x hl5
            rw [e1] at r126
            rw [e5] at r128
            refine step_appG rfl _ _ 52 TRq (.agg #[.int .i64 0, .int .i64 0, .int .i64 0]) 3 24 rfl Try.underlying52 infoRq rfl (by decide) wd.heap.size a0 (r.length + 1) c0 (qcells (way ((x, k) :: r))) r126 e2 (some ⟨g5, 0, none⟩) 1 1 [.int .i64 y.node, .int .i64 y.state, .int .i64 y.turn] r128 rfl (SrcAt.row rg5) (by intro u hu; simp at hu; rcases hu with rfl | rfl | rfl <;> rfl) (by have := hrl.out; unfold maxLen; omega) (by have := hrl.out; omega) hR.size ?_
            intro a' c' w2' ho hg hat
            refine hK _ _ (bgrown hR hg (fun j hj => (OwnR.lt e2 hj).1)) (fun h => by cases h) (fun u h => by cases h) ?_
            exact hD.src2 (by decide) (by decide) (by decide) e1 hl1 hl ho hg hat
           | k + 6, hk, _ => omega
          ·rintro ⟨tm, df⟩ we rho hdf hsz hF hR9 hX hV hD
           obtain rfl : df = [] := hdf
           obtain ⟨q, rfl⟩ := frame150 tm hsz
           have hD' := hD (fun i => decide (i < 6)) (fun i hi => decide_eq_true hi) (fun i hi => decide_eq_false (by omega))
           obtain ⟨aw, cw, e6', oe, _⟩ := hD'.u rfl
           have kk1 : q 129 = _ := (hV 5 (by decide)).trans e6'
           rw [kk1]
           clear kk1
           have kk := zbk hF [0, 1, 2, 3, 4, 5, 6, 7, 8, 9, 10, 11, 12, 13, 14, 15, 16, 17, 18, 19, 20, 21, 148, 149] (by kernel_rfl)
           simp only [Bk, Array.getD_eq_getD_getElem?, zqA, zqS, zqZ, Option.getD_some] at kk
           simp only [kk]
           clear kk
           clear hF hX hV hD hsz hD' e6'
           replace oe := Lib.hid oe
           have hRwe := Lib.hid hR9
           clear hR9
           change wpAny _ _ _ _ 1 _ _ _
           refine wpAny_ready (rs := [6]) (by kernel_rfl) (by simp) ?_
           refine AllReady.cons (i := 6) rfl (fun K hK => ?_) AllReady.nil
           go_simp
           refine hK _ _ ?_
           clear hK K
           refine ⟨by kernel_rfl, ?_⟩
           have ime := Lib.hid (imd.out.below hRwe.out)
           have HWe : Hid (Hd (NB3 N b1 b2 b3) we (fun w => PpsAt w aw (way ((x, k) :: r) ++ [y]))) := by
            have o1 : OwnR we wd.heap.size TRq 3 aw (r.length + 1 + 1) cw (qcells (way ((x, k) :: r) ++ [y])) := by
             have := oe.out
             rw [show qcells (way ((x, k) :: r) ++ [y]) = qcells (way ((x, k) :: r)) ++ [.int .i64 y.node, .int .i64 y.state, .int .i64 y.turn] by simp [qcells]]
             exact this
            exact Hd.row o1 (by rw [List.length_append, way_len]; rfl) (CI.lt imd.out.cb HN.out)
           have hwcc : Hid (r.length + 1 + 1 ≤ cw) := (OwnR.caps oe.out).1
           have NI7 := Lib.hid (ime.out.hi.now)
           clear oe PWd
           go_upto_region 20 with (fail)
           refine wp_region_list ?_
           refine wpList_plain rfl (fun K hK => ?_)
           go_simp
           refine hK _ _ ?_
           clear hK K
           have hz := own_zero we 3 3 1 we.heap.size rfl (Nat.le_refl _)
           have hb5 : Below we.heap.size we (we.alloc (.cells #[] 3)) := balloc (Below.refl _ _) _
           generalize we.alloc (.cells #[] 3) = wf at hz hb5 ⊢
           replace hz := Lib.hid hz
           replace hb5 := Lib.hid hb5
           refine wpList_plain rfl (fun K hK => ?_)
           go_simp
           refine hK _ _ ?_
           clear hK K
           refine wp_appG rfl _ _ 22 3 (.int .i64 0) 1 8 rfl Try.underlying22 (by kernel_rfl) rfl (by decide) we.heap.size (some ⟨we.heap.size, 0, none⟩) 0 0 [] rfl hz.out ia7 (r.length + 1) ic7 ((ats ((x, k + 1) :: r)).map (Value.int .i64)) rfl (by rw [List.length_map, ats_len]; simp) (SrcAt.nums (NI7.out.below hb5.out)) (ints_one _ _) (by have := hrl.out; unfold maxLen; omega) (by have := hrl.out; omega) hb5.out.size ?_
           intro a6 c6 wg ho6 hg6
           simp only [Nat.zero_add, List.nil_append] at ho6 hg6 ⊢
           have hb6 := Lib.hid (bgrown hb5.out hg6 (fun j hj => (OwnR.lt hz.out hj).1))
           replace ho6 := Lib.hid ho6
           clear hg6
           refine wpList_plain rfl (fun K hK => ?_)
           go_simp
           refine hK _ _ ?_
           clear hK K
           have rx : RowAt (wg.alloc (.cells #[.int .i64 0] 3)) wg.heap.size 3 [.int .i64 0] := RowAt.new #[.int .i64 0] rfl
           have ho7 := OwnR.alloc ho6.out (.cells #[.int .i64 0] 3)
           have hb7 : Below we.heap.size we (wg.alloc (.cells #[.int .i64 0] 3)) := balloc hb6.out _
           generalize wg.alloc (.cells #[.int .i64 0] 3) = wh at rx ho7 hb7 ⊢
           generalize wg.heap.size = b7 at rx ⊢
           replace rx := Lib.hid rx
           replace ho7 := Lib.hid ho7
           replace hb7 := Lib.hid hb7
           refine wp_appG rfl _ _ 22 3 (.int .i64 0) 1 8 rfl Try.underlying22 (by kernel_rfl) rfl (by decide) we.heap.size a6 (r.length + 1) c6 ((ats ((x, k + 1) :: r)).map (Value.int .i64)) rfl ho7.out (some ⟨b7, 0, none⟩) 1 1 [.int .i64 0] rfl rfl (SrcAt.row rx.out) (by intro u hu; simp at hu; rcases hu with rfl; rfl) (by have := hrl.out; unfold maxLen; omega) (by have := hrl.out; omega) hb7.out.size ?_
           intro a8 c8 wi ho8 hg8
           have hb8 := Lib.hid (bgrown hb7.out hg8 (fun j hj => (OwnR.lt ho7.out hj).1))
           replace ho8 := Lib.hid ho8
           clear hg8 rx ho6 ho7 hz
           refine wpList_plain rfl (fun K hK => ?_)
           go_simp
           refine hK _ _ ?_
           clear hK K
           refine wpList_nil ?_
           have imi := Lib.hid (ime.out.below hb8.out)
           have HWi := Lib.hid (HWe.out.below hb8.out)
           have HTi : Hid (Hd (NB3 N b1 b2 b3) wi (fun w => NumsAt .i64 w a8 (ats ((x, k + 1) :: r) ++ [0]))) := by
            have o1 : OwnR wi we.heap.size 3 1 a8 (r.length + 1 + 1) c8 ((ats ((x, k + 1) :: r) ++ [0]).map (Value.int .i64)) := by
             rw [List.map_append]
             exact ho8.out
            exact Hd.ints o1 (CI.lt ime.out.cb HN.out)
           have hicc9 : Hid (r.length + 1 + 1 ≤ c8) := (OwnR.caps ho8.out).1
           obtain ⟨tt, htt⟩ : ∃ tt, tt = s.ot.length + (r.length + 1) := ⟨_, rfl⟩
           have hwA : IntKind.i64.wrap ((s.ot.length : Int) + ((r.length : Int) + 1 + 1)) = (tt : Int) + 1 := by rw [IntWalk.i64_in _ (by have := hol.out; have := hrl.out; omega)]; omega
           have hwB : IntKind.i64.wrap ((tt : Int) + 1 - 1) = (tt : Int) := by rw [IntWalk.i64_in _ (by have := hol.out; have := hrl.out; omega)]; omega
           have hwC : IntKind.i64.wrap (tt : Int) = (tt : Int) := IntWalk.i64_in _ (by have := hol.out; have := hrl.out; omega)
           have c11 : wi.cell? ⟨b1, 11, none⟩ = some (.int .i64 (s.depth : Int)) := imi.out.cb.r1.cell 11
           have f11 := imi.out.cb.r1.free 11
           have c14 : wi.cell? ⟨b1, 14, none⟩ = some (.slice V.oa s.ot.length V.oc) := by rw [imi.out.cb.r1.cell 14, hV2.out]; rfl
           replace htt := Lib.hid htt
           clear ime HWe ho8 hb5 hb6 hb7 hb8
           go_upto_region 21 with (fail)
           refine wp_region_list ?_
           refine wpList_plain rfl (fun K hK => ?_)
           go_simp
           refine hK _ _ ?_
           clear hK K
           refine wpList_plain rfl (fun K hK => ?_)
           go_simp
           refine hK _ _ ?_
           clear hK K
           refine wpList_plain rfl (fun K hK => ?_)
           go_simp
           refine hK _ _ ?_
           clear hK K
           refine wpList_plain rfl (fun K hK => ?_)
           go_simp
           refine hK _ _ ?_
           clear hK K
           refine wpList_plain rfl (fun K hK => ?_)
           go_simp
           refine hK _ _ ?_
           clear hK K
           refine wpList_plain rfl (fun K hK => ?_)
           go_simp
           refine hK _ _ ?_
           clear hK K
           refine wpList_plain rfl (fun K hK => ?_)
           go_simp
           refine hK _ _ ?_
           clear hK K
           refine wpList_plain rfl (fun K hK => ?_)
           go_simp
           refine hK _ _ ?_
           clear hK K
           refine wpList_plain rfl (fun K hK => ?_)
           go_simp
           refine hK _ _ ?_
           clear hK K
           refine wpList_plain rfl (fun K hK => ?_)
           go_simp
           refine hK _ _ ?_
           clear hK K
           refine list_max rfl 137 144 rfl rfl rfl (show ((max s.depth tt : Nat) : Int) = max (s.depth : Int) (tt : Int) by omega) ?_
           refine wpList_plain rfl (fun K hK => ?_)
           go_simp
           refine hK _ _ ?_
           clear hK K
           refine wpList_plain rfl (fun K hK => ?_)
           go_simp
           refine hK _ _ ?_
           clear hK K
           refine wpList_plain rfl (fun K hK => ?_)
           go_simp
           refine hK _ _ ?_
           clear hK K
           refine wpList_nil ?_
           clear hwA hwB hwC c11 c14 f11
           go_wp2
           go_roundg m
           case rel =>
            refine ⟨rfl, V2, deepS (markS (edgeS s) y) (s.ot.length + (r.length + 1)), (y, 0) :: (x, k + 1) :: r, aw, a8, cw, c8, rfl, rfl, ?_⟩
            have kk := keeps_b1 (N := N) (b1 := b1) (b2 := b2) (b3 := b3) wi 11 (.int .i64 ((max s.depth tt : Nat) : Int))
            have cbz := imi.out.cb.set 11 (.int .i64 ((max s.depth tt : Nat) : Int))
            have e9 : (scl Z V2 (markS (edgeS s) y)).set 11 (.int .i64 ((max s.depth tt : Nat) : Int)) = scl Z V2 (deepS (markS (edgeS s) y) (s.ot.length + (r.length + 1))) := by rw [htt.out]; rfl
            rw [e9] at cbz
            exact st1.out.push NI.out hnkH.out hm.out hm2.out (NI.out.val x y (List.mem_of_getElem? hnkH.out)) h3.out cbz (imi.out.hv.keeps kk) imi.out.hc (HWi.out.keeps kk) (HTi.out.keeps kk) hwcc.out hicc9.out
           case measure => omega
end Go.Proofs.Ytfcpfcgcfaacnaa
namespace Go.Proofs.Ytfcpfcgcfaacnaa
open Go.RowKit
set_option linter.unusedVariables false
set_option linter.unusedSimpArgs false
theorem innerF_ot {b : NB} {nx : PP → List PP} : ∀ (f : Nat) (s : NS) (st : List (PP × Nat)), (innerF b nx f s st).1.ot = s.ot
 | 0, s, st => rfl
 | f + 1, s, [] => rfl
 | f + 1, s, (x, k) :: r => by
  rw [innerF]
  cases h : (nx x)[k]? with
  | none => exact innerF_ot f s r
  | some y =>
   simp only
   split
   ·rfl
   ·split
    ·exact innerF_ot f (edgeS s) _
    ·split
     ·rfl
     ·exact innerF_ot f _ _
def NB4 (N : Nat → Prop) (b1 b2 b3 b6 j : Nat) : Prop := NB3 N b1 b2 b3 j ∨ j = b6
structure CO (W : World) (l f6 : List Value) (b1 b2 b3 b6 : Nat) (w : World) : Prop where
 cb : CI W l b1 b2 b3 w
 r6 : RowAt w b6 TRF f6
 e6 : b6 = W.heap.size + 1 + 1 + 1
 l1 : l.length = 16
 o1 : ∀ v ∈ l, v.oneCell' = true
 l6 : f6.length = 7
 o6 : ∀ v ∈ f6, v.oneCell' = true
section
variable {W w w' : World} {l f6 : List Value} {b1 b2 b3 b6 : Nat} {N : Nat → Prop}
theorem CO.below (h : CO W l f6 b1 b2 b3 b6 w) (hb : Below w.heap.size w w') : CO W l f6 b1 b2 b3 b6 w' := ⟨h.cb.below hb, h.r6.below hb, h.e6, h.l1, h.o1, h.l6, h.o6⟩
theorem CO.set (h : CO W l f6 b1 b2 b3 b6 w) (j : Nat) (v : Value) (hv : v.oneCell' = true) : CO W (l.set j v) f6 b1 b2 b3 b6 (w.setCell ⟨b1, j, none⟩ v) := by
 refine ⟨h.cb.set j v, h.r6.other (by have := h.cb.e1; have := h.e6; omega) j v, h.e6, by rw [List.length_set]; exact h.l1, fun u hu => ?_, h.l6, h.o6⟩
 rcases List.mem_or_eq_of_mem_set hu with hu | rfl
 ·exact h.o1 u hu
 ·exact hv
theorem CO.store1 (h : CO W l f6 b1 b2 b3 b6 w) {l' : List Value} (hl : l'.length = 16) (ho : ∀ v ∈ l', v.oneCell' = true) (q : RowAt w' b1 TRS l') (k : Keeps w w' (fun j => j = b1)) : CO W l' f6 b1 b2 b3 b6 w' := by
 have e1 := h.cb.e1; have e2 := h.cb.e2; have e3 := h.cb.e3; have e6 := h.e6
 exact ⟨⟨q, h.cb.r2.keeps k (by omega), h.cb.r3.keeps k (by omega), k.below h.cb.bw (fun j hj => by omega), e1, e2, e3⟩, h.r6.keeps k (by omega), e6, hl, ho, h.l6, h.o6⟩
theorem CO.store6 (h : CO W l f6 b1 b2 b3 b6 w) {f' : List Value} (hl : f'.length = 7) (ho : ∀ v ∈ f', v.oneCell' = true) (q : RowAt w' b6 TRF f') (k : Keeps w w' (fun j => j = b6)) : CO W l f' b1 b2 b3 b6 w' := by
 have e1 := h.cb.e1; have e2 := h.cb.e2; have e3 := h.cb.e3; have e6 := h.e6
 exact ⟨⟨h.cb.r1.keeps k (by omega), h.cb.r2.keeps k (by omega), h.cb.r3.keeps k (by omega), k.below h.cb.bw (fun j hj => by omega), e1, e2, e3⟩, q, e6, h.l1, h.o1, hl, ho⟩
theorem CO.low (h : CO W l f6 b1 b2 b3 b6 w) : ∀ j, j < W.heap.size → NB4 N b1 b2 b3 b6 j → N j := by
 intro j hj hn
 rcases hn with hn | hn
 ·exact h.cb.low j hj hn
 ·have := h.e6; omega
theorem CO.lt (h : CO W l f6 b1 b2 b3 b6 w) (hN : ∀ j, N j → j < W.heap.size) : ∀ j, NB4 N b1 b2 b3 b6 j → j < w.heap.size := by
 intro j hn
 rcases hn with hn | hn
 ·exact CI.lt h.cb hN j hn
 ·have := h.r6.lt; omega
theorem CO.done {R : World → Prop} (h : Hd (NB4 N b1 b2 b3 b6) w R) {w4 : World} (k : Keeps w w4 (fun j => j = b2 ∨ j = b3)) : Hd N w4 R := by
 have h1 : Hd (NB4 N b1 b2 b3 b6) w4 R := h.keeps ⟨k.os, k.tape, k.output, k.size, fun j hj hn => k.block j hj (fun e => hn (.inl (.inr (.inr e))))⟩
 exact fun w5 k5 => h1 w5 ⟨k5.os, k5.tape, k5.output, k5.size, fun j hj hn => k5.block j hj (fun e => hn (.inl (.inl e)))⟩
theorem keeps4_1 (k : Keeps w w' (fun j => j = b1)) : Keeps w w' (NB4 N b1 b2 b3 b6) := ⟨k.os, k.tape, k.output, k.size, fun j hj hn => k.block j hj (fun e => hn (.inl (.inr (.inl e))))⟩
theorem keeps4_6 (k : Keeps w w' (fun j => j = b6)) : Keeps w w' (NB4 N b1 b2 b3 b6) := ⟨k.os, k.tape, k.output, k.size, fun j hj hn => k.block j hj (fun e => hn (.inr e))⟩
theorem keeps4_set (w : World) (j : Nat) (v : Value) : Keeps w (w.setCell ⟨b1, j, none⟩ v) (NB4 N b1 b2 b3 b6) := Keeps.set _ _ _ _ (.inl (.inr (.inl rfl)))
end
theorem RSm.pop {V : RV} {s : NS} {w : World} {x : PP} {k : Nat} {r : List (PP × Nat)} (h : RSm V s w) (ho : s.ot = (x, k) :: r) : RSm V (atS s r) w := by
 refine ⟨h.r, h.m, ?_, ?_⟩
 ·have := (h.o).upto3 r.length
  rw [ho, way_take] at this
  exact this
 ·have := (h.t).upto r.length
  rw [ho, ats_take] at this
  exact this
theorem RSc.pop {V : RV} {s : NS} {x : PP} {k : Nat} {r : List (PP × Nat)} (h : RSc V s) (ho : s.ot = (x, k) :: r) : RSc V (atS s r) := by
 have h1 := h.o
 have h2 := h.t
 rw [ho, List.length_cons] at h1 h2
 exact ⟨by show r.length ≤ _; omega, by show r.length ≤ _; omega⟩
theorem zfc_one : ∀ v ∈ zfc, v.oneCell' = true := by intro v hv; simp [zfc] at hv; rcases hv with rfl | rfl <;> rfl
def ROut (N : Nat → Prop) (W : World) (Z : RZ) (res : NS × Option NF) (e : Ending) (w' : World) : Prop :=
 ∃ sc fc, e = .returned (.tuple #[.agg (List.toArray sc), .agg (List.toArray fc), .bool res.2.isSome]) ∧ sc.length = 16 ∧ (∀ v ∈ sc, v.oneCell' = true) ∧ fc.length = 7 ∧ (∀ v ∈ fc, v.oneCell' = true) ∧ Below W.heap.size W w' ∧ (res.2 = none → ∃ V, sc = scl Z V res.1 ∧ Hd N w' (RSm V res.1) ∧ RSc V res.1) ∧ ∀ f, res.2 = some f → RFd N w' fc f
structure OS (N : Nat → Prop) (W : World) (Z : RZ) (C E : Nat) (res : NS × Option NF) (b1 b2 b3 b6 q : Nat) (V : RV) (s : NS) (w : World) : Prop where
 hv : Hd (NB4 N b1 b2 b3 b6) w (RSm V s)
 hc : RSc V s
 hr : outerF Z.b (nextP Z.G Z.sets Z.A) (inP Z.G Z.sets Z.A) q s = res
 hm : muO C s < q
 inv : NInv Z.b (nextP Z.G Z.sets Z.A) (vPP Z.G Z.sets Z.A) s
 he : s.edges + q * (FI + 1) ≤ E
def OH (N : Nat → Prop) (W : World) (Z : RZ) (C E : Nat) (res : NS × Option NF) (b1 b2 b3 b6 q : Nat) (V : RV) (s : NS) (f6 : List Value) (e : Bool) (w : World) : Prop :=
 (e = false ∧ OS N W Z C E res b1 b2 b3 b6 q V s w) ∨ (e = true ∧ ∃ f, res.2 = some f ∧ RFd (NB4 N b1 b2 b3 b6) w f6 f)
end Go.Proofs.Ytfcpfcgcfaacnaa
