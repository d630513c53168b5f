/- The inner search. Conditions: a search in memory, the bounds. -/
import Derived.Test.YtfcpfcgcfaacnaaSNdScope
import Derived.Test.YtfcpfcgcfaacnaaSCut
namespace Go.Proofs.Ytfcpfcgcfaacnaa
open Go.RowKit
theorem list_get {l : List Value} {n : Nat} (h : l.length = n) : l = (List.range n).map fun i => l.getD i undef := by
 refine List.ext_getElem (by simp [h]) fun i h1 h2 => ?_
 simp [List.getD, List.getElem?_eq_getElem h1]
theorem frame88 (arr : Array Value) (h : arr.size = 88) : ∃ q : Nat → Value, arr = #[q 0, q 1, q 2, q 3, q 4, q 5, q 6, q 7, q 8, q 9, q 10, q 11, q 12, q 13, q 14, q 15, q 16, q 17, q 18, q 19, q 20, q 21, q 22, q 23, q 24, q 25, q 26, q 27, q 28, q 29, q 30, q 31, q 32, q 33, q 34, q 35, q 36, q 37, q 38, q 39, q 40, q 41, q 42, q 43, q 44, q 45, q 46, q 47, q 48, q 49, q 50, q 51, q 52, q 53, q 54, q 55, q 56, q 57, q 58, q 59, q 60, q 61, q 62, q 63, q 64, q 65, q 66, q 67, q 68, q 69, q 70, q 71, q 72, q 73, q 74, q 75, q 76, q 77, q 78, q 79, q 80, q 81, q 82, q 83, q 84, q 85, q 86, q 87] := by
 refine ⟨fun i => arr.toList.getD i undef, ?_⟩
 have h1 := list_get (l := arr.toList) (n := 88) (by simpa using h)
 apply Array.ext'
 exact h1
structure FirstAt (Z : Zn) (fB : Nat) (fa : Option Addr) (fc : Nat) (nx : PP → List PP) (x : PP) (k : Nat) : Prop where
 row : RowAt Z.wz fB TSp [.int .i64 x.node, .int .i64 x.state, .int .i64 x.turn, .slice fa (nx x).length fc, .int .i64 (k : Int)]
 nxt : PpsAt Z.wz fa (nx x)
 inR : Z.lo ≤ fB ∧ fB < Z.hi
 nb : ∀ ad, fa = some ad → (Z.lo ≤ ad.block ∧ ad.block < Z.hi) ∧ ad.block ≠ fB
theorem PpsAt.keepB {w w' : World} {a : Option Addr} {l : List PP} (h : PpsAt w a l) (hb : ∀ ad, a = some ad → w'.heap[ad.block]? = w.heap[ad.block]?) : PpsAt w' a l := fun h0 => by
 obtain ⟨b, off, ha, hc⟩ := h h0
 have hh := hb _ ha
 refine ⟨b, off, ha, fun i hi => ?_⟩
 obtain ⟨c0, c1, c2⟩ := hc i hi
 rw [World.cell?_of_block (a := ⟨b, off + i * 3, none⟩) hh, World.cell?_of_block (a := ⟨b, off + i * 3 + 1, none⟩) hh, World.cell?_of_block (a := ⟨b, off + i * 3 + 2, none⟩) hh]
 exact ⟨c0, c1, c2⟩
section
variable {W w : World} {sB fB : Nat} {Z : Zn} {nx : PP → List PP} {X : SX} {S0 S1 : List SpR} {pl re ma : List PP} {rv : List Value} {fa : Option Addr} {fc k : Nat} {x : PP}
theorem FirstAt.at (f : FirstAt Z fB fa fc nx x k) (h : SrAt W sB Z nx X S0 S1 pl re ma rv w) : RowAt w fB TSp [.int .i64 x.node, .int .i64 x.state, .int .i64 x.turn, .slice fa (nx x).length fc, .int .i64 (k : Int)] ∧ PpsAt w fa (nx x) ∧ fB ≠ sB ∧ ∀ ad, fa = some ad → ad.block ≠ fB ∧ ad.block ≠ sB := by
 obtain ⟨h1, h2, h3⟩ := h.aside f.inR.1 f.inR.2
 refine ⟨f.row.keep h1, f.nxt.keepB (fun ad had => (h.aside (f.nb ad had).1.1 (f.nb ad had).1.2).1), h3, fun ad had => ⟨(f.nb ad had).2, (h.aside (f.nb ad had).1.1 (f.nb ad had).1.2).2.2⟩⟩
theorem FirstAt.bump (f : FirstAt Z fB fa fc nx x k) (h : SrAt W sB Z nx X S0 S1 pl re ma rv w) : FirstAt ⟨Z.lo, Z.hi, w.setCell ⟨fB, 4, none⟩ (.int .i64 ((k + 1 : Nat) : Int)), Z.kp⟩ fB fa fc nx x (k + 1) := by
 obtain ⟨h1, h2, _, h4⟩ := f.at h
 refine ⟨h1.set 4 _, h2.keepB (fun ad had => Below.heap_setCell _ _ _ _ (fun e => (h4 ad had).1 e)), f.inR, f.nb⟩
end
theorem SrAt.nb1 {W w : World} {sB : Nat} {Z : Zn} {nx : PP → List PP} {X : SX} {S0 S1 : List SpR} {pl re ma : List PP} {rv : List Value} (h : SrAt W sB Z nx X S0 S1 pl re ma rv w) {g : Nat} (hg : X.a1 = some ⟨g, 0, none⟩) : ∀ e ∈ S1, ∀ ad, e.2.1 = some ad → ad.block ≠ g ∧ ad.block ≠ sB := by
 obtain ⟨T, h⟩ := h
 intro e he ad had
 have h1 := (((h.w1 (by decide)).nexts e he).2 ad had).1
 have h2 := (h.w1 (by decide)).tag g (by rw [hg]; rfl)
 refine ⟨fun e => ?_, fun e => ?_⟩
 ·rw [e, h2] at h1; cases h1
 ·rw [e, h.hs.1] at h1; cases h1
theorem SrAt.nb0 {W w : World} {sB : Nat} {Z : Zn} {nx : PP → List PP} {X : SX} {S0 S1 : List SpR} {pl re ma : List PP} {rv : List Value} (h : SrAt W sB Z nx X S0 S1 pl re ma rv w) {g : Nat} (hg : X.a0 = some ⟨g, 0, none⟩) : ∀ e ∈ S0, ∀ ad, e.2.1 = some ad → ad.block ≠ g ∧ ad.block ≠ sB := by
 obtain ⟨T, h⟩ := h
 intro e he ad had
 have h1 := (((h.w0 (by decide)).nexts e he).2 ad had).1
 have h2 := (h.w0 (by decide)).tag g (by rw [hg]; rfl)
 refine ⟨fun e => ?_, fun e => ?_⟩
 ·rw [e, h2] at h1; cases h1
 ·rw [e, h.hs.1] at h1; cases h1
theorem last_cells {w : World} {B g c : Nat} {nx : PP → List PP} {S : List SpR} {u : PP} {ku : Nat} {an : Option Addr} {cn : Nat} (h : OwnR w B TSp 5 (some ⟨g, 0, none⟩) (S ++ [((u, ku), an, cn)]).length c (spcells nx (S ++ [((u, ku), an, cn)]))) :
  w.cell? ⟨g, S.length * 5, none⟩ = some (.int .i64 u.node) ∧ w.cell? ⟨g, S.length * 5 + 1, none⟩ = some (.int .i64 u.state) ∧ w.cell? ⟨g, S.length * 5 + 2, none⟩ = some (.int .i64 u.turn) ∧ w.cell? ⟨g, S.length * 5 + 3, none⟩ = some (.slice an (nx u).length cn) ∧ w.cell? ⟨g, S.length * 5 + 4, none⟩ = some (.int .i64 (ku : Int)) ∧ w.frozen? ⟨g, S.length * 5 + 4, none⟩ = false := by
 have hl : (S ++ [((u, ku), an, cn)]).length = S.length + 1 := by simp
 have hk : S.length < (S ++ [((u, ku), an, cn)]).length := by omega
 obtain ⟨q0, q1, q2, q3, q4⟩ := spcells_at nx (S ++ [((u, ku), an, cn)]) S.length hk
 have e : (S ++ [((u, ku), an, cn)])[S.length] = ((u, ku), an, cn) := by simp
 rw [e] at q0 q1 q2 q3 q4
 exact ⟨(OwnR.cell h _ (by omega)).trans q0, (OwnR.cell h _ (by omega)).trans q1, (OwnR.cell h _ (by omega)).trans q2, (OwnR.cell h _ (by omega)).trans q3, (OwnR.cell h _ (by omega)).trans q4, OwnR.free h _⟩
theorem Try.sizeSp (w : World) : (sizeOf 143).run Try.prog w = .ok 5 w := by kernel_rfl
theorem adv_first {W w : World} {p sB fB : Nat} {Z : Zn} {b : NB} {nx : PP → List PP} {s : NS} {kk : Nat} {fa : Option Addr} {fc k : Nat} {x : PP} (h : SrOk W p sB Z b nx s [] kk w) (f : FirstAt Z fB fa fc nx x k) {w' : World} (hb : Below w.heap.size ((w.setCell ⟨sB, 6, none⟩ (.int .i64 ((s.edges + 1 : Nat) : Int))).setCell ⟨fB, 0 + 4, none⟩ (.int .i64 ((k + 1 : Nat) : Int))) w') :
  ∃ Z2, Z2.kp = Z.kp ∧ SrOk W p sB Z2 b nx (edgeS s) [] kk w' ∧ FirstAt Z2 fB fa fc nx x (k + 1) := by
 obtain ⟨X, S0, S1, h1, h2, h3, h4⟩ := h
 have h5 := h4.set 6 (.int .i64 ((s.edges + 1 : Nat) : Int))
 have f5 := f.bump h5
 have h6 := h5.bump f.inR.1 f.inR.2 4 (.int .i64 ((k + 1 : Nat) : Int))
 have hb2 : Below ((w.setCell ⟨sB, 6, none⟩ (.int .i64 ((s.edges + 1 : Nat) : Int))).setCell ⟨fB, 4, none⟩ (.int .i64 ((k + 1 : Nat) : Int))).heap.size ((w.setCell ⟨sB, 6, none⟩ (.int .i64 ((s.edges + 1 : Nat) : Int))).setCell ⟨fB, 4, none⟩ (.int .i64 ((k + 1 : Nat) : Int))) w' := by
  have e : ((w.setCell ⟨sB, 6, none⟩ (.int .i64 ((s.edges + 1 : Nat) : Int))).setCell ⟨fB, 4, none⟩ (.int .i64 ((k + 1 : Nat) : Int))).heap.size = w.heap.size := by simp
  rw [e]
  simpa using hb
 exact ⟨⟨Z.lo, Z.hi, (w.setCell ⟨sB, 6, none⟩ (.int .i64 ((s.edges + 1 : Nat) : Int))).setCell ⟨fB, 4, none⟩ (.int .i64 ((k + 1 : Nat) : Int)), Z.kp⟩, rfl, ⟨X, S0, S1, h1, h2, h3, h6.below hb2⟩, f5⟩
theorem snoc_split {S : List SpR} {l : List (PP × Nat)} {e : PP × Nat} (h : S.map (·.1) = (e :: l).reverse) : ∃ S' a c, S = S' ++ [(e, a, c)] ∧ S'.map (·.1) = l.reverse := by
 rw [List.reverse_cons] at h
 obtain ⟨A, B, rfl, h1, h2⟩ := List.map_eq_append_iff.1 h
 match B, h2 with
 | [⟨e2, a, c⟩], h2 =>
  simp at h2
  subst h2
  exact ⟨A, a, c, rfl, h1⟩
theorem adv_way {W w : World} {p sB g : Nat} {Z : Zn} {b : NB} {nx : PP → List PP} {s : NS} {r : List (PP × Nat)} {kk : Nat} {X : SX} {S0 S1 : List SpR} {an : Option Addr} {cn k : Nat} {u : PP} (h1 : S0.map (·.1) = s.ot.reverse) (h2 : S1.map (·.1) = r.reverse) (h3 : X.pn ≤ kk ∧ Z.kp.f X.a0 X.c0 S0)
  (h4 : SrAt W sB Z nx X S0 (S1 ++ [((u, k), an, cn)]) (way s.ot) s.reached s.marked (srun p b s X S0.length (S1 ++ [((u, k), an, cn)]).length) w) (hg : X.a1 = some ⟨g, 0, none⟩) {w' : World}
  (hb : Below w.heap.size ((w.setCell ⟨sB, 6, none⟩ (.int .i64 ((s.edges + 1 : Nat) : Int))).setCell ⟨g, S1.length * 5 + 4, none⟩ (.int .i64 ((k + 1 : Nat) : Int))) w') : SrOk W p sB Z b nx (edgeS s) ((u, k + 1) :: r) kk w' := by
 have h5 := (h4.set 6 (.int .i64 ((s.edges + 1 : Nat) : Int))).step1 hg
 refine ⟨X, S0, S1 ++ [((u, k + 1), an, cn)], h1, by rw [List.map_append, h2]; simp, h3, ?_⟩
 have e : ((w.setCell ⟨sB, 6, none⟩ (.int .i64 ((s.edges + 1 : Nat) : Int))).setCell ⟨g, S1.length * 5 + 4, none⟩ (.int .i64 ((k + 1 : Nat) : Int))).heap.size = w.heap.size := by simp
 have h6 := h5.below (by rw [e]; exact hb)
 have e2 : (srun p b s X S0.length (S1 ++ [((u, k), an, cn)]).length).set 6 (.int .i64 ((s.edges + 1 : Nat) : Int)) = srun p b (edgeS s) X S0.length (S1 ++ [((u, k + 1), an, cn)]).length := by
  simp only [List.length_append, List.length_cons, List.length_nil]
  rfl
 rw [e2] at h6
 exact h6
theorem SrOk.forget {W w : World} {p sB : Nat} {Z : Zn} {b : NB} {nx : PP → List PP} {s : NS} {st : List (PP × Nat)} {k : Nat} (h : SrOk W p sB Z b nx s st k w) : SrOk W p sB ⟨0, 0, W, Z.kp⟩ b nx s st k w := by
 obtain ⟨X, S0, S1, h1, h2, h3, h4⟩ := h
 exact ⟨X, S0, S1, h1, h2, h3, h4.forget W Z.kp.f⟩
theorem SrOk.forget' {W w : World} {p sB : Nat} {Z : Zn} {b : NB} {nx : PP → List PP} {s : NS} {st : List (PP × Nat)} {k : Nat} (h : SrOk W p sB Z b nx s st k w) {K : KP} (hk : Z.kp = K) : SrOk W p sB ⟨0, 0, W, K⟩ b nx s st k w := hk ▸ h.forget
theorem cut_way {W w : World} {p sB : Nat} {Z : Zn} {b : NB} {nx : PP → List PP} {s : NS} {r : List (PP × Nat)} {kk : Nat} {X : SX} {S0 S1 : List SpR} {an : Option Addr} {cn k : Nat} {u : PP} {n1 : Nat} (h1 : S0.map (·.1) = s.ot.reverse) (h2 : S1.map (·.1) = r.reverse) (h3 : X.pn ≤ kk ∧ Z.kp.f X.a0 X.c0 S0)
  (h4 : SrAt W sB Z nx X S0 (S1 ++ [((u, k), an, cn)]) (way s.ot) s.reached s.marked (srun p b s X S0.length (S1 ++ [((u, k), an, cn)]).length) w) (hn : n1 = S1.length) : SrOk W p sB Z b nx s r kk (w.setCell ⟨sB, 11, none⟩ (.slice X.a1 n1 X.c1)) := by
 refine ⟨X, S0, S1, h1, h2, h3, ?_⟩
 subst hn
 exact h4.cut1.set 11 (.slice X.a1 S1.length X.c1)
def WJ (K : KP) (W : World) (p sB : Nat) (b : NB) (nx : PP → List PP) (vp : PP → Prop) (C E : Nat) (x : PP) (res : NS × Option NF) (n : Nat) (a : Act) (w : World) : Prop :=
 ∃ (m : Nat) (Z : Zn) (s : NS) (st : List (PP × Nat)) (k fB : Nat) (fa : Option Addr) (fc xb : Nat), n = m + 1 ∧ Z.kp = K ∧ a.defers = [] ∧ a.tmps.size = 88 ∧ a.tmps.getD 0 undef = .pointer (some ⟨sB, 0, none⟩) ∧ a.tmps.getD 3 undef = .pointer (some ⟨xb, 0, none⟩) ∧ a.tmps.getD 4 undef = .bool false ∧ a.tmps.getD 5 undef = .pointer (some ⟨fB, 0, none⟩) ∧ FirstAt Z fB fa fc nx x k ∧ SrOk W p sB Z b nx s st s.nodes w ∧ innerF b nx n s (st ++ [(x, k)]) = res ∧ muI C s (st ++ [(x, k)]) < n ∧ IInv b nx vp s (st ++ [(x, k)]) ∧ s.edges + n ≤ E
theorem WJ.of {K : KP} {W : World} {p sB : Nat} {b : NB} {nx : PP → List PP} {vp : PP → Prop} {C E fB : Nat} {fa : Option Addr} {fc : Nat} {x : PP} {xb : Nat} {res : NS × Option NF} {n : Nat} {a : Act} {w : World} (Z : Zn) (s : NS) (st : List (PP × Nat)) (k : Nat) (h1 : a.defers = []) (h2 : a.tmps.size = 88) (h3 : a.tmps.getD 0 undef = .pointer (some ⟨sB, 0, none⟩)) (h4 : a.tmps.getD 3 undef = .pointer (some ⟨xb, 0, none⟩)) (h5 : a.tmps.getD 4 undef = .bool false) (h6 : a.tmps.getD 5 undef = .pointer (some ⟨fB, 0, none⟩)) (hF : FirstAt Z fB fa fc nx x k) (hO : SrOk W p sB Z b nx s st s.nodes w) (hr : innerF b nx n s (st ++ [(x, k)]) = res) (hm : muI C s (st ++ [(x, k)]) < n) (hI : IInv b nx vp s (st ++ [(x, k)])) (hE : s.edges + n ≤ E) (hK : Z.kp = K) : WJ K W p sB b nx vp C E x res n a w := by
 obtain ⟨m, rfl⟩ : ∃ m, n = m + 1 := ⟨n - 1, by omega⟩
 exact ⟨m, Z, s, st, k, fB, fa, fc, xb, rfl, hK, h1, h2, h3, h4, h5, h6, hF, hO, hr, hm, hI, hE⟩
theorem mm_type {w : World} {b : Nat} {l : List PP} {T : Nat} {r : List Value} (h : QMap w b l) (k : RowAt w b T r) : False := by
 obtain ⟨es, cl, hb, _⟩ := h.own
 unfold RowAt at k
 rw [hb] at k
 cases k
set_option maxRecDepth 10000 in
set_option maxHeartbeats 16000000 in
theorem within_any (W : World) (p sB : Nat) (b : NB) (G : GR) (sets : List (List Bool)) (A : AU) (hP : PrAt W p G sets A) (lt : Lt G sets A) (C E : Nat) (N : Nice (nextP G sets A) (vPP G sets A) C) (hC : C ≤ 3200) (hE : E ≤ 4000000000000000000) (hok : ∀ y, vPP G sets A y → okPP y) (hbb : b.n ≤ 65536 ∧ b.d ≤ 65536) (s0 : NS) (Z0 : Zn) (w : World) (x : PP) (k9 : Nat) (r9 : List (PP × Nat)) (h : SrOk W p sB Z0 b (nextP G sets A) s0 [] s0.nodes w) (hI0 : NInv b (nextP G sets A) (vPP G sets A) s0) (ho : s0.ot = (x, k9) :: r9) (he0 : s0.edges + FI ≤ E) :
  Calls Try.prog 71 #[.pointer (some ⟨sB, 0, none⟩), .agg #[.int .i64 x.node, .int .i64 x.state, .int .i64 x.turn]] w (Goes W p sB ⟨0, 0, W, Z0.kp⟩ b (nextP G sets A) [] (innerF b (nextP G sets A) FI s0 [(x, 0)])) := by
 obtain ⟨res, hres⟩ : ∃ res, res = innerF b (nextP G sets A) FI s0 [(x, 0)] := ⟨_, rfl⟩
 rw [← hres]
 have hnx1 : Hid (∀ x, (nextP G sets A x).length ≤ 1000000) := fun x => Nat.le_trans (N.len x) (by decide)
 have hnxl := N.len x
 replace N := Lib.hid N
 replace hC := Lib.hid hC
 replace hok := Lib.hid hok
 replace hP := Lib.hid hP
 replace lt := Lib.hid lt
 replace hbb := Lib.hid hbb
 replace hres := Lib.hid hres
 replace hI0 := Lib.hid hI0
 replace ho := Lib.hid ho
 have hO0 := Lib.hid h
 have rb := Lib.hid (RowAt.new (w := w) (T := TPP) #[.int .i64 x.node, .int .i64 x.state, .int .i64 x.turn] rfl)
 obtain ⟨X, S0, S1, h1, h2, h3, h4⟩ := h
 have hsl := h4.hs.2
 have hptr : Hid (w.cell? ⟨sB, 0, none⟩ = some (.pointer (some ⟨p, 0, none⟩))) := h4.row.cell 0
 have NX := Lib.hid (fun v (hb : Below w.heap.size w v) => next_any v p G sets A (hP.out.below (btrans h4.low hb)) lt.out x)
 have h4r := Lib.hid h4
 clear h1 h2 h3 h4
 go_enter Try.func71, Try.ntmps71
 go_wp2
 refine wp_scope_num 0 (WJ Z0.kp W p sB b (nextP G sets A) (vPP G sets A) C E x res) rfl ?_ ?_
 ·rintro n ⟨tm, df⟩ w ⟨m, Z, s, st, k, fB, fa, fc, xb, rfl, hZK, hdf, hsz, e0, e3, e4, e5, hF, hO, hr, hm, hI, hE1⟩
  obtain rfl : df = [] := hdf
  obtain ⟨q, hq⟩ := frame88 tm hsz
  subst hq
  have k0 : q 0 = _ := e0
  have k3 : q 3 = _ := e3
  have k4 : q 4 = _ := e4
  have k5 : q 5 = _ := e5
  rw [k0, k3, k4, k5]
  clear e0 e3 e4 e5 k0 k3 k4 k5 hsz hO0 rb hptr NX h4r
  have hbn := hbb.out
  replace hZK := Lib.hid hZK
  have hnd := hI.inv.nb
  have hdd := hI.inv.db
  have hld := hI.inv.ld
  have hsd := hI.sd
  rw [List.length_append, List.length_cons, List.length_nil] at hsd
  obtain ⟨X, S0, S1, h1, h2, h3, h4⟩ := hO
  have l1 : S1.length = st.length := by have := congrArg List.length h2; simpa using this
  have hei : s.edges ≤ 4000000000000000000 := by omega
  have hnl := hnx1.out
  have hrow := h4.row
  have f6 := hrow.free 6
  have c6 : w.cell? ⟨sB, 6, none⟩ = some (.int .i64 (s.edges : Int)) := hrow.cell 6
  cases st with
  | nil =>
   obtain rfl : S1 = [] := List.eq_nil_of_length_eq_zero l1
   obtain ⟨rf, pf, hfs, hfb⟩ := hF.at h4
   have c11 : w.cell? ⟨sB, 11, none⟩ = some (.slice X.a1 0 X.c1) := hrow.cell 11
   have t3 : w.cell? ⟨fB, 0 + 3, none⟩ = some (.slice fa (nextP G sets A x).length fc) := rf.cell 3
   have t4 : w.cell? ⟨fB, 0 + 4, none⟩ = some (.int .i64 (k : Int)) := rf.cell 4
   have t4f : w.frozen? ⟨fB, 0 + 4, none⟩ = false := rf.free 4
   have hkl : k ≤ (nextP G sets A x).length := hI.sa (x, k) (.head _)
   by_cases hk : k < (nextP G sets A x).length
   ·have hyk : (nextP G sets A x)[k]? = some (nextP G sets A x)[k] := List.getElem?_eq_getElem hk
    obtain ⟨y, hyy⟩ : ∃ y, y = (nextP G sets A x)[k] := ⟨_, rfl⟩
    rw [← hyy] at hyk
    have hA := Lib.hid (Adv.of (st := []) (x := x) (k := k + 1) N.out hI hr hm hyk rfl)
    have ST := Lib.hid (step_more w sB fB 0 k s.edges fa fc (nextP G sets A x) y t3 t4 t4f c6 f6 hfs pf hyk hfb (hnl x) hei)
    have AF := Lib.hid (fun v hb => adv_first (w' := v) ⟨X, S0, [], h1, h2, h3, h4⟩ hF hb)
    have hbd : Hid ((edgeS s).ot.length ≤ 1000000 ∧ ([] : List (PP × Nat)).length ≤ 1000000) := ⟨by show s.ot.length ≤ _; omega, Nat.zero_le _⟩
    have hnn : Hid ((edgeS s).nodes ≤ 65536 ∧ (edgeS s).depth ≤ 65536) := ⟨by show s.nodes ≤ _; omega, by show s.depth ≤ _; omega⟩
    have hE2 : Hid ((edgeS s).edges + m ≤ E) := by show s.edges + 1 + m ≤ E; omega
    clear hrow f6 c6 rf pf hfs hfb t3 t4 t4f hkl hk hyk hyy hr hm hI hF h1 h2 h3 h4 l1 hnd hdd hld hsd hE1 hei
    go_wp2_with fail
    refine ST.out.mono ?_
    rintro e w1 ⟨rfl, hb1⟩
    obtain ⟨Z2, hZ2, hO1, hF2⟩ := AF.out w1 hb1
    replace hZK : Hid (Z2.kp = Z0.kp) := hZ2.trans hZK.out
    clear hZ2
    have hO2 : Hid (SrOk W p sB Z2 b (nextP G sets A) (edgeS s) [] (edgeS s).nodes (w1.alloc (.cells #[.int .i64 y.node, .int .i64 y.state, .int .i64 y.turn] TPP))) := SrOk.below hO1 (balloc (Below.refl _ _) _)
    have rY : Hid (RowAt (w1.alloc (.cells #[.int .i64 y.node, .int .i64 y.state, .int .i64 y.turn] TPP)) w1.heap.size TPP [.int .i64 y.node, .int .i64 y.state, .int .i64 y.turn]) := RowAt.new #[.int .i64 y.node, .int .i64 y.state, .int .i64 y.turn] rfl
    replace hF2 := Lib.hid hF2
    clear ST AF hb1 hO1
    obtain ⟨yb, hyb⟩ : ∃ yb, yb = w1.heap.size := ⟨_, rfl⟩
    rw [← hyb] at rY
    go_wp2
    rw [← hyb]
    clear hyb c11
    obtain ⟨k2, hk2⟩ : ∃ k2, k2 = k + 1 := ⟨_, rfl⟩
    obtain ⟨st2, hst2⟩ : ∃ st2 : List (PP × Nat), st2 = [] := ⟨_, rfl⟩
    obtain ⟨s1, hs1⟩ : ∃ s1, s1 = edgeS s := ⟨_, rfl⟩
    rw [← hk2, ← hst2, ← hs1] at hA
    rw [← hst2, ← hs1] at hO2
    rw [← hk2] at hF2
    rw [← hst2, ← hs1] at hbd
    rw [← hs1] at hnn hE2
    clear hk2 hst2 hs1
    generalize w1.alloc (.cells #[.int .i64 y.node, .int .i64 y.state, .int .i64 y.turn] TPP) = w2 at hO2 rY ⊢
    -- y is the next pair
    obtain ⟨X, S0, S1, h1, h2, h3, h4⟩ := hO2.out
    have d12 : w2.cell? ⟨sB, 12, none⟩ = some (.map (some X.mp)) := h4.row.cell 12
    have y0 : w2.cell? ⟨yb, 0, none⟩ = some (.int .i64 y.node) := rY.out.cell 0
    have y1 : w2.cell? ⟨yb, 1, none⟩ = some (.int .i64 y.state) := rY.out.cell 1
    have y2 : w2.cell? ⟨yb, 2, none⟩ = some (.int .i64 y.turn) := rY.out.cell 2
    have hoky := hok.out y hA.out.py
    have hlk := (h4.below (Below.refl _ _).drew).mp.look hoky
    have hO3 : Hid (SrOk W p sB Z2 b (nextP G sets A) s1 st2 s1.nodes w2.drew) := hO2.out.below (Below.refl _ _).drew
    have rY3 := Lib.hid (rY.out.below (Below.refl _ _).drew)
    clear h1 h2 h3 h4
    by_cases hy : y ∈ way s1.ot
    ·rw [if_pos hy, decide_eq_true hy] at hlk
     simp only [ppv] at hlk
     obtain ⟨i, hi⟩ : ∃ i, i = (way s1.ot).idxOf y := ⟨_, rfl⟩
     rw [← hi] at hlk
     have hend := hA.out.fail hy
     rw [← hi] at hend
     have hil : i ≤ (way s1.ot).length := by rw [hi]; exact List.idxOf_le_length
     have TL := Lib.hid (fun v hv => tell_any W Z2 p sB b (nextP G sets A) hnx1.out s1 st2 s1.nodes v i hv hil hbd.out)
     replace hend := Lib.hid hend
     replace hi := Lib.hid hi
     clear hy hil
     go_region
     go_wp2_with fail
     refine (TL.out _ hO3.out).mono ?_
     rintro e w3 ⟨rfl, hEnd⟩
     replace hEnd := Lib.hid hEnd
     clear hlk y0 y1 y2 d12
     go_wp2
     simp only [Exit.jump]
     go_ret
     rw [hend.out]
     exact ⟨rfl, hEnd.out⟩
    ·rw [if_neg hy, decide_eq_false hy] at hlk
     simp only [ppv] at hlk
     go_region
     go_wp2
     clear hlk y0 y1 y2 d12 hO2 rY
     generalize w2.drew = w3 at hO3 rY3 ⊢
     obtain ⟨X, S0, S1, h1, h2, h3, h4⟩ := hO3.out
     have d14 : w3.cell? ⟨sB, 14, none⟩ = some (.map (some X.mm)) := h4.row.cell 14
     have y0 : w3.cell? ⟨yb, 0, none⟩ = some (.int .i64 y.node) := rY3.out.cell 0
     have y1 : w3.cell? ⟨yb, 1, none⟩ = some (.int .i64 y.state) := rY3.out.cell 1
     have y2 : w3.cell? ⟨yb, 2, none⟩ = some (.int .i64 y.turn) := rY3.out.cell 2
     have hlk := (h4.below (Below.refl _ _).drew).mm.look hoky
     have hO4 : Hid (SrOk W p sB Z2 b (nextP G sets A) s1 st2 s1.nodes w3.drew) := hO3.out.below (Below.refl _ _).drew
     have rY4 := Lib.hid (rY3.out.below (Below.refl _ _).drew)
     clear h1 h2 h3 h4
     by_cases hmk : y ∈ s1.marked
     ·rw [decide_eq_true hmk] at hlk
      simp only [ppv] at hlk
      obtain ⟨q1, q2⟩ := hA.out.skip hy hmk
      replace q1 := Lib.hid q1
      replace q2 := Lib.hid q2
      clear hy hmk
      go_region
      go_wp2
      clear hlk y0 y1 y2 d14
      go_step3
      exact ⟨rfl, m, Nat.lt_succ_self _, WJ.of Z2 s1 st2 k2 rfl rfl rfl rfl rfl rfl hF2.out hO4.out q1.out q2.out hA.out.inv hE2.out hZK.out⟩
     ·rw [decide_eq_false hmk] at hlk
      simp only [ppv] at hlk
      have hov := hA.out.over hy hmk
      have hpu := hA.out.push hy hmk
      have hml : Hid (s1.marked.length ≤ 1000000) := by
       show _ ≤ _
       have h1 := N.out.few _ hA.out.inv.inv.mn hA.out.inv.inv.mv
       have h2 := hC.out
       omega
      have CM : Hid (∀ v, SrOk W p sB Z2 b (nextP G sets A) (markS s1 y) st2 s1.nodes v → Calls Try.prog 79 #[.pointer (some ⟨sB, 0, none⟩), .int .i64 1, .agg #[.int .i64 y.node, .int .i64 y.state, .int .i64 y.turn]] v fun e w' => (e = .returned (.bool false) ∧ ∃ r, res = (markS s1 y, some r) ∧ EndAt W sB r w') ∨ (e = .returned (.bool true) ∧ SrOk W p sB Z2 b (nextP G sets A) (deepS (markS s1 y) (s1.ot.length + (st2.length + 1))) ((y, 0) :: st2) s1.nodes w' ∧ innerF b (nextP G sets A) m (deepS (markS s1 y) (s1.ot.length + (st2.length + 1))) ((y, 0) :: st2 ++ [(x, k2)]) = res ∧ muI C (deepS (markS s1 y) (s1.ot.length + (st2.length + 1))) ((y, 0) :: st2 ++ [(x, k2)]) < m ∧ IInv b (nextP G sets A) (vPP G sets A) (deepS (markS s1 y) (s1.ot.length + (st2.length + 1))) ((y, 0) :: st2 ++ [(x, k2)]))) := fun v hv => by
       by_cases hd : b.d < s1.ot.length + st2.length + 1
       ·refine (come_no W Z2 p sB b _ (markS s1 y) st2 v 1 y s1.nodes hv hd hbd.out).mono ?_
        rintro e w' ⟨rfl, hE⟩
        exact .inl ⟨rfl, _, hov hd, hE⟩
       ·refine (come1_yes W Z2 p sB b G sets A hP.out lt.out (markS s1 y) st2 v y s1.nodes (by have := hnn.out; omega) hv hoky hd ⟨hbd.out.1, hbd.out.2, by have := hnn.out; show s1.nodes ≤ _; omega, by have := hnn.out; show s1.depth ≤ _; omega⟩).mono ?_
        rintro e w' ⟨rfl, hE⟩
        exact .inr ⟨rfl, hE, hpu hd⟩
      clear hy hmk hov hpu
      go_region
      go_wp2
      clear hlk y0 y1 y2 d14 hO3 rY3
      generalize w3.drew = w4 at hO4 rY4 ⊢
      obtain ⟨X, S0, S1, h1, h2, h3, h4⟩ := hO4.out
      have d14 : w4.cell? ⟨sB, 14, none⟩ = some (.map (some X.mm)) := h4.row.cell 14
      have y0 : w4.cell? ⟨yb, 0, none⟩ = some (.int .i64 y.node) := rY4.out.cell 0
      have y1 : w4.cell? ⟨yb, 1, none⟩ = some (.int .i64 y.state) := rY4.out.cell 1
      have y2 : w4.cell? ⟨yb, 2, none⟩ = some (.int .i64 y.turn) := rY4.out.cell 2
      obtain ⟨w5, hrun, hm5, hg5⟩ := (h4.below (Below.refl _ _).drew).mm.put hoky (by have := hml.out; omega)
      simp only [ppv] at hrun
      have h5 := (h4.below (Below.refl _ _).drew).putM hg5 hm5
      have hne : yb ≠ X.mm := fun e => mm_type h4.mm (e ▸ rY4.out)
      have rY5 := (rY4.out.below (Below.refl _ _).drew).keeps (Keeps.of_grown (S := fun j => j = X.mm) hg5 (fun j e => by cases e; rfl)) hne
      have hO5 : Hid (SrOk W p sB Z2 b (nextP G sets A) (markS s1 y) st2 s1.nodes w5) := ⟨X, S0, S1, h1, h2, h3, h5⟩
      have z0 : w5.cell? ⟨yb, 0, none⟩ = some (.int .i64 y.node) := rY5.cell 0
      have z1 : w5.cell? ⟨yb, 1, none⟩ = some (.int .i64 y.state) := rY5.cell 1
      have z2 : w5.cell? ⟨yb, 2, none⟩ = some (.int .i64 y.turn) := rY5.cell 2
      have CW := Lib.hid (CM.out w5 hO5.out)
      clear h1 h2 h3 h4 h5 hm5 hg5 hne rY5 hO5 CM
      go_region
      go_wp2_with fail
      refine CW.out.mono ?_
      rintro e w6 (⟨rfl, r, hres, hEnd⟩ | ⟨rfl, hO6, q1, q2, q3⟩)
      ·replace hres := Lib.hid hres
       replace hEnd := Lib.hid hEnd
       clear hrun y0 y1 y2 d14 z0 z1 z2 CW
       simp only [Bool.not_false]
       go_wp2
       simp only [Exit.jump]
       go_ret
       rw [hres.out]
       exact ⟨rfl, hEnd.out⟩
      ·replace hO6 := Lib.hid hO6
       replace q1 := Lib.hid q1
       replace q2 := Lib.hid q2
       replace q3 := Lib.hid q3
       clear hrun y0 y1 y2 d14 z0 z1 z2 CW
       simp only [Bool.not_true]
       go_wp2
       go_step3
       exact ⟨rfl, m, Nat.lt_succ_self _, WJ.of Z2 _ ((y, 0) :: st2) k2 rfl rfl rfl rfl rfl rfl hF2.out hO6.out q1.out q2.out q3.out hE2.out hZK.out⟩
   ·have hke : k = (nextP G sets A x).length := by omega
    rw [← hke] at t3
    have ST := Lib.hid (step_none w sB fB 0 k fa fc t3 t4)
    have hnone : (nextP G sets A x)[k]? = none := List.getElem?_eq_none (by omega)
    have hrs : Hid (res = (s, none)) := by
     show _ = _
     have hm2 := muI_pop N.out (show IInv b (nextP G sets A) (vPP G sets A) s ((x, k) :: []) from hI)
     have hm' : muI C s [(x, k)] < m + 1 := hm
     obtain ⟨m', rfl⟩ : ∃ m', m = m' + 1 := ⟨m - 1, by omega⟩
     rw [← hr]
     exact (innerF_pop hnone).trans innerF_nil
    have hOs : Hid (SrOk W p sB Z b (nextP G sets A) s [] s.nodes w) := ⟨X, S0, [], h1, h2, h3, h4⟩
    clear hrow f6 c6 rf pf hfs hfb t3 t4 t4f hkl hk hr hm hI hF h1 h2 h3 h4 l1 hnd hdd hld hsd hE1 hei hke hnone
    go_wp2_with fail
    refine ST.out.mono ?_
    rintro e w1 ⟨rfl, hb1⟩
    have hO1 : Hid (SrOk W p sB ⟨0, 0, W, Z0.kp⟩ b (nextP G sets A) s [] s.nodes (w1.alloc (.cells #[.int .i64 0, .int .i64 0, .int .i64 0] TPP))) := (hOs.out.below (hb1.trans (balloc (Below.refl _ _) _ |> fun h => h.mono hb1.size))).forget' hZK.out
    clear ST hb1 hOs
    go_wp2
    simp only [Exit.jump]
    go_ret
    rw [hrs.out]
    exact ⟨rfl, hO1.out⟩
  | cons ue r =>
   obtain ⟨u, ku⟩ := ue
   obtain ⟨S1, an, cn, rfl, h2n⟩ := snoc_split h2
   replace h2 := h2n
   clear h2n
   have hown := h4.own1
   obtain ⟨g, hg, _, _⟩ := OwnR.addr hown (by simp)
   rw [hg] at hown
   obtain ⟨_, _, _, t3, t4, t4f⟩ := last_cells hown
   have hgs : g ≠ sB := h4.apart.2.2.2.2 g (by rw [hg]; rfl)
   have hfb := h4.nb1 hg ((u, ku), an, cn) (by simp)
   have pf := h4.next1 ((u, ku), an, cn) (by simp)
   have c11' : w.cell? ⟨sB, 11, none⟩ = some (.slice X.a1 (S1 ++ [((u, ku), an, cn)]).length X.c1) := hrow.cell 11
   obtain ⟨n1, hn1⟩ : ∃ n1, n1 = S1.length + 1 := ⟨_, rfl⟩
   obtain ⟨m1, hm1⟩ : ∃ m1, m1 = S1.length := ⟨_, rfl⟩
   have c11 : w.cell? ⟨sB, 11, none⟩ = some (.slice (some ⟨g, 0, none⟩) n1 X.c1) := by rw [c11', hg, hn1]; simp
   have hcap : n1 ≤ X.c1 := by have := (OwnR.caps hown).1; simp at this; omega
   rw [← hm1] at t3 t4 t4f
   have hkl : ku ≤ (nextP G sets A u).length := hI.sa (u, ku) (.head _)
   have hst1 : m1 = r.length := by have := congrArg List.length h2; rw [hm1]; simpa using this
   have hlr : r.length + 1 ≤ 70000 := by simp at hsd; omega
   have n1I : (n1 : Int) ≤ 1000000 := by omega
   have hsub : (n1 : Int) - 1 = (m1 : Int) := by omega
   have hm1n : (m1 : Int) < (n1 : Int) := by omega
   have hn0 : (0 : Int) < (n1 : Int) := by omega
   have hn00 : 0 < n1 := by omega
   have hn1z : ((n1 : Int) == 0) = false := by simp; omega
   have hn1z2 : ¬ n1 = 0 := by omega
   have hwr : IntKind.i64.wrap ((n1 : Int) - 1) = (m1 : Int) := by rw [hsub]; exact IntWalk.i64_in _ (by omega)
   by_cases hk : ku < (nextP G sets A u).length
   ·have hyk : (nextP G sets A u)[ku]? = some (nextP G sets A u)[ku] := List.getElem?_eq_getElem hk
    obtain ⟨y, hyy⟩ : ∃ y, y = (nextP G sets A u)[ku] := ⟨_, rfl⟩
    rw [← hyy] at hyk
    have hA := Lib.hid (Adv.of (st := (u, ku + 1) :: r) (x := x) (k := k) N.out hI hr hm hyk rfl)
    have ST := Lib.hid (step_more w sB g (m1 * 5) ku s.edges an cn (nextP G sets A u) y t3 t4 t4f c6 f6 hgs pf hyk hfb (hnl u) hei)
    have AF : Hid (∀ v, Below w.heap.size ((w.setCell ⟨sB, 6, none⟩ (.int .i64 ((s.edges + 1 : Nat) : Int))).setCell ⟨g, m1 * 5 + 4, none⟩ (.int .i64 ((ku + 1 : Nat) : Int))) v → SrOk W p sB Z b (nextP G sets A) (edgeS s) ((u, ku + 1) :: r) s.nodes v) := fun v hb => adv_way (S1 := S1) (u := u) (k := ku) (an := an) (cn := cn) h1 h2 h3 h4 hg (by rw [← hm1]; exact hb)
    have hbd : Hid ((edgeS s).ot.length ≤ 1000000 ∧ ((u, ku + 1) :: r).length ≤ 1000000) := ⟨by show s.ot.length ≤ _; omega, by rw [List.length_cons]; omega⟩
    have hnn : Hid ((edgeS s).nodes ≤ 65536 ∧ (edgeS s).depth ≤ 65536) := ⟨by show s.nodes ≤ _; omega, by show s.depth ≤ _; omega⟩
    have hE2 : Hid ((edgeS s).edges + m ≤ E) := by show s.edges + 1 + m ≤ E; omega
    have hF2 := Lib.hid hF
    obtain ⟨Z2, hZ2⟩ : ∃ Z2, Z2 = Z := ⟨_, rfl⟩
    rw [← hZ2] at hF2 AF hZK
    obtain ⟨k2, hk2⟩ : ∃ k2, k2 = k := ⟨_, rfl⟩
    rw [← hk2] at hA hF2
    clear hrow f6 c6 pf hfb t3 t4 t4f hkl hk hyk hyy hr hm hI hF h1 h2 h3 h4 l1 hnd hdd hld hsd hE1 hei c11' hown hg hgs hn1 hm1 hcap hst1 hlr hZ2 hk2 hwr
    go_wp2_with fail
    refine ST.out.mono ?_
    rintro e w1 ⟨rfl, hb1⟩
    have hO1 := AF.out w1 hb1
    have hO2 : Hid (SrOk W p sB Z2 b (nextP G sets A) (edgeS s) ((u, ku + 1) :: r) (edgeS s).nodes (w1.alloc (.cells #[.int .i64 y.node, .int .i64 y.state, .int .i64 y.turn] TPP))) := SrOk.below hO1 (balloc (Below.refl _ _) _)
    have rY : Hid (RowAt (w1.alloc (.cells #[.int .i64 y.node, .int .i64 y.state, .int .i64 y.turn] TPP)) w1.heap.size TPP [.int .i64 y.node, .int .i64 y.state, .int .i64 y.turn]) := RowAt.new #[.int .i64 y.node, .int .i64 y.state, .int .i64 y.turn] rfl
    clear ST AF hb1 hO1
    obtain ⟨yb, hyb⟩ : ∃ yb, yb = w1.heap.size := ⟨_, rfl⟩
    rw [← hyb] at rY
    go_wp2
    rw [← hyb]
    clear hyb c11 hsub n1I hm1n hn0 hn00 hn1z hn1z2
    obtain ⟨st2, hst2⟩ : ∃ st2 : List (PP × Nat), st2 = (u, ku + 1) :: r := ⟨_, rfl⟩
    obtain ⟨s1, hs1⟩ : ∃ s1, s1 = edgeS s := ⟨_, rfl⟩
    rw [← hst2, ← hs1] at hA
    rw [← hst2, ← hs1] at hO2
    rw [← hst2, ← hs1] at hbd
    rw [← hs1] at hnn hE2
    clear hst2 hs1
    generalize w1.alloc (.cells #[.int .i64 y.node, .int .i64 y.state, .int .i64 y.turn] TPP) = w2 at hO2 rY ⊢
    -- y is the next pair
    obtain ⟨X, S0, S1, h1, h2, h3, h4⟩ := hO2.out
    have d12 : w2.cell? ⟨sB, 12, none⟩ = some (.map (some X.mp)) := h4.row.cell 12
    have y0 : w2.cell? ⟨yb, 0, none⟩ = some (.int .i64 y.node) := rY.out.cell 0
    have y1 : w2.cell? ⟨yb, 1, none⟩ = some (.int .i64 y.state) := rY.out.cell 1
    have y2 : w2.cell? ⟨yb, 2, none⟩ = some (.int .i64 y.turn) := rY.out.cell 2
    have hoky := hok.out y hA.out.py
    have hlk := (h4.below (Below.refl _ _).drew).mp.look hoky
    have hO3 : Hid (SrOk W p sB Z2 b (nextP G sets A) s1 st2 s1.nodes w2.drew) := hO2.out.below (Below.refl _ _).drew
    have rY3 := Lib.hid (rY.out.below (Below.refl _ _).drew)
    clear h1 h2 h3 h4
    by_cases hy : y ∈ way s1.ot
    ·rw [if_pos hy, decide_eq_true hy] at hlk
     simp only [ppv] at hlk
     obtain ⟨i, hi⟩ : ∃ i, i = (way s1.ot).idxOf y := ⟨_, rfl⟩
     rw [← hi] at hlk
     have hend := hA.out.fail hy
     rw [← hi] at hend
     have hil : i ≤ (way s1.ot).length := by rw [hi]; exact List.idxOf_le_length
     have TL := Lib.hid (fun v hv => tell_any W Z2 p sB b (nextP G sets A) hnx1.out s1 st2 s1.nodes v i hv hil hbd.out)
     replace hend := Lib.hid hend
     replace hi := Lib.hid hi
     clear hy hil
     go_region
     go_wp2_with fail
     refine (TL.out _ hO3.out).mono ?_
     rintro e w3 ⟨rfl, hEnd⟩
     replace hEnd := Lib.hid hEnd
     clear hlk y0 y1 y2 d12
     go_wp2
     simp only [Exit.jump]
     go_ret
     rw [hend.out]
     exact ⟨rfl, hEnd.out⟩
    ·rw [if_neg hy, decide_eq_false hy] at hlk
     simp only [ppv] at hlk
     go_region
     go_wp2
     clear hlk y0 y1 y2 d12 hO2 rY
     generalize w2.drew = w3 at hO3 rY3 ⊢
     obtain ⟨X, S0, S1, h1, h2, h3, h4⟩ := hO3.out
     have d14 : w3.cell? ⟨sB, 14, none⟩ = some (.map (some X.mm)) := h4.row.cell 14
     have y0 : w3.cell? ⟨yb, 0, none⟩ = some (.int .i64 y.node) := rY3.out.cell 0
     have y1 : w3.cell? ⟨yb, 1, none⟩ = some (.int .i64 y.state) := rY3.out.cell 1
     have y2 : w3.cell? ⟨yb, 2, none⟩ = some (.int .i64 y.turn) := rY3.out.cell 2
     have hlk := (h4.below (Below.refl _ _).drew).mm.look hoky
     have hO4 : Hid (SrOk W p sB Z2 b (nextP G sets A) s1 st2 s1.nodes w3.drew) := hO3.out.below (Below.refl _ _).drew
     have rY4 := Lib.hid (rY3.out.below (Below.refl _ _).drew)
     clear h1 h2 h3 h4
     by_cases hmk : y ∈ s1.marked
     ·rw [decide_eq_true hmk] at hlk
      simp only [ppv] at hlk
      obtain ⟨q1, q2⟩ := hA.out.skip hy hmk
      replace q1 := Lib.hid q1
      replace q2 := Lib.hid q2
      clear hy hmk
      go_region
      go_wp2
      clear hlk y0 y1 y2 d14
      go_step3
      exact ⟨rfl, m, Nat.lt_succ_self _, WJ.of Z2 s1 st2 k2 rfl rfl rfl rfl rfl rfl hF2.out hO4.out q1.out q2.out hA.out.inv hE2.out hZK.out⟩
     ·rw [decide_eq_false hmk] at hlk
      simp only [ppv] at hlk
      have hov := hA.out.over hy hmk
      have hpu := hA.out.push hy hmk
      have hml : Hid (s1.marked.length ≤ 1000000) := by
       show _ ≤ _
       have h1 := N.out.few _ hA.out.inv.inv.mn hA.out.inv.inv.mv
       have h2 := hC.out
       omega
      have CM : Hid (∀ v, SrOk W p sB Z2 b (nextP G sets A) (markS s1 y) st2 s1.nodes v → Calls Try.prog 79 #[.pointer (some ⟨sB, 0, none⟩), .int .i64 1, .agg #[.int .i64 y.node, .int .i64 y.state, .int .i64 y.turn]] v fun e w' => (e = .returned (.bool false) ∧ ∃ r, res = (markS s1 y, some r) ∧ EndAt W sB r w') ∨ (e = .returned (.bool true) ∧ SrOk W p sB Z2 b (nextP G sets A) (deepS (markS s1 y) (s1.ot.length + (st2.length + 1))) ((y, 0) :: st2) s1.nodes w' ∧ innerF b (nextP G sets A) m (deepS (markS s1 y) (s1.ot.length + (st2.length + 1))) ((y, 0) :: st2 ++ [(x, k2)]) = res ∧ muI C (deepS (markS s1 y) (s1.ot.length + (st2.length + 1))) ((y, 0) :: st2 ++ [(x, k2)]) < m ∧ IInv b (nextP G sets A) (vPP G sets A) (deepS (markS s1 y) (s1.ot.length + (st2.length + 1))) ((y, 0) :: st2 ++ [(x, k2)]))) := fun v hv => by
       by_cases hd : b.d < s1.ot.length + st2.length + 1
       ·refine (come_no W Z2 p sB b _ (markS s1 y) st2 v 1 y s1.nodes hv hd hbd.out).mono ?_
        rintro e w' ⟨rfl, hE⟩
        exact .inl ⟨rfl, _, hov hd, hE⟩
       ·refine (come1_yes W Z2 p sB b G sets A hP.out lt.out (markS s1 y) st2 v y s1.nodes (by have := hnn.out; omega) hv hoky hd ⟨hbd.out.1, hbd.out.2, by have := hnn.out; show s1.nodes ≤ _; omega, by have := hnn.out; show s1.depth ≤ _; omega⟩).mono ?_
        rintro e w' ⟨rfl, hE⟩
        exact .inr ⟨rfl, hE, hpu hd⟩
      clear hy hmk hov hpu
      go_region
      go_wp2
      clear hlk y0 y1 y2 d14 hO3 rY3
      generalize w3.drew = w4 at hO4 rY4 ⊢
      obtain ⟨X, S0, S1, h1, h2, h3, h4⟩ := hO4.out
      have d14 : w4.cell? ⟨sB, 14, none⟩ = some (.map (some X.mm)) := h4.row.cell 14
      have y0 : w4.cell? ⟨yb, 0, none⟩ = some (.int .i64 y.node) := rY4.out.cell 0
      have y1 : w4.cell? ⟨yb, 1, none⟩ = some (.int .i64 y.state) := rY4.out.cell 1
      have y2 : w4.cell? ⟨yb, 2, none⟩ = some (.int .i64 y.turn) := rY4.out.cell 2
      obtain ⟨w5, hrun, hm5, hg5⟩ := (h4.below (Below.refl _ _).drew).mm.put hoky (by have := hml.out; omega)
      simp only [ppv] at hrun
      have h5 := (h4.below (Below.refl _ _).drew).putM hg5 hm5
      have hne : yb ≠ X.mm := fun e => mm_type h4.mm (e ▸ rY4.out)
      have rY5 := (rY4.out.below (Below.refl _ _).drew).keeps (Keeps.of_grown (S := fun j => j = X.mm) hg5 (fun j e => by cases e; rfl)) hne
      have hO5 : Hid (SrOk W p sB Z2 b (nextP G sets A) (markS s1 y) st2 s1.nodes w5) := ⟨X, S0, S1, h1, h2, h3, h5⟩
      have z0 : w5.cell? ⟨yb, 0, none⟩ = some (.int .i64 y.node) := rY5.cell 0
      have z1 : w5.cell? ⟨yb, 1, none⟩ = some (.int .i64 y.state) := rY5.cell 1
      have z2 : w5.cell? ⟨yb, 2, none⟩ = some (.int .i64 y.turn) := rY5.cell 2
      have CW := Lib.hid (CM.out w5 hO5.out)
      clear h1 h2 h3 h4 h5 hm5 hg5 hne rY5 hO5 CM
      go_region
      go_wp2_with fail
      refine CW.out.mono ?_
      rintro e w6 (⟨rfl, r, hres, hEnd⟩ | ⟨rfl, hO6, q1, q2, q3⟩)
      ·replace hres := Lib.hid hres
       replace hEnd := Lib.hid hEnd
       clear hrun y0 y1 y2 d14 z0 z1 z2 CW
       simp only [Bool.not_false]
       go_wp2
       simp only [Exit.jump]
       go_ret
       rw [hres.out]
       exact ⟨rfl, hEnd.out⟩
      ·replace hO6 := Lib.hid hO6
       replace q1 := Lib.hid q1
       replace q2 := Lib.hid q2
       replace q3 := Lib.hid q3
       clear hrun y0 y1 y2 d14 z0 z1 z2 CW
       simp only [Bool.not_true]
       go_wp2
       go_step3
       exact ⟨rfl, m, Nat.lt_succ_self _, WJ.of Z2 _ ((y, 0) :: st2) k2 rfl rfl rfl rfl rfl rfl hF2.out hO6.out q1.out q2.out q3.out hE2.out hZK.out⟩
   ·have hke : ku = (nextP G sets A u).length := by omega
    rw [← hke] at t3
    have ST := Lib.hid (step_none w sB g (m1 * 5) ku an cn t3 t4)
    have hnone : (nextP G sets A u)[ku]? = none := List.getElem?_eq_none (by omega)
    have q1 : Hid (innerF b (nextP G sets A) m s (r ++ [(x, k)]) = res) := by
     show _ = _
     rw [← hr]
     exact (innerF_pop hnone).symm
    have q2 : Hid (muI C s (r ++ [(x, k)]) < m) := by
     show _ < _
     have := muI_pop N.out (show IInv b (nextP G sets A) (vPP G sets A) s ((u, ku) :: (r ++ [(x, k)])) from hI)
     have hm' : muI C s ((u, ku) :: (r ++ [(x, k)])) < m + 1 := hm
     omega
    have q3 := Lib.hid (IInv.pop (show IInv b (nextP G sets A) (vPP G sets A) s ((u, ku) :: (r ++ [(x, k)])) from hI))
    have hE2 : Hid (s.edges + m ≤ E) := by show _ ≤ _; omega
    have hF2 := Lib.hid hF
    have CW : Hid (∀ v, Below w.heap.size w v → SrOk W p sB Z b (nextP G sets A) s r s.nodes (v.setCell ⟨sB, 11, none⟩ (.slice (some ⟨g, 0, none⟩) m1 X.c1)) ∧ v.cell? ⟨sB, 11, none⟩ = some (.slice (some ⟨g, 0, none⟩) n1 X.c1) ∧ v.frozen? ⟨sB, 11, none⟩ = false ∧ sB < v.heap.size) := fun v hb => by
     have h5 := h4.below hb
     have h6 := cut_way (S1 := S1) h1 h2 h3 h5 hm1
     rw [hg] at h6
     exact ⟨h6, bcell hb c11, h5.row.free 11, h5.row.lt⟩
    have hcut := fun w' => run_cut_h (P := Try.prog) Try.underlying106 Try.sizeSp (some ⟨g, 0, none⟩) n1 X.c1 m1 (kh := .i64) (H := (m1 : Int)) rfl (by omega) w'
    clear hrow f6 c6 pf hfb t3 t4 t4f hkl hk hr hm hI hF h1 h2 h3 h4 l1 hnd hdd hld hsd hE1 hei c11' hown hg hgs hn1 hm1 hcap hst1 hlr hke hnone
    go_wp2_with fail
    refine ST.out.mono ?_
    rintro e w1 ⟨rfl, hb1⟩
    have hbb1 : Below w.heap.size w (w1.alloc (.cells #[.int .i64 0, .int .i64 0, .int .i64 0] TPP)) := balloc hb1 _
    obtain ⟨_, d11, df, hsl3⟩ := CW.out _ hbb1
    obtain ⟨hO2, d11b, dfb, _⟩ := CW.out _ hbb1.drew
    replace hO2 := Lib.hid hO2
    clear ST hb1 hbb1
    go_wp2
    clear c11 CW
    go_region
    go_wp2
    clear d11 df d11b dfb hcut hwr hsub
    go_step3
    exact ⟨rfl, m, Nat.lt_succ_self _, WJ.of Z s r k rfl rfl rfl rfl rfl rfl hF2.out hO2.out q1.out q2.out q3.out hE2.out hZK.out⟩
 ·intro PASS
  have hb9 : Below w.heap.size w (w.alloc (.cells #[.int .i64 x.node, .int .i64 x.state, .int .i64 x.turn] TPP)) := balloc (Below.refl _ _) _
  have SB : Hid (∀ v, Below w.heap.size w v → RowAt v w.heap.size TPP [.int .i64 x.node, .int .i64 x.state, .int .i64 x.turn] → v.cell? ⟨sB, 0, none⟩ = some (.pointer (some ⟨p, 0, none⟩)) ∧ v.cell? ⟨w.heap.size, 0, none⟩ = some (.int .i64 x.node) ∧ v.cell? ⟨w.heap.size, 1, none⟩ = some (.int .i64 x.state) ∧ v.cell? ⟨w.heap.size, 2, none⟩ = some (.int .i64 x.turn)) := fun v hb hr => ⟨bcell hb hptr.out, hr.cell 0, hr.cell 1, hr.cell 2⟩
  obtain ⟨wA, hwA⟩ : ∃ wA, wA = w.alloc (.cells #[.int .i64 x.node, .int .i64 x.state, .int .i64 x.turn] TPP) := ⟨_, rfl⟩
  have hzA : Hid (wA.heap.size = w.heap.size + 1) := by show _ = _; rw [hwA]; simp
  rw [← hwA] at hb9 rb ⊢
  obtain ⟨nl, hnl⟩ : ∃ nl, nl = (nextP G sets A x).length := ⟨_, rfl⟩
  have FIN : Hid (∀ v an cn, Below wA.heap.size wA v → OwnQ v wA.heap.size TPP an cn (nextP G sets A x) → ∀ v2, v2 = v.alloc (.cells #[.int .i64 x.node, .int .i64 x.state, .int .i64 x.turn, .slice an nl cn, .int .i64 0] TSp) → ∃ Z, Z.kp = Z0.kp ∧ FirstAt Z v.heap.size an cn (nextP G sets A) x 0 ∧ SrOk W p sB Z b (nextP G sets A) s0 [] s0.nodes v2) := fun v an cn hb hq v2 hv2 => by
   subst hv2
   have hA : Below v.heap.size v (v.alloc (.cells #[.int .i64 x.node, .int .i64 x.state, .int .i64 x.turn, .slice an nl cn, .int .i64 0] TSp)) := balloc (Below.refl _ _) _
   have hb2 : Below w.heap.size w (v.alloc (.cells #[.int .i64 x.node, .int .i64 x.state, .int .i64 x.turn, .slice an nl cn, .int .i64 0] TSp)) := btrans hb9 (btrans hb hA)
   obtain ⟨X, S0, S1, h1, h2, h3, h4⟩ := hO0.out
   have hsz : (v.alloc (.cells #[.int .i64 x.node, .int .i64 x.state, .int .i64 x.turn, .slice an nl cn, .int .i64 0] TSp)).heap.size = v.heap.size + 1 := by simp
   have hz1 := hzA.out
   have hz2 := hb.size
   refine ⟨⟨w.heap.size, (v.alloc (.cells #[.int .i64 x.node, .int .i64 x.state, .int .i64 x.turn, .slice an nl cn, .int .i64 0] TSp)).heap.size, (v.alloc (.cells #[.int .i64 x.node, .int .i64 x.state, .int .i64 x.turn, .slice an nl cn, .int .i64 0] TSp)), Z0.kp⟩, rfl, ⟨?_, (PpsAt.of_own hq).below hA, ⟨?_, ?_⟩, fun ad had => ?_⟩, X, S0, S1, h1, h2, h3, h4.reserve hb2⟩
   ·rw [← hnl]
    exact RowAt.new #[.int .i64 x.node, .int .i64 x.state, .int .i64 x.turn, .slice an nl cn, .int .i64 0] rfl
   ·show w.heap.size ≤ v.heap.size; omega
   ·show v.heap.size < (v.alloc _).heap.size; omega
   ·have hj : OB an (nextP G sets A x).length cn = some ad.block := by rw [had]; rfl
    have := OwnR.lt hq hj
    refine ⟨⟨?_, ?_⟩, ?_⟩
    ·show w.heap.size ≤ ad.block; omega
    ·show ad.block < (v.alloc _).heap.size; omega
    ·omega
  have hmu := Lib.hid (muI_start C s0 x hC.out)
  have hI1 := Lib.hid (IInv.start hI0.out ho.out)
  replace hnl := Lib.hid hnl
  have hxl : w.heap.size < wA.heap.size := by have := hzA.out; omega
  have hslA : sB < wA.heap.size := by have := hb9.size; omega
  clear hwA h4r
  go_wp2
  have hptrA := (SB.out wA hb9 rb.out).1
  go_region_held3 (fun w' => w'.cell? ⟨sB, 0, none⟩ = some (.pointer (some ⟨p, 0, none⟩)) ∧ w'.cell? ⟨w.heap.size, 0, none⟩ = some (.int .i64 x.node) ∧ w'.cell? ⟨w.heap.size, 1, none⟩ = some (.int .i64 x.state) ∧ w'.cell? ⟨w.heap.size, 2, none⟩ = some (.int .i64 x.turn)) (first | exact SB.out _ (btrans hb9 (balloc K1 _)) (rb.out.below (balloc K1 _)) | exact SB.out _ (btrans hb9 K1) (rb.out.below K1) | exact SB.out _ hb9.drew (rb.out.below (Below.refl _ _).drew)) (first
   | (go_at_call 82; (with_reducible refine (NX.out _ hb9.drew).mono ?_); rintro e w6 ⟨an, cn, rfl, hq6, hb6⟩; have K1 : Below wA.heap.size wA w6 := ⟨hb6.os, hb6.tape, hb6.output, hb6.size, hb6.block⟩; rw [← hnl.out]))
  obtain ⟨Z, hZK, hF, hO⟩ := FIN.out w6 an cn K1 hq6 _ rfl
  replace hF := Lib.hid hF
  replace hO := Lib.hid hO
  go_wp2
  go_step3
  simp only [Exit.then]
  apply_assumption
  refine PASS FI _ _ ?_
  exact WJ.of Z s0 [] 0 rfl rfl rfl rfl rfl rfl hF.out hO.out hres.out.symm hmu.out hI1.out he0 hZK
end Go.Proofs.Ytfcpfcgcfaacnaa
