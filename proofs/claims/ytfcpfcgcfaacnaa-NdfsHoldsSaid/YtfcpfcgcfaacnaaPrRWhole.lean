/- The document's Whole. Conditions: a small graph, and the bounds of an argument. The document's Whole, all of it. Conditions: a small graph, and the bounds of an argument. -/
import Derived.Test.YtfcpfcgcfaacnaaPrTable
import Derived.Test.YtfcpfcgcfaacnaaPrRin
import Derived.BigRegion
import Derived.Deep.CutBlock
import Derived.Deep.DeepCutAuto
import Derived.Deep.RegionHeld3
namespace Go.Proofs.Ytfcpfcgcfaacnaa
open Go.RowKit

/-- what the block of a table holds -/
def TB (tab : List Int) (o : Option Obj) : Prop := o = some (.cells (tab.map (Value.int .i64)).toArray TyI (0, 0))
theorem WSt.start2 {W w : World} {tq : TypeId} {gB mb : Nat} {M : Option Obj → Prop} {qa : Option Addr} {qc : Nat} {l : List PP} (hb : Below W.heap.size W w) (hg : RowAt w gB TG [.slice none 0 0, .slice none 0 0, .slice none 0 0]) (hm : M w.heap[mb]?) (hml : mb < w.heap.size) (h1 : W.heap.size ≤ gB) (h3 : W.heap.size ≤ mb) (n2 : gB ≠ mb) (hq : OwnQ w W.heap.size tq qa qc l) (hqn : ∀ j, OB qa l.length qc = some j → j ≠ gB ∧ j ≠ mb) :
    WSt W tq gB mb 0 0 W M (.slice none 0 0) (.slice none 0 0) (.slice none 0 0) ⟨none, 0, none, 0, none, 0, qa, qc, none, 0, none, 0⟩ ⟨[], [], [], l, [], []⟩ w := by
  refine ⟨fun j => if j = gB then 0 else 1, ⟨hb, fun _ => ⟨hg, if_pos rfl, h1⟩, fun _ => ⟨hq, fun j hj => ⟨if_neg (hqn j hj).1, (hqn j hj).2⟩, hm, ?_, h3, hml⟩, fun _ => ⟨OwnN.nil _ _ _ _, fun j hj => by simp [OB, Value.ownBlock] at hj⟩, fun _ => ⟨EsOwn.nil _ _, fun j hj => ?_⟩, fun _ => ⟨OwnN.nil _ _ _ _, fun j hj => by simp [OB, Value.ownBlock] at hj⟩, fun _ => ⟨OwnR.nil _ _ _ _, fun j hj => by simp [OB, Value.ownBlock] at hj⟩, fun _ => ⟨OwnR.nil _ _ _ _, fun j hj => by simp [OB, Value.ownBlock] at hj⟩, fun _ j c1 c2 => by omega⟩⟩
  · rw [if_neg (by omega)]
  · rcases hj with hj | ⟨s, hs, _⟩
    · simp [OB, Value.ownBlock] at hj
    · simp at hs
/-- the table is turned at one place -/
theorem WSt.setT {W : World} {tq : TypeId} {gB mb lo hi : Nat} {Wz : World} {tab : List Int} {vi ve vl : Value} {X : WX} {C : WC} {w : World} (h : WSt W tq gB mb lo hi Wz (TB tab) vi ve vl X C w) (k : Nat) (x : Int) : WSt W tq gB mb lo hi Wz (TB (tab.set k x)) vi ve vl X C (w.setCell ⟨mb, k, none⟩ (.int .i64 x)) := by
  have hk : Keeps w (w.setCell ⟨mb, k, none⟩ (.int .i64 x)) (fun j => j = mb ∨ OB X.qa C.l.length X.qc = some j) := Keeps.set w mb k _ (.inl rfl)
  refine h.toQ (l' := C.l) (qa' := X.qa) (qc' := X.qc) hk (OwnR.keeps (S := fun j => j = mb) h.q (Keeps.set w mb k _ rfl) (fun j hj e => h.qne j hj e)) (fun j hj => .inl hj) ?_
  have hr : RowAt w mb TyI (tab.map (.int .i64)) := h.m
  have := hr.set k (.int .i64 x)
  rw [← List.map_set] at this
  exact this
/-- a pair is put behind the others -/
theorem WSt.snocQ {W : World} {tq : TypeId} {gB mb lo hi : Nat} {Wz : World} {M : Option Obj → Prop} {vi ve vl : Value} {X : WX} {C : WC} {w wA w' : World} (h : WSt W tq gB mb lo hi Wz M vi ve vl X C w) (hA : Below w.heap.size w wA) {a' : Option Addr} {c' : Nat} {x : PP} (hg : wA.grownBy w' (OB X.qa C.l.length X.qc)) (ho : OwnR w' W.heap.size tq 3 a' (C.l.length + 1) c' (qcells C.l ++ [.int .i64 x.node, .int .i64 x.state, .int .i64 x.turn])) (hf : Fresh w (OB X.qa C.l.length X.qc) (OB a' (C.l.length + 1) c')) :
    WSt W tq gB mb lo hi Wz M vi ve vl { X with qa := a', qc := c' } { C with l := C.l ++ [x] } w' := by
  have hk := grown_keeps hA hg
  have el : (C.l ++ [x]).length = C.l.length + 1 := by simp
  refine h.toQ (l' := C.l ++ [x]) (qa' := a') (qc' := c') ⟨hk.os, hk.tape, hk.output, hk.size, fun j hj hn => hk.block j hj (fun e => hn (.inr e))⟩ ?_ (by rw [el]; exact hf) ?_
  · unfold OwnQ
    rw [el, qcells_snoc]
    exact ho
  · rw [hk.block mb h.mle.2 (fun e => h.qne mb e rfl)]
    exact h.m
theorem rowFold_le (G : GR) (sets : List (List Bool)) (A : AU) (x : PP) : ∀ (ys : List PP) (s : List PP × List PR), s.1.length ≤ (ys.foldl (rowStep G sets A x) s).1.length
  | [], _ => Nat.le_refl _
  | y :: ys, s => Nat.le_trans (numQ_len s.1 y).1 (rowFold_le G sets A x ys (rowStep G sets A x s y))
theorem rowQ_take_le (G : GR) (sets : List (List Bool)) (A : AU) (x : PP) (l ys : List PP) (k : Nat) : (rowQ G sets A x l (ys.take k)).1.length ≤ (rowQ G sets A x l ys).1.length := by
  have h := rowFold_le G sets A x (ys.drop k) (rowQ G sets A x l (ys.take k))
  unfold rowQ at h ⊢
  rw [← List.foldl_append, List.take_append_drop] at h
  exact h
/-- too many pairs are found while a node's row is made -/
theorem wholeL_over {G : GR} {sets : List (List Bool)} {A : AU} {mm : Int} {i k : Nat} {s : WR} {x : PP} {ys : List PP} (hi : i < s.l.length) (hx : x = s.l[i]) (hys : ys = nextP G sets A x) (hm : (s.l.length : Int) ≤ mm) (h6 : i ≤ 65536) (hk : mm < ((rowQ G sets A x s.l (ys.take k)).1.length : Int)) : wholeL G sets A mm (65540 - i) i s = none := by
  have h1 := rowQ_take_le G sets A x s.l ys k
  rw [show 65540 - i = (65538 - i) + 1 + 1 by omega, wholeL_step hi (by omega), ← hx]
  refine wholeL_more ?_ ?_
  · show i + 1 < (rowQ G sets A x s.l (nextP G sets A x)).1.length
    rw [← hys]
    omega
  · show mm < (((rowQ G sets A x s.l (nextP G sets A x)).1.length : Nat) : Int)
    rw [← hys]
    omega
abbrev TAg : Nat := 26
/-- what the document's Whole goes on from: its arguments and its product lie in boxes -/
structure RBox (W : World) (g7 : Nat) (X : RX) (G : GR) (sets : List (List Bool)) (A : AU) (w : World) : Prop where
  rp : RowAt w g7 TRP (rpc X G sets A)
  pa : RpA w X G sets A
theorem RBox.below {W : World} {g7 : Nat} {X : RX} {G : GR} {sets : List (List Bool)} {A : AU} {w w' : World} (h : RBox W g7 X G sets A w) (hb : Below w.heap.size w w') : RBox W g7 X G sets A w' := ⟨h.rp.below hb, h.pa.below hb⟩
set_option maxRecDepth 20000 in
set_option maxHeartbeats 16000000 in
theorem rwhole_yes (w : World) (X : RX) (G : GR) (sets : List (List Bool)) (A : AU) (m : Int) (L : LawIn w X G sets A) (lt : Lt G sets A) (hn : newB G sets A = true)
    (res : Option WR) (hres : res = if most' m < ((firstP G A).length : Int) then none else wholeL G sets A (most' m) 65540 0 ⟨firstP G A, [], [], []⟩) :
    Calls Try.prog 27 #[gv X G, .slice X.as_ sets.length X.cs, av X A, .int .i64 m] w fun e w' => (res = none ∧ Whole4 11 [] ⟨[], [], [], []⟩ w e w') ∨ (∃ s, res = some s ∧ Whole4 0 (upTo (firstP G A).length) s w e w') := by
  obtain ⟨hs, hc⟩ := newB_split hn
  have hgk := (src_sets hs).1
  have s16 := (src_sets hs).2.1
  obtain ⟨hN1, _, _⟩ := tab_small lt hc s16
  obtain ⟨N, hN⟩ : ∃ N, N = tabN G sets A := ⟨_, rfl⟩
  rw [← hN] at hN1
  obtain ⟨ai, ae, al, as_, bi, bn, ci, ce, cl, cs, di, dn⟩ := X
  obtain ⟨w3, hw3⟩ : ∃ w3, w3 = ((w.alloc (.cells #[.slice ai G.init.length ci, .slice ae G.edges.length ce, .slice al G.labels.length cl] TG)).alloc (.cells #[.int .i64 A.sets, .slice bi A.init.length di, .slice bn A.nodes.length dn] TA)).alloc (.cells #[.slice none 0 0, .slice none 0 0, .slice none 0 0] TG) := ⟨_, rfl⟩
  have hb3 : Below w.heap.size w w3 := by rw [hw3]; exact balloc (balloc (balloc (Below.refl _ _) _) _) _
  have rg : RowAt w3 w.heap.size TG [.slice ai G.init.length ci, .slice ae G.edges.length ce, .slice al G.labels.length cl] := by rw [hw3]; exact ((RowAt.new #[_, _, _] rfl).alloc _).alloc _
  have ra : RowAt w3 (w.heap.size + 1) TA [.int .i64 A.sets, .slice bi A.init.length di, .slice bn A.nodes.length dn] := by rw [hw3]; exact (RowAt.new #[_, _, _] (by simp)).alloc _
  have rr : RowAt w3 (w.heap.size + 1 + 1) TG gz := by rw [hw3]; exact RowAt.new #[_, _, _] (by simp)
  have RN : Hid (Calls Try.prog 11 #[.agg #[.slice ai G.init.length ci, .slice ae G.edges.length ce, .slice al G.labels.length cl], .slice as_ sets.length cs, .agg #[.int .i64 A.sets, .slice bi A.init.length di, .slice bn A.nodes.length dn]] w3 fun e w' => e = .returned (.tuple #[.agg #[.slice ai G.init.length ci, .slice ae G.edges.length ce, .slice al G.labels.length cl, .slice as_ sets.length cs, .int .i64 A.sets, .slice bi A.init.length di, .slice bn A.nodes.length dn], .bool true]) ∧ Below w3.heap.size w3 w') := by
    have := rnew_any w3 ⟨ai, ae, al, as_, bi, bn, ci, ce, cl, cs, di, dn⟩ G sets A (L.g.below hb3) L.ok (L.s.below hb3) (L.au.below hb3) L.aok
    rw [hn] at this
    exact this
  have PA : Hid (∀ w', Below w.heap.size w w' → RpA w' ⟨ai, ae, al, as_, bi, bn, ci, ce, cl, cs, di, dn⟩ G sets A) := fun w' hb => ⟨L.g.below hb, L.s.below hb, L.au.below hb, hs, hc, L.ok, L.aok, lt⟩
  have g0 : w3.cell? ⟨w.heap.size, 0, none⟩ = some (.slice ai G.init.length ci) := rg.cell 0
  have g1 : w3.cell? ⟨w.heap.size, 1, none⟩ = some (.slice ae G.edges.length ce) := rg.cell 1
  have g2 : w3.cell? ⟨w.heap.size, 2, none⟩ = some (.slice al G.labels.length cl) := rg.cell 2
  have a0 : w3.cell? ⟨w.heap.size + 1, 0, none⟩ = some (.int .i64 A.sets) := ra.cell 0
  have a1 : w3.cell? ⟨w.heap.size + 1, 1, none⟩ = some (.slice bi A.init.length di) := ra.cell 1
  have a2 : w3.cell? ⟨w.heap.size + 1, 2, none⟩ = some (.slice bn A.nodes.length dn) := ra.cell 2
  obtain ⟨L1, hL1⟩ : ∃ l, l = firstP G A := ⟨_, rfl⟩
  obtain ⟨n1, hn1⟩ : ∃ n, n = L1.length := ⟨_, rfl⟩
  have l1b : n1 ≤ 400 := by rw [hn1, hL1]; exact firstP_len lt
  have l1v : Hid (∀ x ∈ L1, vPP G sets A x) := by rw [hL1]; exact first_valid hgk hc
  have l1n : Hid L1.Nodup := by rw [hL1]; exact first_nodup G A
  have FI : Hid (∀ w', Below w.heap.size w w' → Calls Try.prog 24 #[.agg #[.slice ai G.init.length ci, .slice ae G.edges.length ce, .slice al G.labels.length cl, .slice as_ sets.length cs, .int .i64 A.sets, .slice bi A.init.length di, .slice bn A.nodes.length dn]] w' fun e w2 => ∃ a c, e = .returned (.slice a n1 c) ∧ OwnQ w2 w'.heap.size TRq a c L1 ∧ Below w'.heap.size w' w2) := fun w' hb => by
    have := rfirst_any w' _ G sets A (PA.out w' hb)
    rw [← hL1] at this
    rw [hn1]
    exact this
  have TT : Hid (∀ w', Below w.heap.size w w' → Calls Try.prog 56 #[.agg #[.slice ai G.init.length ci, .slice ae G.edges.length ce, .slice al G.labels.length cl, .slice as_ sets.length cs, .int .i64 A.sets, .slice bi A.init.length di, .slice bn A.nodes.length dn]] w' fun e w2 => ∃ pb, e = .returned (.slice (some ⟨pb, 0, none⟩) N N) ∧ RowAt w2 pb TyI ((List.replicate N (0 : Int)).map (.int .i64)) ∧ w'.heap.size ≤ pb ∧ Below w'.heap.size w' w2) := fun w' hb => rtable_any w' _ G sets A (PA.out w' hb) N hN
  have SL : Hid (∀ w', Below w.heap.size w w' → ∀ x, vPP G sets A x → Calls Try.prog 57 #[.agg #[.slice ai G.init.length ci, .slice ae G.edges.length ce, .slice al G.labels.length cl, .slice as_ sets.length cs, .int .i64 A.sets, .slice bi A.init.length di, .slice bn A.nodes.length dn], .agg #[.int .i64 x.node, .int .i64 x.state, .int .i64 x.turn]] w' fun e w2 => e = .returned (.int .i64 (slotP sets A x)) ∧ Below w'.heap.size w' w2) := fun w' hb x hx => rslot_any w' _ G sets A (PA.out w' hb) x hx
  have hNpos : Hid (∀ x, vPP G sets A x → slotP sets A x < N) := fun x hx => by rw [hN]; exact slotP_lt hx
  obtain ⟨mm, hmm⟩ : ∃ x, x = most' m := ⟨_, rfl⟩
  rw [← hL1, ← hmm] at hres
  rw [← hn1] at hres
  have hmm2 : mm ≤ 65536 := by rw [hmm]; unfold most'; split <;> omega
  have TOK : Hid (TabOk G sets A (List.replicate N 0) []) := by show TabOk _ _ _ _ _; rw [hN]; exact TabOk.start G sets A
  have HW := Lib.hid hw3
  replace hb3 := Lib.hid hb3
  replace rr := Lib.hid rr
  replace hres := Lib.hid hres
  replace hgk := Lib.hid hgk
  replace hc := Lib.hid hc
  replace hs := Lib.hid hs
  rw [← hL1, ← hn1]
  replace hL1 := Lib.hid hL1
  replace hn1 := Lib.hid hn1
  replace lt := Lib.hid lt
  have hNi : (N : Int) ≤ 3168 := by omega
  replace hN := Lib.hid hN
  replace hmm := Lib.hid hmm
  replace s16 := Lib.hid s16
  clear L hn hw3 rg ra hN1
  go_enter Try.func27, Try.ntmps27
  go_wp2_with fail
  rw [← HW.out]
  clear HW
  refine RN.out.mono ?_
  rintro e w4 ⟨rfl, hb4⟩
  have hb5 : Below w4.heap.size w4 (w4.alloc (.cells #[.slice ai G.init.length ci, .slice ae G.edges.length ce, .slice al G.labels.length cl, .slice as_ sets.length cs, .int .i64 A.sets, .slice bi A.init.length di, .slice bn A.nodes.length dn] TRP)) := balloc (Below.refl _ _) _
  have rp5 : Hid (RowAt (w4.alloc (.cells #[.slice ai G.init.length ci, .slice ae G.edges.length ce, .slice al G.labels.length cl, .slice as_ sets.length cs, .int .i64 A.sets, .slice bi A.init.length di, .slice bn A.nodes.length dn] TRP)) w4.heap.size TRP [.slice ai G.init.length ci, .slice ae G.edges.length ce, .slice al G.labels.length cl, .slice as_ sets.length cs, .int .i64 A.sets, .slice bi A.init.length di, .slice bn A.nodes.length dn]) := RowAt.new #[_, _, _, _, _, _, _] rfl
  have rr5 := Lib.hid (rr.out.below (btrans hb4 hb5))
  have hbW := Lib.hid (btrans hb3.out (btrans hb4 hb5))
  clear g0 g1 g2 a0 a1 a2 RN rr hb3 hb4 hb5
  go_upto_if 37 with (fail)
  generalize w4.alloc (.cells #[.slice ai G.init.length ci, .slice ae G.edges.length ce, .slice al G.labels.length cl, .slice as_ sets.length cs, .int .i64 A.sets, .slice bi A.init.length di, .slice bn A.nodes.length dn] TRP) = W at rp5 rr5 hbW ⊢
  generalize w4.heap.size = g7 at rp5 ⊢
  go_cut [3] (fun v wx => v = .int .i64 mm ∧ wx = W)
  case first =>
    by_cases h6 : m > 65536
    · have h6' : decide (65536 < m) = true := by simpa using h6
      have hm6 : Hid (mm = 65536) := by show _ = _; rw [hmm.out]; unfold most'; rw [if_pos h6]
      go_wp2
      go_meet
      exact ⟨by rw [hm6.out], rfl⟩
    · have h6' : decide (65536 < m) = false := by simpa using h6
      have hm6 : Hid (mm = m) := by show _ = _; rw [hmm.out]; unfold most'; rw [if_neg h6]
      go_wp2
      go_meet
      exact ⟨by rw [hm6.out], rfl⟩
  case rest =>
    obtain ⟨rfl, rfl⟩ := hcut
    obtain ⟨W, hWW⟩ : ∃ W, W = wc := ⟨_, rfl⟩
    subst hWW
    have hR7 : Hid (∀ w', Below W.heap.size W w' → w'.cell? ⟨g7, 0, none⟩ = some (.slice ai G.init.length ci) ∧ w'.cell? ⟨g7, 1, none⟩ = some (.slice ae G.edges.length ce) ∧ w'.cell? ⟨g7, 2, none⟩ = some (.slice al G.labels.length cl) ∧ w'.cell? ⟨g7, 3, none⟩ = some (.slice as_ sets.length cs) ∧ w'.cell? ⟨g7, 4, none⟩ = some (.int .i64 A.sets) ∧ w'.cell? ⟨g7, 5, none⟩ = some (.slice bi A.init.length di) ∧ w'.cell? ⟨g7, 6, none⟩ = some (.slice bn A.nodes.length dn)) := fun w' hb => by
      have h1 := rp5.out.below hb
      exact ⟨h1.cell 0, h1.cell 1, h1.cell 2, h1.cell 3, h1.cell 4, h1.cell 5, h1.cell 6⟩
    obtain ⟨p0, p1, p2, p3, p4, p5, p6⟩ := hR7.out W (Below.refl _ _)
    go_wp2_with fail
    refine (FI.out W hbW.out).mono ?_
    rintro e w6 ⟨a1, c1, rfl, hq6, hb6⟩
    clear p0 p1 p2 p3 p4 p5 p6 FI
    have hn1i : (n1 : Int) ≤ 400 := by omega
    by_cases hbig : mm < (n1 : Int)
    · have hr : Hid (res = none) := by show _ = _; rw [hres.out, if_pos hbig]
      have hbd : decide (mm < (n1 : Int)) = true := by simpa using hbig
      have rr4 := Lib.hid (rr5.out.below hb6)
      have c0 : w6.cell? ⟨w.heap.size + 1 + 1, 0, none⟩ = some (.slice none 0 0) := rr4.out.cell 0
      have c1' : w6.cell? ⟨w.heap.size + 1 + 1, 1, none⟩ = some (.slice none 0 0) := rr4.out.cell 1
      have c2 : w6.cell? ⟨w.heap.size + 1 + 1, 2, none⟩ = some (.slice none 0 0) := rr4.out.cell 2
      have f0 := rr4.out.free 0
      have f1 := rr4.out.free 1
      have f2 := rr4.out.free 2
      have hbz := Lib.hid (btrans hbW.out hb6)
      clear hbig hq6 hb6
      go_wp2
      refine bodyPost_ret (v := .tuple #[.agg #[.slice none 0 0, .slice none 0 0, .slice none 0 0], .slice none 0 0, .slice none 0 0, .int .i64 11]) (by simp [results, Try.results27, go_sem, c0, c1', c2]) rfl (.inl ⟨hr.out, whole_err 11 ?_⟩)
      exact bsetN (bsetN (bsetN hbz.out (by omega)) (by omega)) (by omega)
    · have hbd : decide (mm < (n1 : Int)) = false := by simpa using hbig
      have hres2 : Hid (wholeL G sets A mm 65540 0 ⟨L1, [], [], []⟩ = res) := by show _ = _; rw [hres.out, if_neg hbig]
      have hmn : (n1 : Int) ≤ mm := by omega
      have hb7 : Below w6.heap.size w6 (w6.alloc (.cells #[.slice none 0 0, .slice none 0 0, .slice none 0 0] TG)) := balloc (Below.refl _ _) _
      have gr7 : Hid (RowAt (w6.alloc (.cells #[.slice none 0 0, .slice none 0 0, .slice none 0 0] TG)) w6.heap.size TG [.slice none 0 0, .slice none 0 0, .slice none 0 0]) := RowAt.new #[_, _, _] rfl
      have hbW7 := Lib.hid (btrans hbW.out (btrans hb6 hb7))
      have hq7 := Lib.hid (OwnR.keeps (S := fun _ => False) hq6 (Keeps.of_below hb7) (fun _ _ h => h))
      obtain ⟨p0, p1, p2, p3, p4, p5, p6⟩ := hR7.out _ (btrans hb6 hb7)
      have hlt6 : Hid (∀ j, OB a1 L1.length c1 = some j → j < w6.heap.size) := fun j hj => (OwnR.lt hq6 hj).2
      have hsz6 := hb6.size
      have hb67 := Lib.hid (btrans hb6 hb7)
      have hz7 : (w6.alloc (.cells #[.slice none 0 0, .slice none 0 0, .slice none 0 0] TG)).heap.size = w6.heap.size + 1 := by simp
      replace hz7 := Lib.hid hz7
      clear hbig hres hq6 hb6 hb7
      go_wp2_with fail
      generalize w6.alloc (.cells #[.slice none 0 0, .slice none 0 0, .slice none 0 0] TG) = w7 at gr7 hbW7 hq7 p0 p1 p2 p3 p4 p5 p6 hb67 hz7 ⊢
      generalize w6.heap.size = gB at gr7 hlt6 hsz6 hz7 ⊢
      refine (TT.out w7 hbW7.out).mono ?_
      rintro e w8 ⟨pb, rfl, ht8, hpb, hb8⟩
      have st0 : Hid (WSt W TRq gB pb 0 0 W (TB (List.replicate N 0)) (.slice none 0 0) (.slice none 0 0) (.slice none 0 0) ⟨none, 0, none, 0, none, 0, a1, c1, none, 0, none, 0⟩ ⟨[], [], [], L1, [], []⟩ w8) := by
        have hz := hz7.out
        have hgl := gr7.out.lt
        refine WSt.start2 (btrans hb67.out hb8) (gr7.out.below hb8) ht8 ht8.lt hsz6 (by omega) (by omega) (OwnR.keeps (S := fun _ => False) hq7.out (Keeps.of_below hb8) (fun _ _ h => h)) (fun j hj => by have := hlt6.out j hj; omega)
      clear p0 p1 p2 p3 p4 p5 p6 TT ht8 hpb hb8 gr7 hq7 hlt6 hz7 hbW7 hb67 hbd
      go_wp2
      go_loopw [18] (fun iv wr => ∃ (i : Nat) (ia : Option Addr) (ic : Nat) (tab : List Int), i ≤ n1 ∧ iv = .int .i64 i ∧ Hid (TabOk G sets A tab (L1.take i)) ∧ Hid (WSt W TRq gB pb 0 0 W (TB tab) (.slice ia i ic) (.slice none 0 0) (.slice none 0 0) ⟨ia, ic, none, 0, none, 0, a1, c1, none, 0, none, 0⟩ ⟨upTo i, [], [], L1, [], []⟩ wr)) (fun iv _ => n1 - (intOf iv).toNat)
      case atStart => exact ⟨0, none, 0, _, Nat.zero_le _, rfl, TOK.out, st0.out⟩
      case round =>
        obtain ⟨i, ia, ic, tab, hi, rfl, htab, st⟩ := hrel
        clear st0 TOK
        by_cases hil : i < n1
        · have hi2 : (i : Int) < (n1 : Int) := by omega
          have hiL : i < L1.length := by have := hn1.out; omega
          have g0 : wr.cell? ⟨gB, 0, none⟩ = some (.slice ia i ic) := st.out.g.cell 0
          have hAl : Hid (Below wr.heap.size wr (wr.alloc (.cells #[.int .i64 i] TyI))) := balloc (Below.refl _ _) _
          have hz6 : Hid ((wr.alloc (.cells #[.int .i64 i] TyI)).heap.size = wr.heap.size + 1) := by show _ = _; simp
          have OW : Hid (OwnR (wr.alloc (.cells #[.int .i64 i] TyI)) W.heap.size TyI 1 ia i ic ((upTo i).map (.int .i64))) := by
            have h1 := (st.out.below hAl.out).i
            simp only [upTo_len] at h1
            exact h1
          have nc : Hid (∀ k u, [Value.int .i64 i][k]? = some u → (wr.alloc (.cells #[.int .i64 i] TyI)).cell? ((⟨wr.heap.size, 0, none⟩ : Addr).add k) = some u) := new_cells wr #[.int .i64 i] TyI rfl
          have oc : Hid (∀ u ∈ [Value.int .i64 i], u.oneCell' = true) := fun u hu => by simp at hu; rw [hu]; rfl
          have n5 : Hid (i + 1 ≤ maxLen) := by show _ ≤ _; unfold maxLen; omega
          have y5 : Hid ((i + 1) * 8 ≤ 140737488355328) := by show _ ≤ _; omega
          have hBA : Hid (W.heap.size ≤ (wr.alloc (.cells #[.int .i64 i] TyI)).heap.size) := Nat.le_trans st.out.bel.size hAl.out.size
          have hxv := l1v.out _ (List.getElem_mem hiL)
          have hxn : Hid (L1[i] ∉ L1.take i) := fun hm => by
            obtain ⟨k, hk, e⟩ := List.mem_iff_getElem.1 hm
            rw [List.length_take] at hk
            rw [List.getElem_take] at e
            have := (List.getElem_inj l1n.out).1 e
            omega
          have htk : L1.take (i + 1) = L1.take i ++ [L1[i]] := by rw [List.take_add_one, List.getElem?_eq_getElem hiL]; rfl
          have hkN := hNpos.out _ hxv
          have htab2 : Hid (TabOk G sets A (tab.set (slotP sets A L1[i]) ((i : Int) + 1)) (L1.take (i + 1))) := by
            have h1 := htab.out.add (fun y hy => l1v.out y (List.mem_of_mem_take hy)) hxv hxn.out
            rw [List.length_take, Nat.min_eq_left (by omega)] at h1
            show TabOk _ _ _ _ _
            rw [htk]
            exact h1
          have hNp : 0 < (N : Int) := by omega
          replace htk := Lib.hid htk
          go_wp2_with (at_builtin; refine wp_appR rfl _ _ 22 TyI (.int .i64 0) 1 8 rfl Try.underlying22 infoI rfl (by decide) W.heap.size ia i ic ((upTo i).map (.int .i64)) rfl OW.out wr.heap.size 1 [.int .i64 i] rfl rfl nc.out oc.out n5.out y5.out hBA.out ?_)
          intro ia' ic' w10 ho7 hg7 hat7
          have st7 := WSt.toI (ia' := ia') (ic' := ic') (xs := upTo (i + 1)) st.out hAl.out (by rw [upTo_len]; exact hg7) (by
            rw [upTo_len, upTo_succ]
            show OwnR _ _ _ _ _ _ _ _
            rw [List.map_append]
            exact ho7) (by rw [upTo_len, upTo_len]; exact fresh_of hAl.out (by rw [hz6.out]; exact hat7))
          have k0 : w10.cell? ⟨gB, 0, none⟩ = some (.slice ia i ic) := st7.g.cell 0
          have f0 : w10.frozen? ⟨gB, 0, none⟩ = false := st7.g.free 0
          have st8 := Lib.hid (st7.g0 (.slice ia' (i + 1) ic'))
          clear st7 ho7 hg7 hat7 hAl OW nc oc n5 y5 hBA hz6 st g0
          go_wp2_with fail
          generalize w10.setCell ⟨gB, 0, none⟩ (.slice ia' (i + 1) ic') = w11 at st8 ⊢
          obtain ⟨p0, p1, p2, p3, p4, p5, p6⟩ := hR7.out w11 st8.out.bel
          obtain ⟨ga, hga, _, _, x0, x1, x2⟩ := st8.out.q.at i hiL
          simp only at hga x0 x1 x2
          obtain rfl := hga
          obtain ⟨k, hk⟩ : ∃ k, k = slotP sets A L1[i] := ⟨_, rfl⟩
          have SL2 := SL.out w11.drew (btrans hbW.out st8.out.bel).drew L1[i] hxv
          rw [← hk] at SL2 hkN htab2
          generalize L1[i] = x at x0 x1 x2 SL2 hk
          obtain ⟨xn, xs, xt⟩ := x
          simp only at x0 x1 x2 SL2
          replace SL2 := Lib.hid SL2
          replace hk := Lib.hid hk
          have hkl : Hid (k < tab.length) := by show _ < _; rw [htab.out.1]; have := hN.out; omega
          have hki : (k : Int) < (N : Int) := by omega
          have hMM : Hid (∀ w', Below w11.heap.size w11 w' → ∃ v, w'.cell? ⟨pb, k, none⟩ = some (.int .i64 v) ∧ w'.frozen? ⟨pb, k, none⟩ = false) := fun w' hb => by
            have hr : RowAt w' pb TyI (tab.map (.int .i64)) := (st8.out.below hb).m
            exact ⟨tab[k]'hkl.out, by rw [hr.cell]; simp [hkl.out], hr.free k⟩
          clear hxv hxn
          go_region_law (first
            | (go_simp; go_at_call 57; (with_reducible refine SL2.out.mono ?_); rintro e w12 ⟨rfl, hb12⟩; have K1 : Below w11.heap.size w11 w12 := ⟨hb12.os, hb12.tape, hb12.output, hb12.size, hb12.block⟩; obtain ⟨vold, cold, fold_⟩ := hMM.out w12 K1))
          all_goals (
            have stc := Lib.hid ((st8.out.below K1).setT k ((i : Int) + 1))
            clear st8 hMM SL2 x0 x1 x2 p0 p1 p2 p3 p4 p5 p6 cold fold_
            go_wp2
            go_roundw
            case rel => exact ⟨i + 1, ia', ic', _, by omega, by go_num, htab2.out, stc.out⟩
            case measure => simp [intOf]; omega)
        · obtain rfl : i = n1 := by omega
          have htab2 : Hid (TabOk G sets A tab L1) := by
            have h1 := htab.out
            rw [List.take_of_length_le (by have := hn1.out; omega)] at h1
            exact h1
          have st1 := Lib.hid st.out
          clear st htab
          go_wp2
          go_loopw [9, 10, 11, 14, 16, 19] (fun av bv cv qv dv iv wr => ∃ (i' nl : Nat) (ea : Option Addr) (ec : Nat) (la : Option Addr) (lc : Nat) (qa : Option Addr) (qc : Nat) (ba : Option Addr) (bc : Nat) (S : List ER) (labs : List Nat) (l : List PP) (ins : List Bool) (tab : List Int),
            av = .slice none 0 0 ∧ bv = .slice none 0 0 ∧ cv = .int .i64 0 ∧ qv = .slice qa nl qc ∧ dv = .slice ba i' bc ∧ iv = .int .i64 i' ∧ i' ≤ nl ∧ (nl : Int) ≤ mm ∧ Hid (S.length = i' ∧ labs.length = i' ∧ ins.length = i' ∧ l.length = nl) ∧ Hid (∀ x ∈ l, vPP G sets A x) ∧ Hid (wholeL G sets A mm (65540 - i') i' ⟨l, rowsOf S, labs, ins⟩ = res) ∧ Hid (TabOk G sets A tab l) ∧
            Hid (WSt W TRq gB pb 0 0 W (TB tab) (.slice ia i ic) (.slice ea i' ec) (.slice la i' lc) ⟨ia, ic, ea, ec, la, lc, qa, qc, ba, bc, none, 0⟩ ⟨upTo i, S, labs, l, ins, []⟩ wr)) (fun _ _ _ _ _ iv _ => 65540 - (intOf iv).toNat)
          case atStart => exact ⟨0, i, none, 0, none, 0, a1, c1, none, 0, [], [], L1, [], tab, rfl, rfl, rfl, rfl, rfl, rfl, Nat.zero_le _, hmn, ⟨rfl, rfl, rfl, hn1.out.symm⟩, l1v.out, hres2.out, htab2.out, st1.out⟩
          case round =>
            obtain ⟨j, nl, ea, ec, la, lc, qa, qc, ba, bc, S, labs, l, ins, tab, rfl, rfl, rfl, rfl, rfl, rfl, hil3, hnm, hlen, hlv, hwl, htb, st⟩ := hrel
            clear st1 hres2 htab2
            have hj6 : j ≤ 65536 := by omega
            have hnl6 : (nl : Int) ≤ 65536 := by omega
            by_cases hlt : j < nl
            · have hi2 : (j : Int) < (nl : Int) := by omega
              have hll : j < l.length := by have := hlen.out.2.2.2; omega
              obtain ⟨x, hx⟩ : ∃ x, x = l[j] := ⟨_, rfl⟩
              obtain ⟨ys, hys⟩ : ∃ ys, ys = nextP G sets A x := ⟨_, rfl⟩
              obtain ⟨ny, hny⟩ : ∃ n, n = ys.length := ⟨_, rfl⟩
              have hyb : ny ≤ 144 := by rw [hny, hys]; exact nextP_len lt.out x
              have hyv : Hid (∀ y ∈ ys, vPP G sets A y) := by rw [hys]; exact next_valid hgk.out hc.out x
              obtain ⟨g, hqa, hgw, hgl, x0, x1, x2⟩ := st.out.q.at j hll
              simp only at hqa x0 x1 x2
              subst hqa
              rw [← hx] at x0 x1 x2
              obtain ⟨xn, xs, xt⟩ := x
              simp only at x0 x1 x2
              have NX : Hid (∀ w', Below w.heap.size w w' → Calls Try.prog 25 #[.agg #[.slice ai G.init.length ci, .slice ae G.edges.length ce, .slice al G.labels.length cl, .slice as_ sets.length cs, .int .i64 A.sets, .slice bi A.init.length di, .slice bn A.nodes.length dn], .agg #[.int .i64 xn, .int .i64 xs, .int .i64 xt]] w' fun e w2 => ∃ a c, e = .returned (.slice a ny c) ∧ OwnQ w2 w'.heap.size TRq a c ys ∧ Below w'.heap.size w' w2) := fun w' hb => by
                have := rnext_any w' _ G sets A (PA.out w' hb) ⟨xn, xs, xt⟩
                rw [← hys] at this
                rw [hny]
                exact this
              have hover : Hid (∀ k, mm < ((rowQ G sets A ⟨xn, xs, xt⟩ l (ys.take k)).1.length : Int) → res = none) := fun k hk => by
                rw [← hwl.out]
                exact wholeL_over (s := ⟨l, rowsOf S, labs, ins⟩) hll hx hys (by show ((l.length : Nat) : Int) ≤ mm; rw [hlen.out.2.2.2]; exact hnm) hj6 hk
              have hwl2 : Hid (wholeL G sets A mm (65539 - j) (j + 1) (stepW G sets A ⟨xn, xs, xt⟩ ⟨l, rowsOf S, labs, ins⟩) = res) := by
                show _ = _
                rw [← hwl.out, show 65540 - j = (65539 - j) + 1 by omega]
                rw [wholeL_step (s := ⟨l, rowsOf S, labs, ins⟩) hll (by show ¬ mm < ((l.length : Nat) : Int); rw [hlen.out.2.2.2]; omega)]
                rw [← hx]
              replace hx := Lib.hid hx
              replace hys := Lib.hid hys
              replace hny := Lib.hid hny
              have hSB : Hid (∀ w', Below wr.heap.size wr w' → w'.cell? ⟨g7, 0, none⟩ = some (.slice ai G.init.length ci) ∧ w'.cell? ⟨g7, 1, none⟩ = some (.slice ae G.edges.length ce) ∧ w'.cell? ⟨g7, 2, none⟩ = some (.slice al G.labels.length cl) ∧ w'.cell? ⟨g7, 3, none⟩ = some (.slice as_ sets.length cs) ∧ w'.cell? ⟨g7, 4, none⟩ = some (.int .i64 A.sets) ∧ w'.cell? ⟨g7, 5, none⟩ = some (.slice bi A.init.length di) ∧ w'.cell? ⟨g7, 6, none⟩ = some (.slice bn A.nodes.length dn) ∧ w'.cell? ⟨g, j * 3, none⟩ = some (.int .i64 xn) ∧ w'.cell? ⟨g, j * 3 + 1, none⟩ = some (.int .i64 xs) ∧ w'.cell? ⟨g, j * 3 + 2, none⟩ = some (.int .i64 xt)) := fun w' hb => by
                obtain ⟨h0, h1, h2, h3, h4, h5, h6⟩ := hR7.out w' (btrans st.out.bel hb)
                exact ⟨h0, h1, h2, h3, h4, h5, h6, bcell hb x0, bcell hb x1, bcell hb x2⟩
              clear hwl x0 x1 x2
              obtain ⟨p0, p1, p2, p3, p4, p5, p6, x0, x1, x2⟩ := hSB.out wr (Below.refl _ _)
              go_wp2
              go_region_held3 (fun w' => w'.cell? ⟨g7, 0, none⟩ = some (.slice ai G.init.length ci) ∧ w'.cell? ⟨g7, 1, none⟩ = some (.slice ae G.edges.length ce) ∧ w'.cell? ⟨g7, 2, none⟩ = some (.slice al G.labels.length cl) ∧ w'.cell? ⟨g7, 3, none⟩ = some (.slice as_ sets.length cs) ∧ w'.cell? ⟨g7, 4, none⟩ = some (.int .i64 A.sets) ∧ w'.cell? ⟨g7, 5, none⟩ = some (.slice bi A.init.length di) ∧ w'.cell? ⟨g7, 6, none⟩ = some (.slice bn A.nodes.length dn) ∧ w'.cell? ⟨g, j * 3, none⟩ = some (.int .i64 xn) ∧ w'.cell? ⟨g, j * 3 + 1, none⟩ = some (.int .i64 xs) ∧ w'.cell? ⟨g, j * 3 + 2, none⟩ = some (.int .i64 xt)) (first | exact hSB.out _ K1 | exact hSB.out _ (Below.refl _ _) | exact hSB.out _ (Below.refl _ _).drew) (first
                | (go_at_call 25; (with_reducible refine (NX.out _ (btrans hbW.out st.out.bel).drew).mono ?_); rintro e w10 ⟨a2, c2, rfl, hq10, hb10⟩; have K1 : Below wr.heap.size wr w10 := ⟨hb10.os, hb10.tape, hb10.output, hb10.size, hb10.block⟩; replace hq10 := Lib.hid hq10))
              have st10 := Lib.hid (st.out.snap K1)
              have hP2 := Lib.hid (PpsAt.of_own hq10.out)
              have hA2 : Hid (∀ ad, a2 = some ad → wr.heap.size ≤ ad.block ∧ ad.block < w10.heap.size) := fun ad had => OwnR.lt hq10.out (j := ad.block) (by rw [had]; rfl)
              obtain ⟨lo2, hlo2⟩ : ∃ x, x = wr.heap.size := ⟨_, rfl⟩
              obtain ⟨hi2_, hhi2⟩ : ∃ x, x = w10.heap.size := ⟨_, rfl⟩
              rw [← hlo2, ← hhi2] at st10 hA2
              clear hq10 hb10 st hlo2 hhi2 x0 x1 x2 NX p0 p1 p2 p3 p4 p5 p6 hSB K1
              go_wp2
              go_loopw [9, 10, 11, 14, 20, 22] (fun av bv cv qv rv kv wr => ∃ (k n2 : Nat) (qa : Option Addr) (qc : Nat) (ra : Option Addr) (rc : Nat) (tab : List Int), av = .slice none 0 0 ∧ bv = .slice none 0 0 ∧ cv = .int .i64 0 ∧ k ≤ ny ∧ kv = .int .i64 k ∧ qv = .slice qa n2 qc ∧ rv = .slice ra k rc ∧ nl ≤ n2 ∧ (n2 : Int) ≤ mm ∧ Hid ((rowQ G sets A ⟨xn, xs, xt⟩ l (ys.take k)).1.length = n2) ∧ Hid (TabOk G sets A tab (rowQ G sets A ⟨xn, xs, xt⟩ l (ys.take k)).1) ∧
                Hid (WSt W TRq gB pb lo2 hi2_ w10 (TB tab) (.slice ia i ic) (.slice ea j ec) (.slice la j lc) ⟨ia, ic, ea, ec, la, lc, qa, qc, ba, bc, ra, rc⟩ ⟨upTo i, S, labs, (rowQ G sets A ⟨xn, xs, xt⟩ l (ys.take k)).1, ins, (rowQ G sets A ⟨xn, xs, xt⟩ l (ys.take k)).2⟩ wr)) (fun _ _ _ _ _ kv _ => ny - (intOf kv).toNat)
              case atStart => exact ⟨0, nl, _, qc, none, 0, tab, rfl, rfl, rfl, Nat.zero_le _, rfl, rfl, rfl, Nat.le_refl _, hnm, hlen.out.2.2.2, htb.out, st10.out⟩
              case round =>
                obtain ⟨k, n2, qa, qc, ra, rc, tab, rfl, rfl, rfl, hk, rfl, rfl, rfl, hn2a, hn2b, hn2, htb2, st⟩ := hrel
                clear st10 htb
                have hn26 : (n2 : Int) ≤ 65536 := by omega
                by_cases hkl : k < ny
                · have hk2 : (k : Int) < (ny : Int) := by omega
                  have hkL : k < ys.length := by have := hny.out; omega
                  have hin2 : (j : Int) < (n2 : Int) := by omega
                  obtain ⟨b, off, rfl, hbl, y0, y1, y2⟩ := (st.out.pps hP2.out hA2.out).at k hkL
                  have hyk := hyv.out _ (List.getElem_mem hkL)
                  have hsn := rowQ_snoc G sets A ⟨xn, xs, xt⟩ l (ys.take k) ys[k]
                  have htk : ys.take (k + 1) = ys.take k ++ [ys[k]] := by rw [List.take_add_one, List.getElem?_eq_getElem hkL]; rfl
                  rw [← htk] at hsn
                  have hold := rowQ_old G sets A ⟨xn, xs, xt⟩ l (ys.take k) hll
                  have hrl := rowQ_row G sets A ⟨xn, xs, xt⟩ l (ys.take k)
                  rw [List.length_take, Nat.min_eq_left (by omega)] at hrl
                  rw [← hx.out] at hold
                  have hRv := rowQ_all G sets A ⟨xn, xs, xt⟩ hlv.out (fun y hy => hyv.out y (List.mem_of_mem_take (l := ys) (i := k) hy))
                  generalize ys[k] = y at y0 y1 y2 hyk hsn
                  obtain ⟨yn, ys_, yt⟩ := y
                  simp only at y0 y1 y2
                  obtain ⟨R, hR⟩ : ∃ R, R = rowQ G sets A ⟨xn, xs, xt⟩ l (ys.take k) := ⟨_, rfl⟩
                  rw [← hR] at hold hrl hsn hn2 st htb2 hRv
                  have hil4 : j < R.1.length := by have := hn2.out; omega
                  obtain ⟨g2, hqa, hgw2, hgl2, x0, x1, x2⟩ := st.out.q.at j hil4
                  have hRi : R.1[j] = (⟨xn, xs, xt⟩ : PP) := by
                    rw [List.getElem?_eq_getElem hil4] at hold
                    exact Option.some.inj hold
                  simp only at hqa x0 x1 x2
                  clear x0 x1 x2
                  subst hqa
                  obtain ⟨u, v, huv, hact⟩ := edv_act (edgeP G sets A ⟨xn, xs, xt⟩ ⟨yn, ys_, yt⟩)
                  obtain ⟨bb, hbb⟩ : ∃ b, b = (edgeP G sets A ⟨xn, xs, xt⟩ ⟨yn, ys_, yt⟩).isSome := ⟨_, rfl⟩
                  have ED : Hid (∀ w', Below w.heap.size w w' → Calls Try.prog 47 #[.agg #[.slice ai G.init.length ci, .slice ae G.edges.length ce, .slice al G.labels.length cl, .slice as_ sets.length cs, .int .i64 A.sets, .slice bi A.init.length di, .slice bn A.nodes.length dn], .agg #[.int .i64 xn, .int .i64 xs, .int .i64 xt], .agg #[.int .i64 yn, .int .i64 ys_, .int .i64 yt]] w' fun e w2 => e = .returned (.tuple #[.agg #[.int .i64 u, .int .i64 v], .bool bb]) ∧ Below w'.heap.size w' w2) := fun w' hb => by
                    have := redge_any w' _ G sets A (PA.out w' hb) ⟨xn, xs, xt⟩ ⟨yn, ys_, yt⟩
                    rw [huv, ← hbb] at this
                    exact this
                  obtain ⟨Q, hQ⟩ : ∃ Q, Q = numQ R.1 ⟨yn, ys_, yt⟩ := ⟨_, rfl⟩
                  have hQl := numQ_len R.1 ⟨yn, ys_, yt⟩
                  rw [← hQ, hn2.out] at hQl
                  have hsn2 : Hid (rowQ G sets A ⟨xn, xs, xt⟩ l (ys.take (k + 1)) = (Q.1, R.2 ++ [((Q.2 : Int), v)])) := by
                    show _ = _
                    rw [hsn, ← hact, hQ]
                    rfl
                  obtain ⟨l3, q3⟩ := Q
                  simp only at hQl hsn2
                  obtain ⟨n3, hn3⟩ : ∃ n, n = l3.length := ⟨_, rfl⟩
                  rw [← hn3] at hQl
                  have hSB : Hid (∀ w', Below wr.heap.size wr w' → w'.cell? ⟨g7, 0, none⟩ = some (.slice ai G.init.length ci) ∧ w'.cell? ⟨g7, 1, none⟩ = some (.slice ae G.edges.length ce) ∧ w'.cell? ⟨g7, 2, none⟩ = some (.slice al G.labels.length cl) ∧ w'.cell? ⟨g7, 3, none⟩ = some (.slice as_ sets.length cs) ∧ w'.cell? ⟨g7, 4, none⟩ = some (.int .i64 A.sets) ∧ w'.cell? ⟨g7, 5, none⟩ = some (.slice bi A.init.length di) ∧ w'.cell? ⟨g7, 6, none⟩ = some (.slice bn A.nodes.length dn) ∧ w'.cell? ⟨b, off + k * 3, none⟩ = some (.int .i64 yn) ∧ w'.cell? ⟨b, off + k * 3 + 1, none⟩ = some (.int .i64 ys_) ∧ w'.cell? ⟨b, off + k * 3 + 2, none⟩ = some (.int .i64 yt)) := fun w' hb => by
                    obtain ⟨h0, h1, h2, h3, h4, h5, h6⟩ := hR7.out w' (btrans st.out.bel hb)
                    exact ⟨h0, h1, h2, h3, h4, h5, h6, bcell hb y0, bcell hb y1, bcell hb y2⟩
                  obtain ⟨hbl1, hbl2⟩ := hA2.out _ rfl
                  have hY : Hid (∀ w' : World, w'.heap[b]? = w10.heap[b]? → w'.cell? ⟨b, off + k * 3, none⟩ = some (.int .i64 yn) ∧ w'.cell? ⟨b, off + k * 3 + 1, none⟩ = some (.int .i64 ys_) ∧ w'.cell? ⟨b, off + k * 3 + 2, none⟩ = some (.int .i64 yt)) := fun w' he => by
                    have hk0 : ∀ o, w'.cell? ⟨b, o, none⟩ = wr.cell? ⟨b, o, none⟩ := fun o => World.cell?_of_block (a := ⟨b, o, none⟩) (he.trans (st.out.z hbl1 hbl2).symm)
                    exact ⟨(hk0 _).trans y0, (hk0 _).trans y1, (hk0 _).trans y2⟩
                  have AT := rat_any wr.drew _ G sets A (PA.out wr.drew (btrans hbW.out st.out.bel).drew) ⟨yn, ys_, yt⟩ hyk pb N tab R.1 st.out.drew.m htb2.out hN.out (by rw [hn2.out]; omega) (.slice (some ⟨g2, 0, none⟩) n2 qc)
                  replace AT := Lib.hid AT
                  replace hR := Lib.hid hR
                  replace hn3 := Lib.hid hn3
                  replace hrl := Lib.hid hrl
                  replace hRi := Lib.hid hRi
                  replace hRv := Lib.hid hRv
                  have hNp : 0 < (N : Int) := by have := hNpos.out _ hyk; omega
                  clear hsn htk hold huv hact hbb y0 y1 y2
                  obtain ⟨p0, p1, p2, p3, p4, p5, p6, y0, y1, y2⟩ := hSB.out wr (Below.refl _ _)
                  go_wp2
                  go_region_held3 (fun w' => w'.cell? ⟨g7, 0, none⟩ = some (.slice ai G.init.length ci) ∧ w'.cell? ⟨g7, 1, none⟩ = some (.slice ae G.edges.length ce) ∧ w'.cell? ⟨g7, 2, none⟩ = some (.slice al G.labels.length cl) ∧ w'.cell? ⟨g7, 3, none⟩ = some (.slice as_ sets.length cs) ∧ w'.cell? ⟨g7, 4, none⟩ = some (.int .i64 A.sets) ∧ w'.cell? ⟨g7, 5, none⟩ = some (.slice bi A.init.length di) ∧ w'.cell? ⟨g7, 6, none⟩ = some (.slice bn A.nodes.length dn) ∧ w'.cell? ⟨b, off + k * 3, none⟩ = some (.int .i64 yn) ∧ w'.cell? ⟨b, off + k * 3 + 1, none⟩ = some (.int .i64 ys_) ∧ w'.cell? ⟨b, off + k * 3 + 2, none⟩ = some (.int .i64 yt)) (first | exact hSB.out _ K1 | exact hSB.out _ (Below.refl _ _) | exact hSB.out _ (Below.refl _ _).drew) (first
                    | (go_at_call 58; (with_reducible refine AT.out.mono ?_); rintro e w11 ⟨rfl, hb11⟩; have K1 : Below wr.heap.size wr w11 := ⟨hb11.os, hb11.tape, hb11.output, hb11.size, hb11.block⟩))
                  have st11 := Lib.hid (st.out.below K1)
                  have hS1 : Hid (∀ w', Below w11.heap.size w11 w' → w'.cell? ⟨b, off + k * 3, none⟩ = some (.int .i64 yn) ∧ w'.cell? ⟨b, off + k * 3 + 1, none⟩ = some (.int .i64 ys_) ∧ w'.cell? ⟨b, off + k * 3 + 2, none⟩ = some (.int .i64 yt)) := fun w' hb => by
                    obtain ⟨_, _, _, _, _, _, _, h1, h2, h3⟩ := hSB.out w' (btrans K1 hb)
                    exact ⟨h1, h2, h3⟩
                  clear AT p0 p1 p2 p3 p4 p5 p6 y0 y1 y2 hSB st hb11 K1
                  go_upto_if 99 with (fail)
                  go_cut [9, 10, 11, 14, 23] (fun av bv cv qv nv wx => ∃ (qa : Option Addr) (qc : Nat) (tab : List Int), av = .slice none 0 0 ∧ bv = .slice none 0 0 ∧ cv = .int .i64 0 ∧ qv = .slice qa n3 qc ∧ nv = .int .i64 q3 ∧ (n3 : Int) ≤ mm ∧ Hid (TabOk G sets A tab l3) ∧ Hid (WSt W TRq gB pb lo2 hi2_ w10 (TB tab) (.slice ia i ic) (.slice ea j ec) (.slice la j lc) ⟨ia, ic, ea, ec, la, lc, qa, qc, ba, bc, ra, rc⟩ ⟨upTo i, S, labs, l3, ins, R.2⟩ wx))
                  case first =>
                    by_cases hin : (⟨yn, ys_, yt⟩ : PP) ∈ R.1
                    · have hq3 : Hid (l3 = R.1 ∧ q3 = R.1.idxOf ⟨yn, ys_, yt⟩) := by
                        have := hQ
                        unfold numQ at this
                        rw [if_pos hin] at this
                        show l3 = _ ∧ q3 = _
                        simpa using this
                      have hn23 : Hid (n2 = n3) := by show _ = _; rw [hn3.out, hq3.out.1]; exact hn2.out.symm
                      have hav : Hid (atP R.1 ⟨yn, ys_, yt⟩ = (q3 : Int)) := by show _ = _; unfold atP; rw [if_pos hin, hq3.out.2]
                      have h0 : ¬ atP R.1 ⟨yn, ys_, yt⟩ < 0 := by rw [hav.out]; omega
                      have h0' : decide (atP R.1 ⟨yn, ys_, yt⟩ < 0) = false := by simpa using h0
                      have stE : Hid (WSt W TRq gB pb lo2 hi2_ w10 (TB tab) (.slice ia i ic) (.slice ea j ec) (.slice la j lc) ⟨ia, ic, ea, ec, la, lc, some ⟨g2, 0, none⟩, qc, ba, bc, ra, rc⟩ ⟨upTo i, S, labs, l3, ins, R.2⟩ w11) := by rw [hq3.out.1]; exact st11.out
                      have htE : Hid (TabOk G sets A tab l3) := by rw [hq3.out.1]; exact htb2.out
                      clear hin st11 hQ
                      go_wp2
                      go_meet
                      exact ⟨_, qc, tab, rfl, rfl, rfl, by rw [hn23.out], by rw [hav.out], by rw [← hn23.out]; exact hn2b, htE.out, stE.out⟩
                    · have hq3 : Hid (l3 = R.1 ++ [⟨yn, ys_, yt⟩] ∧ q3 = R.1.length) := by
                        have := hQ
                        unfold numQ at this
                        rw [if_neg hin] at this
                        show l3 = _ ∧ q3 = _
                        simpa using this
                      have hn23 : Hid (n3 = n2 + 1) := by show _ = _; rw [hn3.out, hq3.out.1, List.length_append, hn2.out]; rfl
                      have hav : Hid (atP R.1 ⟨yn, ys_, yt⟩ = -1) := by show _ = _; unfold atP; rw [if_neg hin]
                      have h0 : atP R.1 ⟨yn, ys_, yt⟩ < 0 := by rw [hav.out]; omega
                      have h0' : decide (atP R.1 ⟨yn, ys_, yt⟩ < 0) = true := by simpa using h0
                      by_cases hge : mm ≤ (n2 : Int)
                      · have hr : Hid (res = none) := hover.out (k + 1) (by rw [hsn2.out]; show mm < ((l3.length : Nat) : Int); rw [← hn3.out, hn23.out]; omega)
                        have hged : decide (mm ≤ (n2 : Int)) = true := by simpa using hge
                        have hbr := st11.out.bel
                        have rr4 := Lib.hid (rr5.out.below hbr)
                        have c0 : w11.cell? ⟨w.heap.size + 1 + 1, 0, none⟩ = some (.slice none 0 0) := rr4.out.cell 0
                        have c1' : w11.cell? ⟨w.heap.size + 1 + 1, 1, none⟩ = some (.slice none 0 0) := rr4.out.cell 1
                        have c2' : w11.cell? ⟨w.heap.size + 1 + 1, 2, none⟩ = some (.slice none 0 0) := rr4.out.cell 2
                        have f0 := rr4.out.free 0
                        have f1 := rr4.out.free 1
                        have f2 := rr4.out.free 2
                        have hbz := Lib.hid (btrans hbW.out hbr)
                        clear hin st11 hQ hbr
                        go_wp2
                        refine bodyPost_ret (v := .tuple #[.agg #[.slice none 0 0, .slice none 0 0, .slice none 0 0], .slice none 0 0, .slice none 0 0, .int .i64 11]) (by simp [results, Try.results27, go_sem, c0, c1', c2']) rfl (.inl ⟨hr.out, whole_err 11 ?_⟩)
                        exact bsetN (bsetN (bsetN hbz.out (by omega)) (by omega)) (by omega)
                      · have hged : decide (mm ≤ (n2 : Int)) = false := by simpa using hge
                        obtain ⟨y0, y1, y2⟩ := hY.out w11 (st11.out.z hbl1 hbl2)
                        have hAl : Hid (Below w11.heap.size w11 (w11.alloc (.cells #[.int .i64 yn, .int .i64 ys_, .int .i64 yt] TRq))) := balloc (Below.refl _ _) _
                        have OW : Hid (OwnR (w11.alloc (.cells #[.int .i64 yn, .int .i64 ys_, .int .i64 yt] TRq)) W.heap.size TRq 3 (some ⟨g2, 0, none⟩) n2 qc (qcells R.1)) := by
                          have h1 := (st11.out.below hAl.out).q
                          unfold OwnQ at h1
                          simp only at h1
                          rw [hn2.out] at h1
                          exact h1
                        have nc : Hid (∀ q u, [Value.int .i64 yn, .int .i64 ys_, .int .i64 yt][q]? = some u → (w11.alloc (.cells #[.int .i64 yn, .int .i64 ys_, .int .i64 yt] TRq)).cell? ((⟨w11.heap.size, 0, none⟩ : Addr).add q) = some u) := new_cells w11 #[.int .i64 yn, .int .i64 ys_, .int .i64 yt] TRq rfl
                        have oc : Hid (∀ u ∈ [Value.int .i64 yn, .int .i64 ys_, .int .i64 yt], u.oneCell' = true) := fun u hu => by simp at hu; rcases hu with rfl | rfl | rfl <;> rfl
                        have n5 : Hid (n2 + 1 ≤ maxLen) := by show _ ≤ _; unfold maxLen; omega
                        have y5 : Hid ((n2 + 1) * 24 ≤ 140737488355328) := by show _ ≤ _; omega
                        have hBA : Hid (W.heap.size ≤ (w11.alloc (.cells #[.int .i64 yn, .int .i64 ys_, .int .i64 yt] TRq)).heap.size) := Nat.le_trans st11.out.bel.size hAl.out.size
                        have hz11 : Hid ((w11.alloc (.cells #[.int .i64 yn, .int .i64 ys_, .int .i64 yt] TRq)).heap.size = w11.heap.size + 1) := by show _ = _; simp
                        have htE : Hid (TabOk G sets A (tab.set (slotP sets A ⟨yn, ys_, yt⟩) ((n2 : Int) + 1)) l3) := by
                          have h1 := htb2.out.add hRv.out hyk hin
                          rw [hn2.out] at h1
                          show TabOk _ _ _ _ _
                          rw [hq3.out.1]
                          exact h1
                        have hkN := hNpos.out _ hyk
                        obtain ⟨q, hq⟩ : ∃ q, q = slotP sets A ⟨yn, ys_, yt⟩ := ⟨_, rfl⟩
                        have SLy := Lib.hid (fun w' hb => SL.out w' hb ⟨yn, ys_, yt⟩ hyk)
                        simp only [← hq] at SLy htE hkN
                        have hqi : (q : Int) < (N : Int) := by omega
                        have hql : Hid (q < tab.length) := by show _ < _; rw [htb2.out.1]; have := hN.out; omega
                        replace hq := Lib.hid hq
                        replace hyk := Lib.hid hyk
                        have hlt3 : Hid (((n2 + 1 : Nat) : Int) ≤ mm) := by show _ ≤ _; omega
                        clear hin hQ hge
                        go_wp2_with (at_builtin; refine wp_appR rfl _ _ 52 TRq (.agg #[.int .i64 0, .int .i64 0, .int .i64 0]) 3 24 rfl Try.underlying52 infoRq rfl (by decide) W.heap.size (some ⟨g2, 0, none⟩) n2 qc (qcells R.1) rfl OW.out w11.heap.size 1 [.int .i64 yn, .int .i64 ys_, .int .i64 yt] rfl rfl nc.out oc.out n5.out y5.out hBA.out ?_)
                        intro qa' qc' w12 ho12 hg12 hat12
                        have st12 := Lib.hid (WSt.snocQ (x := ⟨yn, ys_, yt⟩) (a' := qa') (c' := qc') st11.out hAl.out (by
                          show (w11.alloc (.cells #[.int .i64 yn, .int .i64 ys_, .int .i64 yt] TRq)).grownBy w12 (OB (some ⟨g2, 0, none⟩) R.1.length qc)
                          rw [hn2.out]; exact hg12) (by
                          show OwnR w12 W.heap.size TRq 3 qa' (R.1.length + 1) qc' (qcells R.1 ++ _)
                          rw [hn2.out]; exact ho12) (by
                          show Fresh w11 (OB (some ⟨g2, 0, none⟩) R.1.length qc) (OB qa' (R.1.length + 1) qc')
                          rw [hn2.out]
                          exact fresh_of hAl.out (by rw [hz11.out]; exact hat12)))
                        clear y0 y1 y2 ho12 hg12 hat12 hAl OW nc oc n5 y5 hBA hz11 st11
                        obtain ⟨y0, y1, y2⟩ := hY.out w12 (st12.out.z hbl1 hbl2)
                        obtain ⟨p0, p1, p2, p3, p4, p5, p6⟩ := hR7.out w12 st12.out.bel
                        have hMM : Hid (∀ w', Below w12.heap.size w12 w' → ∃ v, w'.cell? ⟨pb, q, none⟩ = some (.int .i64 v) ∧ w'.frozen? ⟨pb, q, none⟩ = false) := fun w' hb => by
                          have hr : RowAt w' pb TyI (tab.map (.int .i64)) := (st12.out.below hb).m
                          exact ⟨tab[q]'hql.out, by rw [hr.cell]; simp [hql.out], hr.free q⟩
                        have stF : Hid (∀ w', Below w12.heap.size w12 w' → WSt W TRq gB pb lo2 hi2_ w10 (TB (tab.set q ((n2 : Int) + 1))) (.slice ia i ic) (.slice ea j ec) (.slice la j lc) ⟨ia, ic, ea, ec, la, lc, qa', qc', ba, bc, ra, rc⟩ ⟨upTo i, S, labs, l3, ins, R.2⟩ (w'.setCell ⟨pb, q, none⟩ (.int .i64 (IntKind.i64.wrap ((n2 : Int) + 1))))) := fun w' hb => by
                          rw [show IntKind.i64.wrap ((n2 : Int) + 1) = (n2 : Int) + 1 from IntWalk.i64_in _ (by omega)]
                          have h1 := (st12.out.below hb).setT q ((n2 : Int) + 1)
                          rw [hq3.out.1]
                          exact h1
                        go_wp2
                        go_region_law (first
                          | (go_simp; go_at_call 57; (with_reducible refine (SLy.out w12.drew (btrans hbW.out st12.out.bel).drew).mono ?_); rintro e w13 ⟨rfl, hb13⟩; have K1 : Below w12.heap.size w12 w13 := ⟨hb13.os, hb13.tape, hb13.output, hb13.size, hb13.block⟩; obtain ⟨vold, cold, fold_⟩ := hMM.out w13 K1))
                        all_goals (
                          go_wp2_with fail
                          go_meet
                          exact ⟨qa', qc', _, rfl, rfl, rfl, by rw [hn23.out], by rw [hq3.out.2, hn2.out], by rw [hn23.out]; exact hlt3.out, htE.out, stF.out w13 K1⟩)
                  case rest =>
                    obtain ⟨qa, qc, tab3, rfl, rfl, rfl, rfl, rfl, hn3m, htb3, st3⟩ := hcut
                    have hn3' : Hid ((rowQ G sets A ⟨xn, xs, xt⟩ l (ys.take (k + 1))).1.length = n3) := by show _ = _; rw [hsn2.out]; exact hn3.out.symm
                    have hil5 : j < l3.length := by have := hn3.out; omega
                    have hl3x : Hid (l3[j] = (⟨xn, xs, xt⟩ : PP)) := by
                      have h1 := numQ_old (x := ⟨yn, ys_, yt⟩) hil4
                      rw [← hQ, hRi.out] at h1
                      rw [List.getElem?_eq_getElem hil5] at h1
                      exact Option.some.inj h1
                    obtain ⟨g3, hqa, hgw3, hgl3, x0, x1, x2⟩ := st3.out.q.at j hil5
                    simp only at hqa x0 x1 x2
                    rw [hl3x.out] at x0 x1 x2
                    simp only at x0 x1 x2
                    subst hqa
                    obtain ⟨y0, y1, y2⟩ := hY.out wc (st3.out.z hbl1 hbl2)
                    obtain ⟨p0, p1, p2, p3, p4, p5, p6⟩ := hR7.out wc st3.out.bel
                    have hb3l : b < wc.heap.size := World.block_lt_of_cell? wc _ y0
                    have hg3l : g3 < wc.heap.size := World.block_lt_of_cell? wc _ x0
                    have hg7l : g7 < wc.heap.size := World.block_lt_of_cell? wc _ p0
                    have hin4 : (j : Int) < (n3 : Int) := by omega
                    have hZ : Hid (∀ w12, Below (wc.alloc (.cells #[.int .i64 0, .int .i64 0] TE)).heap.size (wc.alloc (.cells #[.int .i64 0, .int .i64 0] TE)) w12 → RowAt w12 wc.heap.size TE [.int .i64 0, .int .i64 0]) := fun w12 hb => (RowAt.new #[_, _] rfl).below hb
                    have hn3i : (n3 : Int) ≤ 65536 := by omega
                    replace hQ := Lib.hid hQ
                    obtain ⟨wB, hwB⟩ : ∃ x, x = wc := ⟨_, rfl⟩
                    subst hwB
                    have hS34 : Hid (∀ w', Below wB.heap.size wB w' → w'.cell? ⟨g7, 0, none⟩ = some (.slice ai G.init.length ci) ∧ w'.cell? ⟨g7, 1, none⟩ = some (.slice ae G.edges.length ce) ∧ w'.cell? ⟨g7, 2, none⟩ = some (.slice al G.labels.length cl) ∧ w'.cell? ⟨g7, 3, none⟩ = some (.slice as_ sets.length cs) ∧ w'.cell? ⟨g7, 4, none⟩ = some (.int .i64 A.sets) ∧ w'.cell? ⟨g7, 5, none⟩ = some (.slice bi A.init.length di) ∧ w'.cell? ⟨g7, 6, none⟩ = some (.slice bn A.nodes.length dn) ∧ w'.cell? ⟨g3, j * 3, none⟩ = some (.int .i64 xn) ∧ w'.cell? ⟨g3, j * 3 + 1, none⟩ = some (.int .i64 xs) ∧ w'.cell? ⟨g3, j * 3 + 2, none⟩ = some (.int .i64 xt) ∧ w'.cell? ⟨b, off + k * 3, none⟩ = some (.int .i64 yn) ∧ w'.cell? ⟨b, off + k * 3 + 1, none⟩ = some (.int .i64 ys_) ∧ w'.cell? ⟨b, off + k * 3 + 2, none⟩ = some (.int .i64 yt)) := fun w' hb => ⟨bcell hb p0, bcell hb p1, bcell hb p2, bcell hb p3, bcell hb p4, bcell hb p5, bcell hb p6, bcell hb x0, bcell hb x1, bcell hb x2, bcell hb y0, bcell hb y1, bcell hb y2⟩
                    clear st11 hS1 htb2 hin2
                    go_upto_region 34 with (fail)
                    go_cut [24, 25] (fun pv bv wx => ∃ z, pv = .pointer (some ⟨z, 0, none⟩) ∧ Hid (RowAt wx z TE [.int .i64 u, .int .i64 v]) ∧ Hid (wB.heap.size ≤ z) ∧ Hid (Below wB.heap.size wB wx))
                    case first =>
                      go_region_held3 (fun w' => w'.cell? ⟨g7, 0, none⟩ = some (.slice ai G.init.length ci) ∧ w'.cell? ⟨g7, 1, none⟩ = some (.slice ae G.edges.length ce) ∧ w'.cell? ⟨g7, 2, none⟩ = some (.slice al G.labels.length cl) ∧ w'.cell? ⟨g7, 3, none⟩ = some (.slice as_ sets.length cs) ∧ w'.cell? ⟨g7, 4, none⟩ = some (.int .i64 A.sets) ∧ w'.cell? ⟨g7, 5, none⟩ = some (.slice bi A.init.length di) ∧ w'.cell? ⟨g7, 6, none⟩ = some (.slice bn A.nodes.length dn) ∧ w'.cell? ⟨g3, j * 3, none⟩ = some (.int .i64 xn) ∧ w'.cell? ⟨g3, j * 3 + 1, none⟩ = some (.int .i64 xs) ∧ w'.cell? ⟨g3, j * 3 + 2, none⟩ = some (.int .i64 xt) ∧ w'.cell? ⟨b, off + k * 3, none⟩ = some (.int .i64 yn) ∧ w'.cell? ⟨b, off + k * 3 + 1, none⟩ = some (.int .i64 ys_) ∧ w'.cell? ⟨b, off + k * 3 + 2, none⟩ = some (.int .i64 yt)) (first | exact hS34.out _ (bsetN (bsetN (btrans (balloc (Below.refl _ _) _) K2) (Nat.le_refl _)) (Nat.le_refl _)) | exact hS34.out _ (btrans (balloc (Below.refl _ _) _) K2) | exact hS34.out _ (balloc K1 _) | exact hS34.out _ K1 | exact hS34.out _ (balloc (Below.refl _ _) _).drew | exact hS34.out _ (Below.refl _ _) | exact hS34.out _ (Below.refl _ _).drew) (first
                        | (go_at_call 47; (with_reducible refine (ED.out _ (btrans hbW.out st3.out.bel).drew).mono ?_); rintro e w12 ⟨rfl, hb12⟩; have K1 : Below wB.heap.size wB w12 := ⟨hb12.os, hb12.tape, hb12.output, hb12.size, hb12.block⟩)
                        | (go_at_call 47; (with_reducible refine (ED.out _ (balloc (btrans hbW.out st3.out.bel) _).drew).mono ?_); rintro e w12 ⟨rfl, hb12⟩; have K2 : Below (wB.alloc (.cells #[.int .i64 0, .int .i64 0] TE)).heap.size (wB.alloc (.cells #[.int .i64 0, .int .i64 0] TE)) w12 := ⟨hb12.os, hb12.tape, hb12.output, hb12.size, hb12.block⟩; have rz := hZ.out w12 K2; have z0 : w12.cell? ⟨wB.heap.size, 0, none⟩ = some (.int .i64 0) := rz.cell 0; have z1 : w12.cell? ⟨wB.heap.size, 1, none⟩ = some (.int .i64 0) := rz.cell 1; have fz0 : w12.frozen? ⟨wB.heap.size, 0, none⟩ = false := rz.free 0; have fz1 : w12.frozen? ⟨wB.heap.size, 1, none⟩ = false := rz.free 1; replace rz := Lib.hid rz))
                      all_goals (
                        go_wp2_with fail
                        go_meet
                        first
                          | exact ⟨w12.heap.size, rfl, RowAt.new #[_, _] rfl, K1.size, balloc K1 _⟩
                          | exact ⟨wB.heap.size, rfl, (rz.out.set 0 _).set 1 _, Nat.le_refl _, bsetN (bsetN (btrans (balloc (Below.refl _ _) _) K2) (Nat.le_refl _)) (Nat.le_refl _)⟩)
                    case rest =>
                      obtain ⟨z, rfl, hrz, hzB, hbc⟩ := hcut
                      have stC := Lib.hid (st3.out.below hbc.out)
                      have z1 : wc.cell? ⟨z, 1, none⟩ = some (.int .i64 v) := hrz.out.cell 1
                      have hAl : Hid (Below wc.heap.size wc (wc.alloc (.cells #[.int .i64 q3, .int .i64 v] TE))) := balloc (Below.refl _ _) _
                      have OW : Hid (OwnR (wc.alloc (.cells #[.int .i64 q3, .int .i64 v] TE)) W.heap.size TE 2 ra k rc (pcells R.2)) := by
                        have h1 := (stC.out.below hAl.out).rw_
                        show OwnR _ _ _ _ _ _ _ _
                        rw [← hrl.out]
                        exact h1
                      have nc : Hid (∀ k u, [Value.int .i64 q3, .int .i64 v][k]? = some u → (wc.alloc (.cells #[.int .i64 q3, .int .i64 v] TE)).cell? ((⟨wc.heap.size, 0, none⟩ : Addr).add k) = some u) := new_cells wc #[.int .i64 q3, .int .i64 v] TE rfl
                      have oc : Hid (∀ u ∈ [Value.int .i64 q3, .int .i64 v], u.oneCell' = true) := fun u hu => by simp at hu; rcases hu with rfl | rfl <;> rfl
                      have n5 : Hid (k + 1 ≤ maxLen) := by show _ ≤ _; unfold maxLen; omega
                      have y5 : Hid ((k + 1) * 16 ≤ 140737488355328) := by show _ ≤ _; omega
                      have hBA : Hid (W.heap.size ≤ (wc.alloc (.cells #[.int .i64 q3, .int .i64 v] TE)).heap.size) := Nat.le_trans stC.out.bel.size hAl.out.size
                      have hz13 : Hid ((wc.alloc (.cells #[.int .i64 q3, .int .i64 v] TE)).heap.size = wc.heap.size + 1) := by show _ = _; simp
                      clear y0 y1 y2 x0 x1 x2 p0 p1 p2 p3 p4 p5 p6 hS34 hZ st3 hb3l hg3l hg7l ED hY
                      go_wp2_with (at_builtin; refine wp_appR rfl _ _ 85 TE (.agg #[.int .i64 0, .int .i64 0]) 2 16 rfl Try.underlying85 infoEd rfl (by decide) W.heap.size ra k rc (pcells R.2) rfl OW.out wc.heap.size 1 [.int .i64 q3, .int .i64 v] rfl rfl nc.out oc.out n5.out y5.out hBA.out ?_)
                      intro ra' rc' w14 ho14 hg14 hat14
                      have el : (R.2 ++ [((q3 : Int), v)]).length = k + 1 := by rw [List.length_append, hrl.out]; rfl
                      have st14 := WSt.toR (ra' := ra') (rc' := rc') (xs := R.2 ++ [((q3 : Int), v)]) stC.out hAl.out (by rw [show ({ init := upTo i, S := S, labs := labs, l := l3, ins := ins, row := R.2 } : WC).row.length = k from hrl.out]; exact hg14) (by
                        show OwnR _ _ _ _ _ _ _ _
                        rw [el, pcells_snoc]
                        exact ho14) (by rw [el, show ({ init := upTo i, S := S, labs := labs, l := l3, ins := ins, row := R.2 } : WC).row.length = k from hrl.out]; exact fresh_of hAl.out (by rw [hz13.out]; exact hat14))
                      have st15 : Hid (WSt W TRq gB pb lo2 hi2_ w10 (TB tab3) (.slice ia i ic) (.slice ea j ec) (.slice la j lc) ⟨ia, ic, ea, ec, la, lc, some ⟨g3, 0, none⟩, qc, ba, bc, ra', rc'⟩ ⟨upTo i, S, labs, (rowQ G sets A ⟨xn, xs, xt⟩ l (ys.take (k + 1))).1, ins, (rowQ G sets A ⟨xn, xs, xt⟩ l (ys.take (k + 1))).2⟩ w14) := by
                        rw [hsn2.out]
                        exact st14
                      have htb4 : Hid (TabOk G sets A tab3 (rowQ G sets A ⟨xn, xs, xt⟩ l (ys.take (k + 1))).1) := by
                        rw [hsn2.out]
                        exact htb3.out
                      clear st14 stC ho14 hg14 hat14 hAl OW nc oc n5 y5 hBA hz13 z1 hrz
                      go_wp2
                      go_roundw
                      case rel => exact ⟨k + 1, n3, some ⟨g3, 0, none⟩, qc, ra', rc', tab3, rfl, rfl, rfl, by omega, by go_num, rfl, rfl, by omega, hn3m, hn3'.out, htb4.out, st15.out⟩
                      case measure => simp [intOf]; omega
                · obtain rfl : k = ny := by omega
                  obtain ⟨R, hR⟩ : ∃ R, R = rowQ G sets A ⟨xn, xs, xt⟩ l ys := ⟨_, rfl⟩
                  have hrl := rowQ_row G sets A ⟨xn, xs, xt⟩ l ys
                  have hold := rowQ_old G sets A ⟨xn, xs, xt⟩ l ys hll
                  have hRv := rowQ_all G sets A ⟨xn, xs, xt⟩ hlv.out hyv.out
                  have etk : ys.take k = ys := List.take_of_length_le (by have := hny.out; omega)
                  rw [etk, ← hR] at st hn2 htb2
                  rw [← hR] at hrl hold hRv
                  rw [← hny.out] at hrl
                  rw [← hx.out] at hold
                  have hil4 : j < R.1.length := by have := hn2.out; omega
                  have hRi : R.1[j] = (⟨xn, xs, xt⟩ : PP) := by
                    rw [List.getElem?_eq_getElem hil4] at hold
                    exact Option.some.inj hold
                  have hwl3 : Hid (wholeL G sets A mm (65539 - j) (j + 1) ⟨R.1, rowsOf S ++ [R.2], labs ++ [labP G xn], ins ++ [inP G sets A ⟨xn, xs, xt⟩]⟩ = res) := by
                    show _ = _
                    rw [← hwl2.out]
                    unfold stepW
                    rw [← hys.out, ← hR]
                  replace hR := Lib.hid hR
                  replace hrl := Lib.hid hrl
                  replace hRv := Lib.hid hRv
                  replace hRi := Lib.hid hRi
                  clear hold etk hwl2 hP2 hA2 hyv hys hx hover
                  have g1 : wr.cell? ⟨gB, 1, none⟩ = some (.slice ea j ec) := st.out.g.cell 1
                  have hAl : Hid (Below wr.heap.size wr (wr.alloc (.cells #[.slice ra k rc] TEs))) := balloc (Below.refl _ _) _
                  have OW : Hid (OwnR (wr.alloc (.cells #[.slice ra k rc] TEs)) W.heap.size TEs 1 ea j ec (S.map ecell)) := by
                    have h1 := (st.out.below hAl.out).e.own
                    simp only at h1
                    rw [hlen.out.1] at h1
                    exact h1
                  have nc : Hid (∀ q u, [Value.slice ra k rc][q]? = some u → (wr.alloc (.cells #[.slice ra k rc] TEs)).cell? ((⟨wr.heap.size, 0, none⟩ : Addr).add q) = some u) := new_cells wr #[.slice ra k rc] TEs rfl
                  have oc : Hid (∀ u ∈ [Value.slice ra k rc], u.oneCell' = true) := fun u hu => by simp at hu; rw [hu]; rfl
                  have n5 : Hid (j + 1 ≤ maxLen) := by show _ ≤ _; unfold maxLen; omega
                  have y5 : Hid ((j + 1) * 24 ≤ 140737488355328) := by show _ ≤ _; omega
                  have hBA : Hid (W.heap.size ≤ (wr.alloc (.cells #[.slice ra k rc] TEs)).heap.size) := Nat.le_trans st.out.bel.size hAl.out.size
                  have hz13 : Hid ((wr.alloc (.cells #[.slice ra k rc] TEs)).heap.size = wr.heap.size + 1) := by show _ = _; simp
                  go_wp2_with (at_builtin; refine wp_appR rfl _ _ 23 TEs (.slice none 0 0) 1 24 rfl Try.underlying23 infoEs rfl (by decide) W.heap.size ea j ec (S.map ecell) rfl OW.out wr.heap.size 1 [.slice ra k rc] rfl rfl nc.out oc.out n5.out y5.out hBA.out ?_)
                  intro ea' ec' w14 ho14 hg14 hat14
                  have st14 := WSt.toE (ea' := ea') (ec' := ec') st.out hAl.out (by
                    show (wr.alloc (.cells #[.slice ra k rc] TEs)).grownBy w14 (OB ea S.length ec)
                    rw [hlen.out.1]; exact hg14) (by
                    show OwnR w14 W.heap.size TEs 1 ea' (S.length + 1) ec' (S.map ecell ++ [.slice ra R.2.length rc])
                    rw [hlen.out.1, hrl.out]; exact ho14) (by
                    show OB ea' (S.length + 1) ec' = OB ea S.length ec ∨ _
                    rw [hlen.out.1, hz13.out]; exact hat14)
                  have k1 : w14.cell? ⟨gB, 1, none⟩ = some (.slice ea j ec) := st14.g.cell 1
                  have kf1 : w14.frozen? ⟨gB, 1, none⟩ = false := st14.g.free 1
                  have st15 := Lib.hid (st14.g1 (.slice ea' (j + 1) ec'))
                  clear st14 ho14 hg14 hat14 OW nc oc n5 y5 hBA hz13 hAl g1 st
                  go_wp2_with fail
                  generalize w14.setCell ⟨gB, 1, none⟩ (.slice ea' (j + 1) ec') = w15 at st15 ⊢
                  obtain ⟨lab, hlab⟩ : ∃ b, b = labP G xn := ⟨_, rfl⟩
                  obtain ⟨bi_, hbi⟩ : ∃ b, b = inP G sets A ⟨xn, xs, xt⟩ := ⟨_, rfl⟩
                  rw [← hlab, ← hbi] at hwl3
                  have LB := rlabel_any w15.drew _ G sets A (PA.out w15.drew (btrans hbW.out st15.out.bel).drew) xn
                  rw [← hlab] at LB
                  replace LB := Lib.hid LB
                  have IN : Hid (∀ w', Below w.heap.size w w' → Calls Try.prog 26 #[.agg #[.slice ai G.init.length ci, .slice ae G.edges.length ce, .slice al G.labels.length cl, .slice as_ sets.length cs, .int .i64 A.sets, .slice bi A.init.length di, .slice bn A.nodes.length dn], .agg #[.int .i64 xn, .int .i64 xs, .int .i64 xt]] w' fun e w2 => e = .returned (.bool bi_) ∧ Below w'.heap.size w' w2) := fun w' hb => by
                    have h1 := rin_any w' _ G sets A (PA.out w' hb) ⟨xn, xs, xt⟩
                    rw [← hbi] at h1
                    exact h1
                  replace hlab := Lib.hid hlab
                  replace hbi := Lib.hid hbi
                  obtain ⟨g3, hqa3, hgw3, hgl3, x0, x1, x2⟩ := st15.out.q.at j hil4
                  simp only at hqa3 x0 x1 x2
                  rw [hRi.out] at x0 x1 x2
                  simp only at x0 x1 x2
                  subst hqa3
                  obtain ⟨p0, p1, p2, p3, p4, p5, p6⟩ := hR7.out w15 st15.out.bel
                  have g2 : w15.cell? ⟨gB, 2, none⟩ = some (.slice la j lc) := st15.out.g.cell 2
                  have hin3 : (j : Int) < (n2 : Int) := by omega
                  have el : Hid ((labs ++ [lab]).length = j + 1) := by show _ = _; rw [List.length_append, hlen.out.2.1]; rfl
                  have n5 : Hid (j + 1 ≤ maxLen) := by show _ ≤ _; unfold maxLen; omega
                  have y5 : Hid ((j + 1) * 8 ≤ 140737488355328) := by show _ ≤ _; omega
                  have oc : Hid (∀ u ∈ [Value.int .u64 lab], u.oneCell' = true) := fun u hu => by simp at hu; rw [hu]; rfl
                  have T2 : Hid (∀ w16, Below w15.heap.size w15 w16 → w16.cell? ⟨gB, 2, none⟩ = some (.slice la j lc) ∧ gB < w16.heap.size ∧ OwnR (w16.alloc (.cells #[.int .u64 lab] TU)) W.heap.size TU 1 la j lc ((natI labs).map (.int .u64)) ∧ W.heap.size ≤ (w16.alloc (.cells #[.int .u64 lab] TU)).heap.size) := fun w16 hb => by
                    have s16 := st15.out.below hb
                    have hA : Below w16.heap.size w16 (w16.alloc (.cells #[.int .u64 lab] TU)) := balloc (Below.refl _ _) _
                    refine ⟨s16.g.cell 2, s16.g.lt, ?_, Nat.le_trans s16.bel.size hA.size⟩
                    have h1 := (s16.below hA).l
                    simp only at h1
                    rw [hlen.out.2.1] at h1
                    exact h1
                  have T3 : Hid (∀ w16, Below w15.heap.size w15 w16 → ∀ la' lc' w17, OwnR w17 W.heap.size TU 1 la' (j + 1) lc' ((natI labs).map (.int .u64) ++ [.int .u64 lab]) → (w16.alloc (.cells #[.int .u64 lab] TU)).grownBy w17 (OB la j lc) → (OB la' (j + 1) lc' = OB la j lc ∨ OB la' (j + 1) lc' = some (w16.alloc (.cells #[.int .u64 lab] TU)).heap.size) →
                      WSt W TRq gB pb lo2 hi2_ w10 (TB tab) (.slice ia i ic) (.slice ea' (j + 1) ec') (.slice la j lc) ⟨ia, ic, ea', ec', la', lc', some ⟨g3, 0, none⟩, qc, ba, bc, none, 0⟩ ⟨upTo i, S ++ [(ra, rc, R.2)], labs ++ [lab], R.1, ins, []⟩ w17) := fun w16 hb la' lc' w17 ho hg hat => by
                    have hA : Below w16.heap.size w16 (w16.alloc (.cells #[.int .u64 lab] TU)) := balloc (Below.refl _ _) _
                    refine WSt.toL (la' := la') (lc' := lc') (xs := labs ++ [lab]) (st15.out.below hb) hA ?_ ?_ ?_
                    · show (w16.alloc (.cells #[.int .u64 lab] TU)).grownBy w17 (OB la labs.length lc)
                      rw [hlen.out.2.1]
                      exact hg
                    · show OwnR _ _ _ _ _ _ _ _
                      rw [el.out, natI_snoc]
                      exact ho
                    · show Fresh w16 (OB la labs.length lc) _
                      rw [hlen.out.2.1, el.out]
                      exact fresh_of hA hat
                  go_upto_region 37 with (fail)
                  go_cut [162] (fun _ wx => ∃ la' lc', Hid (WSt W TRq gB pb lo2 hi2_ w10 (TB tab) (.slice ia i ic) (.slice ea' (j + 1) ec') (.slice la' (j + 1) lc') ⟨ia, ic, ea', ec', la', lc', some ⟨g3, 0, none⟩, qc, ba, bc, none, 0⟩ ⟨upTo i, S ++ [(ra, rc, R.2)], labs ++ [lab], R.1, ins, []⟩ wx))
                  case first =>
                    go_region_law (first
                      | (go_simp; go_at_call 51; (with_reducible refine LB.out.mono ?_); rintro e w16 ⟨rfl, hb16⟩; have K1 : Below w15.heap.size w15 w16 := ⟨hb16.os, hb16.tape, hb16.output, hb16.size, hb16.block⟩; obtain ⟨d2, hgl16, OW, hBA⟩ := T2.out w16 K1; replace OW := Lib.hid OW; replace hBA := Lib.hid hBA; have nc := Lib.hid (new_cells w16 #[.int .u64 lab] TU rfl))
                      | (refine step_appR ?_ (.tmp 154) (.tmp 162) 24 TU (.int .u64 0) 1 8 ?_ Try.underlying24 infoU rfl (by decide) W.heap.size la j lc ((natI labs).map (.int .u64)) ?_ OW.out w16.heap.size 1 [.int .u64 lab] ?_ rfl nc.out oc.out n5.out y5.out hBA.out ?_; exact rfl; exact rfl; exact rfl; exact rfl; intro la' lc' w17 ho17 hg17 hat17; have s17 := T3.out w16 K1 la' lc' w17 ho17 hg17 hat17; have k2 : w17.cell? ⟨gB, 2, none⟩ = some (.slice la j lc) := s17.g.cell 2; have kf2 : w17.frozen? ⟨gB, 2, none⟩ = false := s17.g.free 2; replace s17 := Lib.hid (s17.g2 (.slice la' (j + 1) lc')); clear ho17 hg17 hat17))
                    all_goals (
                      go_wp2_with fail
                      go_meet
                      exact ⟨la', lc', s17.out⟩)
                  case rest =>
                    obtain ⟨la', lc', stc⟩ := hcut
                    obtain ⟨g4, hqa4, hgw4, hgl4, v0, v1, v2⟩ := stc.out.q.at j hil4
                    simp only [Option.some.injEq, Addr.mk.injEq, and_true] at hqa4
                    obtain rfl := hqa4
                    rw [hRi.out] at v0 v1 v2
                    simp only at v0 v1 v2
                    clear p0 p1 p2 p3 p4 p5 p6 x0 x1 x2 LB g2 n5 y5 oc T2 T3 st15 hgl3
                    obtain ⟨p0, p1, p2, p3, p4, p5, p6⟩ := hR7.out wc stc.out.bel
                    have n5 : Hid (j + 1 ≤ maxLen) := by show _ ≤ _; unfold maxLen; omega
                    have y5 : Hid ((j + 1) * 1 ≤ 140737488355328) := by show _ ≤ _; omega
                    have oc : Hid (∀ u ∈ [Value.bool bi_], u.oneCell' = true) := fun u hu => by simp at hu; rw [hu]; rfl
                    have T2 : Hid (∀ w16, Below wc.heap.size wc w16 → OwnR (w16.alloc (.cells #[.bool bi_] TyB)) W.heap.size TyB 1 ba j bc (bcells ins) ∧ W.heap.size ≤ (w16.alloc (.cells #[.bool bi_] TyB)).heap.size) := fun w16 hb => by
                      have s16 := stc.out.below hb
                      have hA : Below w16.heap.size w16 (w16.alloc (.cells #[.bool bi_] TyB)) := balloc (Below.refl _ _) _
                      refine ⟨?_, Nat.le_trans s16.bel.size hA.size⟩
                      have h1 := (s16.below hA).b
                      simp only at h1
                      rw [hlen.out.2.2.1] at h1
                      exact h1
                    have el2 : Hid ((ins ++ [bi_]).length = j + 1) := by show _ = _; rw [List.length_append, hlen.out.2.2.1]; rfl
                    have T3 : Hid (∀ w16, Below wc.heap.size wc w16 → ∀ ba' bc' w17, OwnR w17 W.heap.size TyB 1 ba' (j + 1) bc' (bcells ins ++ [.bool bi_]) → (w16.alloc (.cells #[.bool bi_] TyB)).grownBy w17 (OB ba j bc) → (OB ba' (j + 1) bc' = OB ba j bc ∨ OB ba' (j + 1) bc' = some (w16.alloc (.cells #[.bool bi_] TyB)).heap.size) →
                        WSt W TRq gB pb 0 0 W (TB tab) (.slice ia i ic) (.slice ea' (j + 1) ec') (.slice la' (j + 1) lc') ⟨ia, ic, ea', ec', la', lc', some ⟨g3, 0, none⟩, qc, ba', bc', none, 0⟩ ⟨upTo i, S ++ [(ra, rc, R.2)], labs ++ [lab], R.1, ins ++ [bi_], []⟩ w17) := fun w16 hb ba' bc' w17 ho hg hat => by
                      have hA : Below w16.heap.size w16 (w16.alloc (.cells #[.bool bi_] TyB)) := balloc (Below.refl _ _) _
                      refine (WSt.toB (ba' := ba') (bc' := bc') (xs := ins ++ [bi_]) (stc.out.below hb) hA ?_ ?_ ?_).forget
                      · show (w16.alloc (.cells #[.bool bi_] TyB)).grownBy w17 (OB ba ins.length bc)
                        rw [hlen.out.2.2.1]
                        exact hg
                      · rw [el2.out, bcells_snoc]
                        exact ho
                      · show Fresh w16 (OB ba ins.length bc) _
                        rw [hlen.out.2.2.1, el2.out]
                        exact fresh_of hA hat
                    have hlen2 : Hid ((S ++ [(ra, rc, R.2)]).length = j + 1 ∧ (labs ++ [lab]).length = j + 1 ∧ (ins ++ [bi_]).length = j + 1 ∧ R.1.length = n2) := ⟨by rw [List.length_append, hlen.out.1]; rfl, el.out, el2.out, hn2.out⟩
                    have hwl4 : Hid (wholeL G sets A mm (65540 - (j + 1)) (j + 1) ⟨R.1, rowsOf (S ++ [(ra, rc, R.2)]), labs ++ [lab], ins ++ [bi_]⟩ = res) := by
                      show _ = _
                      rw [rowsOf_snoc, show 65540 - (j + 1) = 65539 - j by omega]
                      exact hwl3.out
                    clear hwl3
                    go_wp2_with fail
                    go_region_law (first
                      | (go_simp; go_at_call 26; (with_reducible refine (IN.out _ (btrans hbW.out stc.out.bel).drew).mono ?_); rintro e w16 ⟨rfl, hb16⟩; have K1 : Below wc.heap.size wc w16 := ⟨hb16.os, hb16.tape, hb16.output, hb16.size, hb16.block⟩; obtain ⟨OW, hBA⟩ := T2.out w16 K1; replace OW := Lib.hid OW; replace hBA := Lib.hid hBA; have nc := Lib.hid (new_cells w16 #[.bool bi_] TyB rfl))
                      | (refine step_appR ?_ (.tmp 165) (.tmp 172) 73 TyB (.bool false) 1 1 ?_ Try.underlying73 infoB rfl (by decide) W.heap.size ba j bc (bcells ins) ?_ OW.out w16.heap.size 1 [.bool bi_] ?_ rfl nc.out oc.out n5.out y5.out hBA.out ?_; exact rfl; exact rfl; exact rfl; exact rfl; intro ba' bc' w17 ho17 hg17 hat17; have s17 := Lib.hid (T3.out w16 K1 ba' bc' w17 ho17 hg17 hat17); clear ho17 hg17 hat17))
                    all_goals (
                      clear v0 v1 v2 p0 p1 p2 p3 p4 p5 p6 T2 T3 IN OW hBA nc oc n5 y5 stc
                      go_wp2
                      go_roundw
                      case rel => exact ⟨j + 1, n2, ea', ec', la', lc', some ⟨g3, 0, none⟩, qc, ba', bc', S ++ [(ra, rc, R.2)], labs ++ [lab], R.1, ins ++ [bi_], tab, rfl, rfl, rfl, rfl, rfl, by go_num, by omega, by omega, hlen2.out, hRv.out, hwl4.out, htb2.out, s17.out⟩
                      case measure => simp [intOf]; omega)
            · obtain rfl : j = nl := by omega
              have hr : Hid (res = some ⟨l, rowsOf S, labs, ins⟩) := by
                show _ = _
                rw [← hwl.out, show 65540 - j = (65539 - j) + 1 by omega]
                exact wholeL_end (by show ¬ j < l.length; rw [hlen.out.2.2.2]; omega)
              have hbr := st.out.bel
              have rr4 := Lib.hid (rr5.out.below hbr)
              have g0 : wr.cell? ⟨gB, 0, none⟩ = some (.slice ia i ic) := st.out.g.cell 0
              have g1 : wr.cell? ⟨gB, 1, none⟩ = some (.slice ea j ec) := st.out.g.cell 1
              have g2 : wr.cell? ⟨gB, 2, none⟩ = some (.slice la j lc) := st.out.g.cell 2
              have c0 : wr.cell? ⟨w.heap.size + 1 + 1, 0, none⟩ = some (.slice none 0 0) := rr4.out.cell 0
              have c1' : wr.cell? ⟨w.heap.size + 1 + 1, 1, none⟩ = some (.slice none 0 0) := rr4.out.cell 1
              have c2 : wr.cell? ⟨w.heap.size + 1 + 1, 2, none⟩ = some (.slice none 0 0) := rr4.out.cell 2
              have f0 := rr4.out.free 0
              have f1 := rr4.out.free 1
              have f2 := rr4.out.free 2
              have hbz := Lib.hid (btrans hbW.out hbr)
              clear hbr hwl hlv
              go_wp2
              have hR := Lib.hid (((rr4.out.set 0 (.slice ia i ic)).set 1 (.slice ea j ec)).set 2 (.slice la j lc))
              have d0 := hR.out.cell 0
              have d1 := hR.out.cell 1
              have d2 := hR.out.cell 2
              have hrl : w.heap.size + 1 + 1 < W.heap.size := rr5.out.lt
              have k3 := ((Keeps.set (S := fun k => k < W.heap.size) wr (w.heap.size + 1 + 1) 0 (.slice ia i ic) hrl).trans (Keeps.set (S := fun k => k < W.heap.size) _ (w.heap.size + 1 + 1) 1 (.slice ea j ec) hrl) (fun _ _ h => h)).trans (Keeps.set (S := fun k => k < W.heap.size) _ (w.heap.size + 1 + 1) 2 (.slice la j lc) hrl) (fun _ _ h => h)
              refine bodyPost_ret (v := .tuple #[.agg #[.slice ia i ic, .slice ea j ec, .slice la j lc], .slice qa j qc, .slice ba j bc, .int .i64 0]) (by simp [results, Try.results27, go_sem, d0, d1, d2]) rfl (.inr ⟨_, hr.out, ia, ic, ea, ec, la, lc, qa, qc, ba, bc, ?_, fun w2 hk2 => st.out.reads (k3.trans hk2 (fun j _ h => by have := hbW.out.size; omega)), ?_⟩)
              · show _ = Ending.returned (.tuple #[.agg #[.slice ia (upTo i).length ic, .slice ea (rowsOf S).length ec, .slice la labs.length lc], .slice qa l.length qc, .slice ba ins.length bc, .int .i64 0])
                rw [upTo_len, rowsOf_len, hlen.out.1, hlen.out.2.1, hlen.out.2.2.1, hlen.out.2.2.2]
              · exact bsetN (bsetN (bsetN hbz.out (by omega)) (by omega)) (by omega)
end Go.Proofs.Ytfcpfcgcfaacnaa

namespace Go.Proofs.Ytfcpfcgcfaacnaa
open Go.RowKit

set_option maxRecDepth 20000 in
set_option maxHeartbeats 4000000 in
theorem rwhole_no (w : World) (X : RX) (G : GR) (sets : List (List Bool)) (A : AU) (m : Int) (L : LawIn w X G sets A) (hn : newB G sets A = false) :
    Calls Try.prog 27 #[gv X G, .slice X.as_ sets.length X.cs, av X A, .int .i64 m] w (Whole4 2 [] ⟨[], [], [], []⟩ w) := by
  obtain ⟨ai, ae, al, as_, bi, bn, ci, ce, cl, cs, di, dn⟩ := X
  obtain ⟨w3, hw3⟩ : ∃ w3, w3 = ((w.alloc (.cells #[.slice ai G.init.length ci, .slice ae G.edges.length ce, .slice al G.labels.length cl] TG)).alloc (.cells #[.int .i64 A.sets, .slice bi A.init.length di, .slice bn A.nodes.length dn] TA)).alloc (.cells #[.slice none 0 0, .slice none 0 0, .slice none 0 0] TG) := ⟨_, rfl⟩
  have hb3 : Below w.heap.size w w3 := by rw [hw3]; exact balloc (balloc (balloc (Below.refl _ _) _) _) _
  have rg : RowAt w3 w.heap.size TG [.slice ai G.init.length ci, .slice ae G.edges.length ce, .slice al G.labels.length cl] := by rw [hw3]; exact ((RowAt.new #[_, _, _] rfl).alloc _).alloc _
  have ra : RowAt w3 (w.heap.size + 1) TA [.int .i64 A.sets, .slice bi A.init.length di, .slice bn A.nodes.length dn] := by rw [hw3]; exact (RowAt.new #[_, _, _] (by simp)).alloc _
  have rr : RowAt w3 (w.heap.size + 1 + 1) TG gz := by rw [hw3]; exact RowAt.new #[_, _, _] (by simp)
  have RN : Hid (Calls Try.prog 11 #[.agg #[.slice ai G.init.length ci, .slice ae G.edges.length ce, .slice al G.labels.length cl], .slice as_ sets.length cs, .agg #[.int .i64 A.sets, .slice bi A.init.length di, .slice bn A.nodes.length dn]] w3 fun e w' => e = .returned (.tuple #[.agg #[.slice none 0 0, .slice none 0 0, .slice none 0 0, .slice none 0 0, .int .i64 0, .slice none 0 0, .slice none 0 0], .bool false]) ∧ Below w3.heap.size w3 w') := by
    have := rnew_any w3 ⟨ai, ae, al, as_, bi, bn, ci, ce, cl, cs, di, dn⟩ G sets A (L.g.below hb3) L.ok (L.s.below hb3) (L.au.below hb3) L.aok
    rw [hn] at this
    exact this
  have g0 : w3.cell? ⟨w.heap.size, 0, none⟩ = some (.slice ai G.init.length ci) := rg.cell 0
  have g1 : w3.cell? ⟨w.heap.size, 1, none⟩ = some (.slice ae G.edges.length ce) := rg.cell 1
  have g2 : w3.cell? ⟨w.heap.size, 2, none⟩ = some (.slice al G.labels.length cl) := rg.cell 2
  have a0 : w3.cell? ⟨w.heap.size + 1, 0, none⟩ = some (.int .i64 A.sets) := ra.cell 0
  have a1 : w3.cell? ⟨w.heap.size + 1, 1, none⟩ = some (.slice bi A.init.length di) := ra.cell 1
  have a2 : w3.cell? ⟨w.heap.size + 1, 2, none⟩ = some (.slice bn A.nodes.length dn) := ra.cell 2
  have HW := Lib.hid hw3
  replace hb3 := Lib.hid hb3
  replace rr := Lib.hid rr
  clear L hn hw3 rg ra
  go_enter Try.func27, Try.ntmps27
  go_wp2_with fail
  rw [← HW.out]
  clear HW
  refine RN.out.mono ?_
  rintro e w4 ⟨rfl, hb4⟩
  have hb5 : Below w4.heap.size w4 (w4.alloc (.cells #[.slice none 0 0, .slice none 0 0, .slice none 0 0, .slice none 0 0, .int .i64 0, .slice none 0 0, .slice none 0 0] TRP)) := balloc (Below.refl _ _) _
  have rr4 := Lib.hid (rr.out.below (btrans hb4 hb5))
  have hbz := Lib.hid (btrans hb3.out (btrans hb4 hb5))
  clear g0 g1 g2 a0 a1 a2 RN rr hb3 hb4 hb5
  have c0 := rr4.out.cell 0
  have c1 := rr4.out.cell 1
  have c2 := rr4.out.cell 2
  have f0 := rr4.out.free 0
  have f1 := rr4.out.free 1
  have f2 := rr4.out.free 2
  simp only [List.getElem?_cons_zero, List.getElem?_cons_succ] at c0 c1 c2
  go_wp2
  refine bodyPost_ret (v := .tuple #[.agg #[.slice none 0 0, .slice none 0 0, .slice none 0 0], .slice none 0 0, .slice none 0 0, .int .i64 2]) (by simp [results, Try.results27, go_sem, c0, c1, c2]) rfl (whole_err 2 ?_)
  exact bsetN (bsetN (bsetN hbz.out (by omega)) (by omega)) (by omega)
theorem rwhole_any (w : World) (X : RX) (G : GR) (sets : List (List Bool)) (A : AU) (m : Int) (L : LawIn w X G sets A) (lt : Lt G sets A) :
    Calls Try.prog 27 #[gv X G, .slice X.as_ sets.length X.cs, av X A, .int .i64 m] w (Whole4 (wholeP G sets A m).1 (wholeP G sets A m).2.1 (wholeP G sets A m).2.2 w) := by
  cases hn : newB G sets A with
  | false =>
    have h := rwhole_no w X G sets A m L hn
    have e : wholeP G sets A m = (2, [], ⟨[], [], [], []⟩) := by unfold wholeP; rw [hn]; rfl
    rw [e]
    exact h
  | true =>
    have h := rwhole_yes w X G sets A m L lt hn _ rfl
    have e : wholeP G sets A m = match (if most' m < ((firstP G A).length : Int) then none else wholeL G sets A (most' m) 65540 0 ⟨firstP G A, [], [], []⟩) with
      | none => (11, [], ⟨[], [], [], []⟩)
      | some s => (0, upTo (firstP G A).length, s) := by
      unfold wholeP
      rw [hn, if_pos rfl]
      by_cases hm : m < 0
      · have hmm : most' m < ((firstP G A).length : Int) := by unfold most'; split <;> omega
        rw [if_pos hm, if_pos hmm]
      · rw [if_neg hm]
        by_cases hmm : most' m < ((firstP G A).length : Int)
        · rw [if_pos hmm]
          have h0 : 0 ≤ most' m := by unfold most'; split <;> omega
          rw [wholeL_more (s := ⟨firstP G A, [], [], []⟩) (by show 0 < (firstP G A).length; omega) hmm]
        · rw [if_neg hmm]
          cases wholeL G sets A (most' m) 65540 0 ⟨firstP G A, [], [], []⟩ <;> rfl
    rw [e]
    refine h.mono fun e' w' hh => ?_
    rcases hh with ⟨h1, h2⟩ | ⟨s, h1, h2⟩
    · rw [h1]; exact h2
    · rw [h1]; exact h2
end Go.Proofs.Ytfcpfcgcfaacnaa
