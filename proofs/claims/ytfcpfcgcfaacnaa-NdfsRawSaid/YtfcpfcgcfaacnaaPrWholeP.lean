/- What a call holds while it makes the whole product: its parts lie apart, and stay so whatever grows. No conditions. A map of pairs to numbers, and the program's number. Conditions: the bound on how many. The whole product in plain lists. No conditions. -/
import Derived.Test.YtfcpfcgcfaacnaaPrLawIn
import Derived.BigRegion
namespace Go.Proofs.Ytfcpfcgcfaacnaa
set_option linter.unusedVariables false
open Go.RowKit

abbrev TyB : Nat := 4
/-- where the parts lie -/
structure WX where
  ia : Option Addr
  ic : Nat
  ea : Option Addr
  ec : Nat
  la : Option Addr
  lc : Nat
  qa : Option Addr
  qc : Nat
  ba : Option Addr
  bc : Nat
  ra : Option Addr
  rc : Nat
/-- what the parts are -/
structure WC where
  init : List Int
  S : List ER
  labs : List Nat
  l : List PP
  ins : List Bool
  row : List PR
def bcells (l : List Bool) : List Value := l.map .bool
theorem bcells_snoc (l : List Bool) (b : Bool) : bcells (l ++ [b]) = bcells l ++ [.bool b] := by simp [bcells]
/-- the parts, but one (99: all of them); T tells of each block whose it is -/
structure WStT (k : Nat) (T : Nat → Nat) (W : World) (tq : TypeId) (gB mb lo hi : Nat) (Wz : World) (M : Option Obj → Prop) (vi ve vl : Value) (X : WX) (C : WC) (w : World) : Prop where
  bel : Below W.heap.size W w
  g : k ≠ 0 → RowAt w gB TG [vi, ve, vl] ∧ T gB = 0 ∧ W.heap.size ≤ gB
  q : k ≠ 1 → OwnQ w W.heap.size tq X.qa X.qc C.l ∧ (∀ j, OB X.qa C.l.length X.qc = some j → T j = 1 ∧ j ≠ mb) ∧ M w.heap[mb]? ∧ T mb = 1 ∧ W.heap.size ≤ mb ∧ mb < w.heap.size
  i : k ≠ 3 → OwnN .i64 w W.heap.size TyI X.ia C.init.length X.ic C.init ∧ ∀ j, OB X.ia C.init.length X.ic = some j → T j = 3
  e : k ≠ 4 → EsOwn w W.heap.size X.ea X.ec C.S ∧ ∀ j, EsBlk X.ea X.ec C.S j → T j = 4
  l : k ≠ 5 → OwnN .u64 w W.heap.size TU X.la C.labs.length X.lc (natI C.labs) ∧ ∀ j, OB X.la C.labs.length X.lc = some j → T j = 5
  b : k ≠ 6 → OwnR w W.heap.size TyB 1 X.ba C.ins.length X.bc (bcells C.ins) ∧ ∀ j, OB X.ba C.ins.length X.bc = some j → T j = 6
  rw_ : k ≠ 7 → OwnP w W.heap.size TE X.ra C.row.length X.rc C.row ∧ ∀ j, OB X.ra C.row.length X.rc = some j → T j = 7
  z : k ≠ 9 → ∀ j, lo ≤ j → j < hi → T j = 9 ∧ j < w.heap.size ∧ w.heap[j]? = Wz.heap[j]?
def retag (T : Nat → Nat) (n k : Nat) : Nat → Nat := fun j => if j < n then T j else k
theorem retag_old {T : Nat → Nat} {n k j : Nat} (h : j < n) : retag T n k j = T j := if_pos h
theorem retag_new {T : Nat → Nat} {n k j : Nat} (h : n ≤ j) : retag T n k j = k := if_neg (by omega)
section
variable {k : Nat} {T : Nat → Nat} {W : World} {tq : TypeId} {gB mb lo hi : Nat} {Wz : World} {M : Option Obj → Prop} {vi ve vl : Value} {X : WX} {C : WC} {w w' : World}
/-- one part was turned: all others are as they were -/
theorem WStT.touch (h : WStT 99 T W tq gB mb lo hi Wz M vi ve vl X C w) (k : Nat) (hk : Keeps w w' (fun j => T j = k ∧ W.heap.size ≤ j)) : WStT k (retag T w.heap.size k) W tq gB mb lo hi Wz M vi ve vl X C w' := by
  have hz := hk.size
  refine ⟨hk.below h.bel (fun j hj => hj.2), fun hn => ?_, fun hn => ?_, fun hn => ?_, fun hn => ?_, fun hn => ?_, fun hn => ?_, fun hn => ?_, fun hn => ?_⟩
  · obtain ⟨h1, h2, h3⟩ := h.g (by decide)
    exact ⟨h1.keeps hk (fun e => by omega), by rw [retag_old h1.lt]; exact h2, h3⟩
  · obtain ⟨h1, h2, h3, h4, h5, h6⟩ := h.q (by decide)
    refine ⟨OwnR.keeps h1 hk (fun j hj e => by have := (h2 j hj).1; omega), fun j hj => ⟨by rw [retag_old (OwnR.lt h1 hj).2]; exact (h2 j hj).1, (h2 j hj).2⟩, ?_, by rw [retag_old h6]; exact h4, h5, by omega⟩
    rw [hk.block mb h6 (fun e => by omega)]
    exact h3
  · obtain ⟨h1, h2⟩ := h.i (by decide)
    exact ⟨h1.keeps hk (fun j hj e => by have := h2 j hj; omega), fun j hj => by rw [retag_old (h1.lt2 hj).2]; exact h2 j hj⟩
  · obtain ⟨h1, h2⟩ := h.e (by decide)
    exact ⟨h1.keeps hk (fun j hj e => by have := h2 j hj; omega), fun j hj => by rw [retag_old (h1.blk hj).2]; exact h2 j hj⟩
  · obtain ⟨h1, h2⟩ := h.l (by decide)
    exact ⟨h1.keeps hk (fun j hj e => by have := h2 j hj; omega), fun j hj => by rw [retag_old (h1.lt2 hj).2]; exact h2 j hj⟩
  · obtain ⟨h1, h2⟩ := h.b (by decide)
    exact ⟨OwnR.keeps h1 hk (fun j hj e => by have := h2 j hj; omega), fun j hj => by rw [retag_old (OwnR.lt h1 hj).2]; exact h2 j hj⟩
  · obtain ⟨h1, h2⟩ := h.rw_ (by decide)
    exact ⟨OwnR.keeps h1 hk (fun j hj e => by have := h2 j hj; omega), fun j hj => by rw [retag_old (OwnR.lt h1 hj).2]; exact h2 j hj⟩
  · intro j h1 h2
    obtain ⟨h3, h4, h5⟩ := h.z (by decide) j h1 h2
    exact ⟨by rw [retag_old h4]; exact h3, by omega, (hk.block j h4 (fun e => by omega)).trans h5⟩
end
/-- all parts -/
def WSt (W : World) (tq : TypeId) (gB mb lo hi : Nat) (Wz : World) (M : Option Obj → Prop) (vi ve vl : Value) (X : WX) (C : WC) (w : World) : Prop := ∃ T, WStT 99 T W tq gB mb lo hi Wz M vi ve vl X C w
section
variable {W : World} {tq : TypeId} {gB mb lo hi : Nat} {Wz : World} {M : Option Obj → Prop} {vi ve vl : Value} {X : WX} {C : WC} {w w' wA : World}
theorem WSt.bel (h : WSt W tq gB mb lo hi Wz M vi ve vl X C w) : Below W.heap.size W w := by obtain ⟨T, h⟩ := h; exact h.bel
theorem WSt.g (h : WSt W tq gB mb lo hi Wz M vi ve vl X C w) : RowAt w gB TG [vi, ve, vl] := by obtain ⟨T, h⟩ := h; exact (h.g (by decide)).1
theorem WSt.gle (h : WSt W tq gB mb lo hi Wz M vi ve vl X C w) : W.heap.size ≤ gB := by obtain ⟨T, h⟩ := h; exact (h.g (by decide)).2.2
theorem WSt.q (h : WSt W tq gB mb lo hi Wz M vi ve vl X C w) : OwnQ w W.heap.size tq X.qa X.qc C.l := by obtain ⟨T, h⟩ := h; exact (h.q (by decide)).1
theorem WSt.qne (h : WSt W tq gB mb lo hi Wz M vi ve vl X C w) : ∀ j, OB X.qa C.l.length X.qc = some j → j ≠ mb := by obtain ⟨T, h⟩ := h; exact fun j hj => ((h.q (by decide)).2.1 j hj).2
theorem WSt.m (h : WSt W tq gB mb lo hi Wz M vi ve vl X C w) : M w.heap[mb]? := by obtain ⟨T, h⟩ := h; exact (h.q (by decide)).2.2.1
theorem WSt.mle (h : WSt W tq gB mb lo hi Wz M vi ve vl X C w) : W.heap.size ≤ mb ∧ mb < w.heap.size := by obtain ⟨T, h⟩ := h; exact (h.q (by decide)).2.2.2.2
theorem WSt.i (h : WSt W tq gB mb lo hi Wz M vi ve vl X C w) : OwnN .i64 w W.heap.size TyI X.ia C.init.length X.ic C.init := by obtain ⟨T, h⟩ := h; exact (h.i (by decide)).1
theorem WSt.e (h : WSt W tq gB mb lo hi Wz M vi ve vl X C w) : EsOwn w W.heap.size X.ea X.ec C.S := by obtain ⟨T, h⟩ := h; exact (h.e (by decide)).1
theorem WSt.l (h : WSt W tq gB mb lo hi Wz M vi ve vl X C w) : OwnN .u64 w W.heap.size TU X.la C.labs.length X.lc (natI C.labs) := by obtain ⟨T, h⟩ := h; exact (h.l (by decide)).1
theorem WSt.b (h : WSt W tq gB mb lo hi Wz M vi ve vl X C w) : OwnR w W.heap.size TyB 1 X.ba C.ins.length X.bc (bcells C.ins) := by obtain ⟨T, h⟩ := h; exact (h.b (by decide)).1
theorem WSt.rw_ (h : WSt W tq gB mb lo hi Wz M vi ve vl X C w) : OwnP w W.heap.size TE X.ra C.row.length X.rc C.row := by obtain ⟨T, h⟩ := h; exact (h.rw_ (by decide)).1
theorem WSt.z (h : WSt W tq gB mb lo hi Wz M vi ve vl X C w) {j : Nat} (h1 : lo ≤ j) (h2 : j < hi) : w.heap[j]? = Wz.heap[j]? := by obtain ⟨T, h⟩ := h; exact (h.z (by decide) j h1 h2).2.2
theorem WSt.below (h : WSt W tq gB mb lo hi Wz M vi ve vl X C w) (hb : Below w.heap.size w w') : WSt W tq gB mb lo hi Wz M vi ve vl X C w' := by
  obtain ⟨T, h⟩ := h
  have h1 := h.touch 50 (Keeps.of_below hb)
  exact ⟨_, ⟨h1.bel, fun _ => h1.g (by decide), fun _ => h1.q (by decide), fun _ => h1.i (by decide), fun _ => h1.e (by decide), fun _ => h1.l (by decide), fun _ => h1.b (by decide), fun _ => h1.rw_ (by decide), fun _ => h1.z (by decide)⟩⟩
theorem WSt.drewN (h : WSt W tq gB mb lo hi Wz M vi ve vl X C w) (n : Nat) : WSt W tq gB mb lo hi Wz M vi ve vl X C (w.drewN n) := h.below (bdrewN (Below.refl _ _) n)
theorem WSt.drew (h : WSt W tq gB mb lo hi Wz M vi ve vl X C w) : WSt W tq gB mb lo hi Wz M vi ve vl X C w.drew := h.drewN 1
theorem WSt.g0 (h : WSt W tq gB mb lo hi Wz M vi ve vl X C w) (v : Value) : WSt W tq gB mb lo hi Wz M v ve vl X C (w.setCell ⟨gB, 0, none⟩ v) := by
  obtain ⟨T, h⟩ := h
  obtain ⟨a1, a2, a3⟩ := h.g (by decide)
  have h1 := h.touch 0 (Keeps.set w gB 0 v ⟨a2, a3⟩)
  exact ⟨_, ⟨h1.bel, fun _ => ⟨a1.set 0 v, by rw [retag_old a1.lt]; exact a2, a3⟩, fun _ => h1.q (by decide), fun _ => h1.i (by decide), fun _ => h1.e (by decide), fun _ => h1.l (by decide), fun _ => h1.b (by decide), fun _ => h1.rw_ (by decide), fun _ => h1.z (by decide)⟩⟩
theorem WSt.g1 (h : WSt W tq gB mb lo hi Wz M vi ve vl X C w) (v : Value) : WSt W tq gB mb lo hi Wz M vi v vl X C (w.setCell ⟨gB, 1, none⟩ v) := by
  obtain ⟨T, h⟩ := h
  obtain ⟨a1, a2, a3⟩ := h.g (by decide)
  have h1 := h.touch 0 (Keeps.set w gB 1 v ⟨a2, a3⟩)
  exact ⟨_, ⟨h1.bel, fun _ => ⟨a1.set 1 v, by rw [retag_old a1.lt]; exact a2, a3⟩, fun _ => h1.q (by decide), fun _ => h1.i (by decide), fun _ => h1.e (by decide), fun _ => h1.l (by decide), fun _ => h1.b (by decide), fun _ => h1.rw_ (by decide), fun _ => h1.z (by decide)⟩⟩
theorem WSt.g2 (h : WSt W tq gB mb lo hi Wz M vi ve vl X C w) (v : Value) : WSt W tq gB mb lo hi Wz M vi ve v X C (w.setCell ⟨gB, 2, none⟩ v) := by
  obtain ⟨T, h⟩ := h
  obtain ⟨a1, a2, a3⟩ := h.g (by decide)
  have h1 := h.touch 0 (Keeps.set w gB 2 v ⟨a2, a3⟩)
  exact ⟨_, ⟨h1.bel, fun _ => ⟨a1.set 2 v, by rw [retag_old a1.lt]; exact a2, a3⟩, fun _ => h1.q (by decide), fun _ => h1.i (by decide), fun _ => h1.e (by decide), fun _ => h1.l (by decide), fun _ => h1.b (by decide), fun _ => h1.rw_ (by decide), fun _ => h1.z (by decide)⟩⟩
/-- only what a part held, and what is new -/
def Fresh (w : World) (o o' : Option Nat) : Prop := ∀ j, o' = some j → o = some j ∨ w.heap.size ≤ j
/-- the pairs and what finds them were turned -/
theorem WSt.toQ {M' : Option Obj → Prop} {qa' : Option Addr} {qc' : Nat} {l' : List PP} (h : WSt W tq gB mb lo hi Wz M vi ve vl X C w) (hk : Keeps w w' (fun j => j = mb ∨ OB X.qa C.l.length X.qc = some j)) (ho : OwnQ w' W.heap.size tq qa' qc' l') (hf : Fresh w (OB X.qa C.l.length X.qc) (OB qa' l'.length qc')) (hm : M' w'.heap[mb]?) :
    WSt W tq gB mb lo hi Wz M' vi ve vl { X with qa := qa', qc := qc' } { C with l := l' } w' := by
  obtain ⟨T, h⟩ := h
  obtain ⟨a1, a2, a3, a4, a5, a6⟩ := h.q (by decide)
  have hz := hk.size
  have h1 := h.touch (w' := w') 1 ⟨hk.os, hk.tape, hk.output, hk.size, fun j hj hn => hk.block j hj (fun e => hn (by
    rcases e with e | e
    · exact ⟨by rw [e]; exact a4, by omega⟩
    · exact ⟨(a2 j e).1, (OwnR.lt a1 e).1⟩))⟩
  refine ⟨_, ⟨h1.bel, fun _ => h1.g (by decide), fun _ => ⟨ho, fun j hj => ?_, hm, by rw [retag_old a6]; exact a4, a5, by omega⟩, fun _ => h1.i (by decide), fun _ => h1.e (by decide), fun _ => h1.l (by decide), fun _ => h1.b (by decide), fun _ => h1.rw_ (by decide), fun _ => h1.z (by decide)⟩⟩
  rcases hf j hj with h2 | h2
  · exact ⟨by rw [retag_old (OwnR.lt a1 h2).2]; exact (a2 j h2).1, (a2 j h2).2⟩
  · exact ⟨retag_new h2, by omega⟩
theorem grown_keeps {row : Option Nat} (hA : Below w.heap.size w wA) (hg : wA.grownBy w' row) : Keeps w w' (fun j => row = some j) :=
  (Keeps.of_below (S := fun j => row = some j) hA).trans (Keeps.of_grown (S := fun j => row = some j) hg (fun j e => e)) (fun _ _ h => h)
theorem fresh_of {o o' : Option Nat} (hA : Below w.heap.size w wA) (hat : o' = o ∨ o' = some wA.heap.size) : Fresh w o o' := fun j hj => by
  rcases hat with h | h
  · exact .inl (by rw [← h]; exact hj)
  · rw [h] at hj
    cases hj
    exact .inr hA.size
/-- a number is put behind the first nodes -/
theorem WSt.toI {ia' : Option Addr} {ic' : Nat} {xs : List Int} (h : WSt W tq gB mb lo hi Wz M vi ve vl X C w) (hA : Below w.heap.size w wA) (hg : wA.grownBy w' (OB X.ia C.init.length X.ic)) (ho : OwnN .i64 w' W.heap.size TyI ia' xs.length ic' xs) (hf : Fresh w (OB X.ia C.init.length X.ic) (OB ia' xs.length ic')) :
    WSt W tq gB mb lo hi Wz M vi ve vl { X with ia := ia', ic := ic' } { C with init := xs } w' := by
  obtain ⟨T, h⟩ := h
  obtain ⟨a1, a2⟩ := h.i (by decide)
  have hk := grown_keeps hA hg
  have h1 := h.touch (w' := w') 3 ⟨hk.os, hk.tape, hk.output, hk.size, fun j hj hn => hk.block j hj (fun e => hn ⟨a2 j e, (a1.lt2 e).1⟩)⟩
  refine ⟨_, ⟨h1.bel, fun _ => h1.g (by decide), fun _ => h1.q (by decide), fun _ => ⟨ho, fun j hj => ?_⟩, fun _ => h1.e (by decide), fun _ => h1.l (by decide), fun _ => h1.b (by decide), fun _ => h1.rw_ (by decide), fun _ => h1.z (by decide)⟩⟩
  rcases hf j hj with h2 | h2
  · rw [retag_old (a1.lt2 h2).2]; exact a2 j h2
  · exact retag_new h2
theorem WSt.toL {la' : Option Addr} {lc' : Nat} {xs : List Nat} (h : WSt W tq gB mb lo hi Wz M vi ve vl X C w) (hA : Below w.heap.size w wA) (hg : wA.grownBy w' (OB X.la C.labs.length X.lc)) (ho : OwnN .u64 w' W.heap.size TU la' xs.length lc' (natI xs)) (hf : Fresh w (OB X.la C.labs.length X.lc) (OB la' xs.length lc')) :
    WSt W tq gB mb lo hi Wz M vi ve vl { X with la := la', lc := lc' } { C with labs := xs } w' := by
  obtain ⟨T, h⟩ := h
  obtain ⟨a1, a2⟩ := h.l (by decide)
  have hk := grown_keeps hA hg
  have h1 := h.touch (w' := w') 5 ⟨hk.os, hk.tape, hk.output, hk.size, fun j hj hn => hk.block j hj (fun e => hn ⟨a2 j e, (a1.lt2 e).1⟩)⟩
  refine ⟨_, ⟨h1.bel, fun _ => h1.g (by decide), fun _ => h1.q (by decide), fun _ => h1.i (by decide), fun _ => h1.e (by decide), fun _ => ⟨ho, fun j hj => ?_⟩, fun _ => h1.b (by decide), fun _ => h1.rw_ (by decide), fun _ => h1.z (by decide)⟩⟩
  rcases hf j hj with h2 | h2
  · rw [retag_old (a1.lt2 h2).2]; exact a2 j h2
  · exact retag_new h2
theorem WSt.toB {ba' : Option Addr} {bc' : Nat} {xs : List Bool} (h : WSt W tq gB mb lo hi Wz M vi ve vl X C w) (hA : Below w.heap.size w wA) (hg : wA.grownBy w' (OB X.ba C.ins.length X.bc)) (ho : OwnR w' W.heap.size TyB 1 ba' xs.length bc' (bcells xs)) (hf : Fresh w (OB X.ba C.ins.length X.bc) (OB ba' xs.length bc')) :
    WSt W tq gB mb lo hi Wz M vi ve vl { X with ba := ba', bc := bc' } { C with ins := xs } w' := by
  obtain ⟨T, h⟩ := h
  obtain ⟨a1, a2⟩ := h.b (by decide)
  have hk := grown_keeps hA hg
  have h1 := h.touch (w' := w') 6 ⟨hk.os, hk.tape, hk.output, hk.size, fun j hj hn => hk.block j hj (fun e => hn ⟨a2 j e, (OwnR.lt a1 e).1⟩)⟩
  refine ⟨_, ⟨h1.bel, fun _ => h1.g (by decide), fun _ => h1.q (by decide), fun _ => h1.i (by decide), fun _ => h1.e (by decide), fun _ => h1.l (by decide), fun _ => ⟨ho, fun j hj => ?_⟩, fun _ => h1.rw_ (by decide), fun _ => h1.z (by decide)⟩⟩
  rcases hf j hj with h2 | h2
  · rw [retag_old (OwnR.lt a1 h2).2]; exact a2 j h2
  · exact retag_new h2
theorem WSt.toR {ra' : Option Addr} {rc' : Nat} {xs : List PR} (h : WSt W tq gB mb lo hi Wz M vi ve vl X C w) (hA : Below w.heap.size w wA) (hg : wA.grownBy w' (OB X.ra C.row.length X.rc)) (ho : OwnP w' W.heap.size TE ra' xs.length rc' xs) (hf : Fresh w (OB X.ra C.row.length X.rc) (OB ra' xs.length rc')) :
    WSt W tq gB mb lo hi Wz M vi ve vl { X with ra := ra', rc := rc' } { C with row := xs } w' := by
  obtain ⟨T, h⟩ := h
  obtain ⟨a1, a2⟩ := h.rw_ (by decide)
  have hk := grown_keeps hA hg
  have h1 := h.touch (w' := w') 7 ⟨hk.os, hk.tape, hk.output, hk.size, fun j hj hn => hk.block j hj (fun e => hn ⟨a2 j e, (OwnR.lt a1 e).1⟩)⟩
  refine ⟨_, ⟨h1.bel, fun _ => h1.g (by decide), fun _ => h1.q (by decide), fun _ => h1.i (by decide), fun _ => h1.e (by decide), fun _ => h1.l (by decide), fun _ => h1.b (by decide), fun _ => ⟨ho, fun j hj => ?_⟩, fun _ => h1.z (by decide)⟩⟩
  rcases hf j hj with h2 | h2
  · rw [retag_old (OwnR.lt a1 h2).2]; exact a2 j h2
  · exact retag_new h2
/-- the row is put behind the rows; the next one begins -/
theorem WSt.toE {ea' : Option Addr} {ec' : Nat} (h : WSt W tq gB mb lo hi Wz M vi ve vl X C w) (hA : Below w.heap.size w wA) (hg : wA.grownBy w' (OB X.ea C.S.length X.ec)) (ho : OwnR w' W.heap.size TEs 1 ea' (C.S.length + 1) ec' (C.S.map ecell ++ [ecell (X.ra, X.rc, C.row)])) (hat : OB ea' (C.S.length + 1) ec' = OB X.ea C.S.length X.ec ∨ OB ea' (C.S.length + 1) ec' = some wA.heap.size) :
    WSt W tq gB mb lo hi Wz M vi ve vl { X with ea := ea', ec := ec', ra := none, rc := 0 } { C with S := C.S ++ [(X.ra, X.rc, C.row)], row := [] } w' := by
  obtain ⟨T, h⟩ := h
  obtain ⟨a1, a2⟩ := h.e (by decide)
  obtain ⟨b1, b2⟩ := h.rw_ (by decide)
  have hk := grown_keeps hA hg
  have hz := hk.size
  have h1 := h.touch (w' := w') 4 ⟨hk.os, hk.tape, hk.output, hk.size, fun j hj hn => hk.block j hj (fun e => hn ⟨a2 j (.inl e), (a1.blk (.inl e)).1⟩)⟩
  have hes := a1.app (s := (X.ra, X.rc, C.row)) b1 (fun j hj e => by have := a2 j (.inl e); have := b2 j hj; omega) hA ho hg hat
  have ht : ∀ j, retag T w.heap.size 4 j ≠ 7 → (if retag T w.heap.size 4 j = 7 then 4 else retag T w.heap.size 4 j) = retag T w.heap.size 4 j := fun j hj => if_neg hj
  have hel : (C.S ++ [(X.ra, X.rc, C.row)]).length = C.S.length + 1 := by simp
  refine ⟨fun j => if retag T w.heap.size 4 j = 7 then 4 else retag T w.heap.size 4 j, ⟨h1.bel, fun _ => ?_, fun _ => ?_, fun _ => ?_, fun _ => ⟨hes, fun j hj => ?_⟩, fun _ => ?_, fun _ => ?_, fun _ => ⟨OwnR.nil _ _ _ _, fun j hj => by simp [OB, Value.ownBlock] at hj⟩, fun _ => ?_⟩⟩
  · obtain ⟨c1, c2, c3⟩ := h1.g (by decide)
    exact ⟨c1, by rw [ht _ (by omega)]; exact c2, c3⟩
  · obtain ⟨c1, c2, c3, c4, c5⟩ := h1.q (by decide)
    exact ⟨c1, fun j hj => ⟨by have := (c2 j hj).1; rw [ht _ (by omega)]; exact this, (c2 j hj).2⟩, c3, by rw [ht _ (by omega)]; exact c4, c5⟩
  · obtain ⟨c1, c2⟩ := h1.i (by decide)
    exact ⟨c1, fun j hj => by have := c2 j hj; rw [ht _ (by omega)]; exact this⟩
  · rcases hj with hj | ⟨s, hs, hj⟩
    · rw [hel] at hj
      rcases fresh_of hA hat j hj with h2 | h2
      · have := a2 j (.inl h2)
        rw [← retag_old (T := T) (k := 4) (a1.blk (.inl h2)).2] at this
        rw [if_neg (by omega)]
        exact this
      · have := retag_new (T := T) (k := 4) h2
        rw [if_neg (by omega)]
        exact this
    · rcases List.mem_append.1 hs with hs | hs
      · have := a2 j (.inr ⟨s, hs, hj⟩)
        rw [← retag_old (T := T) (k := 4) (a1.blk (.inr ⟨s, hs, hj⟩)).2] at this
        rw [if_neg (by omega)]
        exact this
      · simp only [List.mem_singleton] at hs
        subst hs
        have := b2 j hj
        rw [← retag_old (T := T) (k := 4) (OwnR.lt b1 hj).2] at this
        rw [if_pos this]
  · obtain ⟨c1, c2⟩ := h1.l (by decide)
    exact ⟨c1, fun j hj => by have := c2 j hj; rw [ht _ (by omega)]; exact this⟩
  · obtain ⟨c1, c2⟩ := h1.b (by decide)
    exact ⟨c1, fun j hj => by have := c2 j hj; rw [ht _ (by omega)]; exact this⟩
  · intro j c1 c2
    obtain ⟨c3, c4, c5⟩ := h1.z (by decide) j c1 c2
    exact ⟨by rw [ht _ (by omega)]; exact c3, c4, c5⟩
/-- whatever is new is foreign from here on -/
theorem WSt.snap (h : WSt W tq gB mb lo hi Wz M vi ve vl X C w) (hb : Below w.heap.size w w') : WSt W tq gB mb w.heap.size w'.heap.size w' M vi ve vl X C w' := by
  obtain ⟨T, h⟩ := h
  have h1 := h.touch 9 (Keeps.of_below hb)
  exact ⟨_, ⟨h1.bel, fun _ => h1.g (by decide), fun _ => h1.q (by decide), fun _ => h1.i (by decide), fun _ => h1.e (by decide), fun _ => h1.l (by decide), fun _ => h1.b (by decide), fun _ => h1.rw_ (by decide), fun _ j c1 c2 => ⟨retag_new c1, c2, rfl⟩⟩⟩
theorem WSt.forget (h : WSt W tq gB mb lo hi Wz M vi ve vl X C w) : WSt W tq gB mb 0 0 W M vi ve vl X C w := by
  obtain ⟨T, h1⟩ := h
  exact ⟨_, ⟨h1.bel, fun _ => h1.g (by decide), fun _ => h1.q (by decide), fun _ => h1.i (by decide), fun _ => h1.e (by decide), fun _ => h1.l (by decide), fun _ => h1.b (by decide), fun _ => h1.rw_ (by decide), fun _ j c1 c2 => by omega⟩⟩
/-- pairs that are foreign stay -/
theorem WSt.pps (h : WSt W tq gB mb lo hi Wz M vi ve vl X C w) {a : Option Addr} {l : List PP} (hp : PpsAt Wz a l) (ha : ∀ ad, a = some ad → lo ≤ ad.block ∧ ad.block < hi) : PpsAt w a l := fun h0 => by
  obtain ⟨b, off, e, hc⟩ := hp h0
  obtain ⟨h1, h2⟩ := ha _ e
  have hk : ∀ o, w.cell? ⟨b, o, none⟩ = Wz.cell? ⟨b, o, none⟩ := fun o => World.cell?_of_block (a := ⟨b, o, none⟩) (h.z h1 h2)
  refine ⟨b, off, e, fun i hi => ?_⟩
  obtain ⟨c0, c1, c2⟩ := hc i hi
  exact ⟨(hk _).trans c0, (hk _).trans c1, (hk _).trans c2⟩
end
/-- nothing but the blocks of its own -/
theorem WSt.start {W w : World} {tq : TypeId} {gB mb : Nat} {M : Option Obj → Prop} (hb : Below W.heap.size W w) (hg : RowAt w gB TG [.slice none 0 0, .slice none 0 0, .slice none 0 0]) (hm : M w.heap[mb]?) (hml : mb < w.heap.size) (h1 : W.heap.size ≤ gB) (h3 : W.heap.size ≤ mb) (n2 : gB ≠ mb) :
    WSt W tq gB mb 0 0 W M (.slice none 0 0) (.slice none 0 0) (.slice none 0 0) ⟨none, 0, none, 0, none, 0, none, 0, none, 0, none, 0⟩ ⟨[], [], [], [], [], []⟩ w := by
  refine ⟨fun j => if j = gB then 0 else 1, ⟨hb, fun _ => ⟨hg, if_pos rfl, h1⟩, fun _ => ⟨OwnR.nil _ _ _ _, fun j hj => by simp [OB, Value.ownBlock] at hj, hm, ?_, h3, hml⟩, fun _ => ⟨OwnN.nil _ _ _ _, fun j hj => by simp [OB, Value.ownBlock] at hj⟩, fun _ => ⟨EsOwn.nil _ _, fun j hj => ?_⟩, fun _ => ⟨OwnN.nil _ _ _ _, fun j hj => by simp [OB, Value.ownBlock] at hj⟩, fun _ => ⟨OwnR.nil _ _ _ _, fun j hj => by simp [OB, Value.ownBlock] at hj⟩, fun _ => ⟨OwnR.nil _ _ _ _, fun j hj => by simp [OB, Value.ownBlock] at hj⟩, fun _ j c1 c2 => by omega⟩⟩
  · rw [if_neg (by omega)]
  · rcases hj with hj | ⟨s, hs, _⟩
    · simp [OB, Value.ownBlock] at hj
    · simp at hs
end Go.Proofs.Ytfcpfcgcfaacnaa

namespace Go.Proofs.Ytfcpfcgcfaacnaa
open Go.RowKit Go.WideMaps

/-- the map of all pairs to their numbers -/
def NDgo : List PP → Nat → DataW Unit → DataW Unit
  | [], _, D => D
  | p :: l, i, D => NDgo l (i + 1) (D.put (qkey p) (.lit (.int .i64 (i : Int))))
def ND (l : List PP) : DataW Unit := NDgo l 0 (.map [])
theorem NDgo_snoc : ∀ (l : List PP) (i : Nat) (D : DataW Unit) (p : PP), NDgo (l ++ [p]) i D = (NDgo l i D).put (qkey p) (.lit (.int .i64 ((i + l.length : Nat) : Int)))
  | [], i, D, p => by simp [NDgo]
  | q :: l, i, D, p => by
    simp only [List.cons_append, NDgo, NDgo_snoc l, List.length_cons]
    rw [show i + 1 + l.length = i + (l.length + 1) by omega]
theorem ND_snoc (l : List PP) (p : PP) : ND (l ++ [p]) = (ND l).put (qkey p) (.lit (.int .i64 (l.length : Int))) := by
  unfold ND
  rw [NDgo_snoc, Nat.zero_add]
theorem ND_isMap (l : List PP) : Go.Maps.IsMap (ND l) := by
  induction l using snoc_rec with
  | h0 => exact Go.Maps.isMap_empty
  | h1 l p ih => rw [ND_snoc]; exact ih.put _ _
theorem ND_look (l : List PP) (hl : l.Nodup) (hok : ∀ p ∈ l, okPP p) (q : PP) (hq : okPP q) :
    Go.Maps.has (ND l) (qkey q) = decide (q ∈ l) ∧ ∀ z, (ND l).atKey (qkey q) z = if q ∈ l then .lit (.int .i64 (l.idxOf q : Int)) else z := by
  induction l using snoc_rec with
  | h0 => exact ⟨rfl, fun z => rfl⟩
  | h1 l p ih =>
    rw [List.nodup_append] at hl
    obtain ⟨hl1, _, hl2⟩ := hl
    have hp : p ∉ l := fun h => hl2 p h p (by simp) rfl
    obtain ⟨i1, i2⟩ := ih hl1 (fun x hx => hok x (by simp [hx]))
    rw [ND_snoc]
    by_cases he : q = p
    · subst he
      rw [Go.Maps.has_put_same (ND_isMap l) (qkey_is _)]
      refine ⟨by simp, fun z => ?_⟩
      rw [Go.Maps.atKey_put_same (ND_isMap l) (qkey_is _), if_pos (by simp), List.idxOf_append, if_neg hp]
      simp
    · have hk : qkey q ≠ qkey p := fun e => he (qkey_inj hq (hok p (by simp)) e)
      rw [Go.Maps.has_put_other hk, i1]
      refine ⟨by simp [he], fun z => ?_⟩
      rw [Go.Maps.atKey_put_other hk, i2]
      by_cases hm : q ∈ l
      · rw [if_pos hm, if_pos (by simp [hm]), List.idxOf_append, if_pos hm]
      · rw [if_neg hm, if_neg (by simp [hm, he])]
structure NMap (w : World) (b : Nat) (l : List PP) : Prop where
  own : w.ownsMap (H := Unit) Try.prog 82 (plainElem Try.prog 3) b l.length (ND l)
  nodup : l.Nodup
  ok : ∀ p ∈ l, okPP p
theorem NMap.lt {w : World} {b : Nat} {l : List PP} (h : NMap w b l) : b < w.heap.size := World.ownsMap.lt h.own
theorem NMap.keep {w w' : World} {b : Nat} {l : List PP} (h : NMap w b l) (hk : w'.heap[b]? = w.heap[b]?) : NMap w' b l := by
  obtain ⟨⟨es, cl, hb, r⟩, h2, h3⟩ := h
  exact ⟨⟨es, cl, hk.trans hb, r⟩, h2, h3⟩
theorem NMap.keeps {w w' : World} {b : Nat} {l : List PP} {S : Nat → Prop} (h : NMap w b l) (hk : Keeps w w' S) (hn : ¬ S b) : NMap w' b l := h.keep (hk.block b h.lt hn)
theorem NMap.made (w : World) : NMap (w.alloc (.map #[] 0)) w.heap.size [] := ⟨World.ownsMap_made _ _ _ _, List.nodup_nil, by simp⟩
theorem zeroInt (w : World) : (zeroValue 3).run Try.prog w = .ok (.int .i64 0) w := by kernel_rfl
theorem NMap.look {w : World} {b : Nat} {l : List PP} (h : NMap w b l) {p : PP} (hp : okPP p) :
    (Instr.lookup 104 (.map (some b)) (ppv p) true).run Try.prog w = .ok (.tuple #[.int .i64 (if p ∈ l then (l.idxOf p : Int) else 0), .bool (decide (p ∈ l))]) w := by
  obtain ⟨h1, h2⟩ := ND_look l h.nodup h.ok p hp
  obtain ⟨v, ps, hrun, hv⟩ := h.own.look_ok keyedQ Try.underlying104 (zeroInt w) (zd := .lit (.int .i64 0)) (zp := []) (plainElem_int Try.underlying3 (by decide)) (keyOf_qq hp)
  obtain ⟨c, rfl, hc, _⟩ := plainElem_int_inv Try.underlying3 hv
  simp only [Prod.mk.injEq] at hc
  rw [h2] at hc
  rw [hrun, h1]
  by_cases hm : p ∈ l
  · rw [if_pos hm] at hc ⊢
    simp only [DataW.lit.injEq, Lit.int.injEq, true_and] at hc
    rw [hc.1]
  · rw [if_neg hm] at hc ⊢
    simp only [DataW.lit.injEq, Lit.int.injEq, true_and] at hc
    rw [hc.1]
theorem NMap.put {w : World} {b : Nat} {l : List PP} (h : NMap w b l) {p : PP} (hp : okPP p) (hm : p ∉ l) (hl : l.length ≤ 1000000) :
    ∃ w', (Instr.mapUpdate 104 (.map (some b)) (ppv p) (.int .i64 (l.length : Int))).run Try.prog w = .ok () w' ∧ NMap w' b (l ++ [p]) ∧ w.grownBy w' (some b) := by
  obtain ⟨w', hrun, ho, hg⟩ := h.own.update keyedQ Try.underlying104 (by unfold maxLen; omega) (keyOf_qq hp) (plainElem_int (H := Unit) Try.underlying3 (a := (l.length : Int)) (by simp [Lit.wf, IntKind.min, IntKind.max, IntKind.signed, IntKind.bits]; omega))
  refine ⟨w', hrun, ⟨?_, ?_, ?_⟩, hg⟩
  · rw [ND_snoc, List.length_append]
    exact ho
  · rw [List.nodup_append]
    refine ⟨h.nodup, by simp, fun a ha b hb => ?_⟩
    simp at hb
    subst hb
    exact fun e => hm (e ▸ ha)
  · intro x hx
    rcases List.mem_append.1 hx with h1 | h1
    · exact h.ok x h1
    · simp at h1; subst h1; exact hp
/-- what the block of such a map holds -/
def NM (b : Nat) (l : List PP) (o : Option Obj) : Prop := ∃ w, w.heap[b]? = o ∧ NMap w b l
theorem NM.at {w : World} {b : Nat} {l : List PP} (h : NM b l w.heap[b]?) : NMap w b l := by
  obtain ⟨w1, h1, h2⟩ := h
  exact h2.keep h1.symm
theorem NMap.nm {w : World} {b : Nat} {l : List PP} (h : NMap w b l) : NM b l w.heap[b]? := ⟨w, rfl, h⟩
def numQ (l : List PP) (x : PP) : List PP × Nat := if x ∈ l then (l, l.idxOf x) else (l ++ [x], l.length)
/-- what number gives -/
def NumQ (w : World) (B mb : Nat) (a : Option Addr) (c : Nat) (l l' : List PP) (n : Nat) (e : Ending) (w' : World) : Prop :=
  ∃ a' c', e = .returned (.tuple #[.slice a' l'.length c', .int .i64 n]) ∧ OwnQ w' B TPP a' c' l' ∧ NMap w' mb l' ∧ Keeps w w' (fun j => j = mb ∨ OB a l.length c = some j) ∧ Fresh w (OB a l.length c) (OB a' l'.length c')
end Go.Proofs.Ytfcpfcgcfaacnaa

namespace Go.Proofs.Ytfcpfcgcfaacnaa

def actP : Option PR → Int
  | some e => e.2
  | none => 0
/-- one node's row, pair by pair -/
def rowStep (G : GR) (sets : List (List Bool)) (A : AU) (x : PP) (s : List PP × List PR) (y : PP) : List PP × List PR :=
  ((numQ s.1 y).1, s.2 ++ [(((numQ s.1 y).2 : Int), actP (edgeP G sets A x y))])
def rowQ (G : GR) (sets : List (List Bool)) (A : AU) (x : PP) (l : List PP) (ys : List PP) : List PP × List PR := ys.foldl (rowStep G sets A x) (l, [])
theorem rowQ_snoc (G : GR) (sets : List (List Bool)) (A : AU) (x : PP) (l ys : List PP) (y : PP) : rowQ G sets A x l (ys ++ [y]) = rowStep G sets A x (rowQ G sets A x l ys) y := by simp [rowQ]
/-- what is there so far -/
structure WR where
  l : List PP
  es : List (List PR)
  labs : List Nat
  ins : List Bool
def stepW (G : GR) (sets : List (List Bool)) (A : AU) (x : PP) (s : WR) : WR :=
  ⟨(rowQ G sets A x s.l (nextP G sets A x)).1, s.es ++ [(rowQ G sets A x s.l (nextP G sets A x)).2], s.labs ++ [labP G x.node], s.ins ++ [inP G sets A x]⟩
def wholeL (G : GR) (sets : List (List Bool)) (A : AU) (most : Int) : Nat → Nat → WR → Option WR
  | 0, _, _ => none
  | f + 1, i, s => if h : i < s.l.length then (if most < (s.l.length : Int) then none else wholeL G sets A most f (i + 1) (stepW G sets A s.l[i] s)) else some s
theorem wholeL_more {G : GR} {sets : List (List Bool)} {A : AU} {most : Int} {f i : Nat} {s : WR} (h : i < s.l.length) (hm : most < (s.l.length : Int)) : wholeL G sets A most (f + 1) i s = none := by
  unfold wholeL
  rw [dif_pos h, if_pos hm]
theorem wholeL_step {G : GR} {sets : List (List Bool)} {A : AU} {most : Int} {f i : Nat} {s : WR} (h : i < s.l.length) (hm : ¬ most < (s.l.length : Int)) : wholeL G sets A most (f + 1) i s = wholeL G sets A most f (i + 1) (stepW G sets A s.l[i] s) := by
  rw [wholeL, dif_pos h, if_neg hm]
theorem wholeL_end {G : GR} {sets : List (List Bool)} {A : AU} {most : Int} {f i : Nat} {s : WR} (h : ¬ i < s.l.length) : wholeL G sets A most (f + 1) i s = some s := by
  unfold wholeL
  rw [dif_neg h]
def upTo (n : Nat) : List Int := (List.range n).map Int.ofNat
theorem upTo_len (n : Nat) : (upTo n).length = n := by simp [upTo]
theorem upTo_succ (n : Nat) : upTo (n + 1) = upTo n ++ [(n : Int)] := by simp [upTo, List.range_succ]
def most' (m : Int) : Int := if m > 65536 then 65536 else m
/-- the whole product: an error, the first nodes, and all that belongs to the pairs -/
def wholeP (G : GR) (sets : List (List Bool)) (A : AU) (m : Int) : Int × List Int × WR :=
  if newB G sets A = true then
    if m < 0 then (11, [], ⟨[], [], [], []⟩)
    else match wholeL G sets A (most' m) 65540 0 ⟨firstP G A, [], [], []⟩ with
      | none => (11, [], ⟨[], [], [], []⟩)
      | some s => (0, upTo (firstP G A).length, s)
  else (2, [], ⟨[], [], [], []⟩)

/-! pairs that there may be -/
def vPP (G : GR) (sets : List (List Bool)) (A : AU) (x : PP) : Prop := (0 ≤ x.node ∧ x.node < (G.edges.length : Int)) ∧ (0 ≤ x.state ∧ x.state < (A.nodes.length : Int)) ∧ 0 ≤ x.turn ∧ x.turn < ((max (allS sets A) 1 : Nat) : Int)
theorem first_valid {G : GR} {sets : List (List Bool)} {A : AU} (hg : gchk G = 0) (hc : chk A = 0) : ∀ x ∈ firstP G A, vPP G sets A x := by
  have h1 := (gchk_good hg).2.2.1
  have h2 := (chk_good hc).2.2.2.1
  have key : ∀ (ns : List Int) (out : List PP), (∀ n ∈ ns, n ∈ G.init) → (∀ y ∈ out, vPP G sets A y) → ∀ y ∈ ns.foldl (fun out n => pairsP A (labP G n) n 0 out A.init) out, vPP G sets A y := by
    intro ns
    induction ns with
    | nil => intro out _ h; exact h
    | cons n ns ih =>
      intro out hn h
      rw [List.foldl_cons]
      refine ih _ (fun m hm => hn m (by simp [hm])) (pairsP_all A _ n 0 A.init out h (fun q hq => ?_))
      exact ⟨h1 n (hn n (by simp)), h2 q hq, Int.le_refl _, by show (0 : Int) < _; omega⟩
  exact key G.init [] (fun n h => h) (by simp)
theorem turn_valid {G : GR} {sets : List (List Bool)} {A : AU} {x : PP} (h : isP sets A x = true) : 0 ≤ turnP G sets A x ∧ turnP G sets A x < ((max (allS sets A) 1 : Nat) : Int) := by
  obtain ⟨k, t, _, h2, _, h4⟩ := isP_range h
  unfold turnP
  by_cases hc : 0 < allS sets A ∧ ofP G sets A x = true
  · rw [if_pos hc]
    have h0 : (0 : Int) < (allS sets A : Int) := by have := hc.1; omega
    have e1 := Int.emod_nonneg (x.turn + 1) (show (allS sets A : Int) ≠ 0 by omega)
    have e2 := Int.emod_lt_of_pos (x.turn + 1) h0
    omega
  · rw [if_neg hc, h2]
    omega
theorem next_valid {G : GR} {sets : List (List Bool)} {A : AU} (hg : gchk G = 0) (hc : chk A = 0) (x : PP) : ∀ y ∈ nextP G sets A x, vPP G sets A y := by
  unfold nextP
  by_cases hx : isP sets A x = true
  · rw [if_pos hx]
    obtain ⟨k, t, hk1, _, hk3, _⟩ := isP_range hx
    have h1 := (gchk_good hg).2.2.2
    have h2 := (chk_good hc).2.2.2.2
    have ht := turn_valid (G := G) hx
    have hto : ∀ q ∈ (nodeP A x.state).to, 0 ≤ q ∧ q < (A.nodes.length : Int) := by
      rw [hk1, nodeP_at hk3]
      exact (h2 _ (List.getElem_mem hk3)).1
    have hes : ∀ e ∈ edgesP G x.node, 0 ≤ e.1 ∧ e.1 < (G.edges.length : Int) := by
      unfold edgesP
      split
      · rename_i hin
        unfold inG at hin
        simp at hin
        have hl : x.node.toNat < G.edges.length := by omega
        rw [List.getD_eq_getElem?_getD, List.getElem?_eq_getElem hl]
        exact h1 _ (List.getElem_mem hl)
      · simp
    have key : ∀ (es : List PR) (out : List PP), (∀ e ∈ es, 0 ≤ e.1 ∧ e.1 < (G.edges.length : Int)) → (∀ y ∈ out, vPP G sets A y) → ∀ y ∈ es.foldl (fun out e => pairsP A (labP G e.1) e.1 (turnP G sets A x) out (nodeP A x.state).to) out, vPP G sets A y := by
      intro es
      induction es with
      | nil => intro out _ h; exact h
      | cons n ns ih =>
        intro out hn h
        rw [List.foldl_cons]
        refine ih _ (fun m hm => hn m (by simp [hm])) (pairsP_all A _ n.1 _ _ out h (fun q hq => ?_))
        exact ⟨hn n (by simp), hto q hq, ht⟩
    exact key _ [] hes (by simp)
  · rw [if_neg hx]
    simp
theorem first_nodup (G : GR) (A : AU) : (firstP G A).Nodup := by
  have key : ∀ (ns : List Int) (out : List PP), out.Nodup → (ns.foldl (fun out n => pairsP A (labP G n) n 0 out A.init) out).Nodup := by
    intro ns
    induction ns with
    | nil => intro out h; exact h
    | cons n ns ih => intro out h; rw [List.foldl_cons]; exact ih _ (pairsP_nodup _ _ _ _ _ _ h)
  exact key _ _ List.nodup_nil
theorem okPP_of {G : GR} {sets : List (List Bool)} {A : AU} (lt : Lt G sets A) (hc : chk A = 0) (hs : sets.length ≤ 16) {x : PP} (h : vPP G sets A x) : okPP x := by
  have h1 := lt.e
  have h2 := lt.n
  obtain ⟨_, h4, _⟩ := chk_sets hc
  have h5 : allS sets A ≤ 40 := by unfold allS; omega
  obtain ⟨⟨a, b⟩, ⟨c, d⟩, e, f⟩ := h
  exact ⟨wf_small a (by omega), wf_small c (by omega), wf_small e (by omega)⟩
theorem numQ_take {L : List PP} (h : L.Nodup) {j : Nat} (hj : j < L.length) : numQ (L.take j) L[j] = (L.take (j + 1), j) := by
  have hn : L[j] ∉ L.take j := by
    intro hm
    obtain ⟨i, hi, e⟩ := List.mem_iff_getElem.1 hm
    rw [List.length_take] at hi
    rw [List.getElem_take] at e
    have := (List.getElem_inj h).1 e
    omega
  unfold numQ
  rw [if_neg hn, List.take_add_one, List.getElem?_eq_getElem hj, List.length_take]
  simp
  omega
theorem numQ_len (l : List PP) (x : PP) : l.length ≤ (numQ l x).1.length ∧ (numQ l x).1.length ≤ l.length + 1 := by
  unfold numQ
  split <;> simp
theorem numQ_mem {l : List PP} {x y : PP} (h : y ∈ (numQ l x).1) : y ∈ l ∨ y = x := by
  unfold numQ at h
  split at h
  · exact .inl h
  · simpa using h
theorem rowQ_len (G : GR) (sets : List (List Bool)) (A : AU) (x : PP) (l ys : List PP) : l.length ≤ (rowQ G sets A x l ys).1.length ∧ (rowQ G sets A x l ys).1.length ≤ l.length + ys.length := by
  induction ys using snoc_rec with
  | h0 => exact ⟨Nat.le_refl _, Nat.le_refl _⟩
  | h1 ys y ih =>
    rw [rowQ_snoc, List.length_append]
    have := numQ_len (rowQ G sets A x l ys).1 y
    show l.length ≤ (numQ (rowQ G sets A x l ys).1 y).1.length ∧ (numQ (rowQ G sets A x l ys).1 y).1.length ≤ l.length + (ys.length + 1)
    omega
theorem rowQ_row (G : GR) (sets : List (List Bool)) (A : AU) (x : PP) (l ys : List PP) : (rowQ G sets A x l ys).2.length = ys.length := by
  induction ys using snoc_rec with
  | h0 => rfl
  | h1 ys y ih => rw [rowQ_snoc, List.length_append, ← ih]; simp [rowStep]
theorem rowQ_all {p : PP → Prop} (G : GR) (sets : List (List Bool)) (A : AU) (x : PP) {l ys : List PP} (hl : ∀ y ∈ l, p y) (hy : ∀ y ∈ ys, p y) : ∀ y ∈ (rowQ G sets A x l ys).1, p y := by
  induction ys using snoc_rec with
  | h0 => exact hl
  | h1 ys y ih =>
    rw [rowQ_snoc]
    intro z hz
    rcases numQ_mem hz with h | h
    · exact ih (fun z hz => hy z (by simp [hz])) z h
    · rw [h]; exact hy y (by simp)
/-- what was there stays there -/
theorem numQ_old {l : List PP} {x : PP} {i : Nat} (hi : i < l.length) : (numQ l x).1[i]? = some l[i] := by
  unfold numQ
  split
  · exact List.getElem?_eq_getElem hi
  · show (l ++ [x])[i]? = _
    rw [List.getElem?_append_left hi, List.getElem?_eq_getElem hi]
theorem rowQ_old (G : GR) (sets : List (List Bool)) (A : AU) (x : PP) (l ys : List PP) {i : Nat} (hi : i < l.length) : (rowQ G sets A x l ys).1[i]? = some l[i] := by
  induction ys using snoc_rec with
  | h0 => exact List.getElem?_eq_getElem hi
  | h1 ys y ih =>
    rw [rowQ_snoc]
    have hl := (rowQ_len G sets A x l ys).1
    have h1 := numQ_old (l := (rowQ G sets A x l ys).1) (x := y) (i := i) (by omega)
    have h2 : (rowQ G sets A x l ys).1[i]'(by omega) = l[i] := by
      rw [List.getElem?_eq_getElem (by omega)] at ih
      exact Option.some.inj ih
    rw [h2] at h1
    exact h1
end Go.Proofs.Ytfcpfcgcfaacnaa
