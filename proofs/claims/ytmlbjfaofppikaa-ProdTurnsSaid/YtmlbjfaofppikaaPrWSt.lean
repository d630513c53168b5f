/- What a call holds while it makes the whole product: its parts lie apart, and stay so whatever grows. No conditions. -/
import Derived.Test.YtmlbjfaofppikaaPrTells
namespace Go.Proofs.Ytmlbjfaofppikaa
open Go.RowKit

abbrev TyB : Nat := 4
/-- where the parts lie -/
structure WX where
  ia : Option Addr
  ic : Nat
  ea : Option Addr
  ec : Nat
  la : Option Addr
  lc : Nat
  qa : Option Addr
  qc : Nat
  ba : Option Addr
  bc : Nat
  ra : Option Addr
  rc : Nat
/-- what the parts are -/
structure WC where
  init : List Int
  S : List ER
  labs : List Nat
  l : List PP
  ins : List Bool
  row : List PR
def bcells (l : List Bool) : List Value := l.map .bool
theorem bcells_snoc (l : List Bool) (b : Bool) : bcells (l ++ [b]) = bcells l ++ [.bool b] := by simp [bcells]
/-- the parts, but one (99: all of them); T tells of each block whose it is -/
structure WStT (k : Nat) (T : Nat → Nat) (W : World) (tq : TypeId) (gB mb lo hi : Nat) (Wz : World) (M : Option Obj → Prop) (vi ve vl : Value) (X : WX) (C : WC) (w : World) : Prop where
  bel : Below W.heap.size W w
  g : k ≠ 0 → RowAt w gB TG [vi, ve, vl] ∧ T gB = 0 ∧ W.heap.size ≤ gB
  q : k ≠ 1 → OwnQ w W.heap.size tq X.qa X.qc C.l ∧ (∀ j, OB X.qa C.l.length X.qc = some j → T j = 1 ∧ j ≠ mb) ∧ M w.heap[mb]? ∧ T mb = 1 ∧ W.heap.size ≤ mb ∧ mb < w.heap.size
  i : k ≠ 3 → OwnN .i64 w W.heap.size TyI X.ia C.init.length X.ic C.init ∧ ∀ j, OB X.ia C.init.length X.ic = some j → T j = 3
  e : k ≠ 4 → EsOwn w W.heap.size X.ea X.ec C.S ∧ ∀ j, EsBlk X.ea X.ec C.S j → T j = 4
  l : k ≠ 5 → OwnN .u64 w W.heap.size TU X.la C.labs.length X.lc (natI C.labs) ∧ ∀ j, OB X.la C.labs.length X.lc = some j → T j = 5
  b : k ≠ 6 → OwnR w W.heap.size TyB 1 X.ba C.ins.length X.bc (bcells C.ins) ∧ ∀ j, OB X.ba C.ins.length X.bc = some j → T j = 6
  rw_ : k ≠ 7 → OwnP w W.heap.size TE X.ra C.row.length X.rc C.row ∧ ∀ j, OB X.ra C.row.length X.rc = some j → T j = 7
  z : k ≠ 9 → ∀ j, lo ≤ j → j < hi → T j = 9 ∧ j < w.heap.size ∧ w.heap[j]? = Wz.heap[j]?
def retag (T : Nat → Nat) (n k : Nat) : Nat → Nat := fun j => if j < n then T j else k
theorem retag_old {T : Nat → Nat} {n k j : Nat} (h : j < n) : retag T n k j = T j := if_pos h
theorem retag_new {T : Nat → Nat} {n k j : Nat} (h : n ≤ j) : retag T n k j = k := if_neg (by omega)
section
variable {k : Nat} {T : Nat → Nat} {W : World} {tq : TypeId} {gB mb lo hi : Nat} {Wz : World} {M : Option Obj → Prop} {vi ve vl : Value} {X : WX} {C : WC} {w w' : World}
/-- one part was turned: all others are as they were -/
theorem WStT.touch (h : WStT 99 T W tq gB mb lo hi Wz M vi ve vl X C w) (k : Nat) (hk : Keeps w w' (fun j => T j = k ∧ W.heap.size ≤ j)) : WStT k (retag T w.heap.size k) W tq gB mb lo hi Wz M vi ve vl X C w' := by
  have hz := hk.size
  refine ⟨hk.below h.bel (fun j hj => hj.2), fun hn => ?_, fun hn => ?_, fun hn => ?_, fun hn => ?_, fun hn => ?_, fun hn => ?_, fun hn => ?_, fun hn => ?_⟩
  · obtain ⟨h1, h2, h3⟩ := h.g (by decide)
    exact ⟨h1.keeps hk (fun e => by omega), by rw [retag_old h1.lt]; exact h2, h3⟩
  · obtain ⟨h1, h2, h3, h4, h5, h6⟩ := h.q (by decide)
    refine ⟨OwnR.keeps h1 hk (fun j hj e => by have := (h2 j hj).1; omega), fun j hj => ⟨by rw [retag_old (OwnR.lt h1 hj).2]; exact (h2 j hj).1, (h2 j hj).2⟩, ?_, by rw [retag_old h6]; exact h4, h5, by omega⟩
    rw [hk.block mb h6 (fun e => by omega)]
    exact h3
  · obtain ⟨h1, h2⟩ := h.i (by decide)
    exact ⟨h1.keeps hk (fun j hj e => by have := h2 j hj; omega), fun j hj => by rw [retag_old (h1.lt2 hj).2]; exact h2 j hj⟩
  · obtain ⟨h1, h2⟩ := h.e (by decide)
    exact ⟨h1.keeps hk (fun j hj e => by have := h2 j hj; omega), fun j hj => by rw [retag_old (h1.blk hj).2]; exact h2 j hj⟩
  · obtain ⟨h1, h2⟩ := h.l (by decide)
    exact ⟨h1.keeps hk (fun j hj e => by have := h2 j hj; omega), fun j hj => by rw [retag_old (h1.lt2 hj).2]; exact h2 j hj⟩
  · obtain ⟨h1, h2⟩ := h.b (by decide)
    exact ⟨OwnR.keeps h1 hk (fun j hj e => by have := h2 j hj; omega), fun j hj => by rw [retag_old (OwnR.lt h1 hj).2]; exact h2 j hj⟩
  · obtain ⟨h1, h2⟩ := h.rw_ (by decide)
    exact ⟨OwnR.keeps h1 hk (fun j hj e => by have := h2 j hj; omega), fun j hj => by rw [retag_old (OwnR.lt h1 hj).2]; exact h2 j hj⟩
  · intro j h1 h2
    obtain ⟨h3, h4, h5⟩ := h.z (by decide) j h1 h2
    exact ⟨by rw [retag_old h4]; exact h3, by omega, (hk.block j h4 (fun e => by omega)).trans h5⟩
end
/-- all parts -/
def WSt (W : World) (tq : TypeId) (gB mb lo hi : Nat) (Wz : World) (M : Option Obj → Prop) (vi ve vl : Value) (X : WX) (C : WC) (w : World) : Prop := ∃ T, WStT 99 T W tq gB mb lo hi Wz M vi ve vl X C w
section
variable {W : World} {tq : TypeId} {gB mb lo hi : Nat} {Wz : World} {M : Option Obj → Prop} {vi ve vl : Value} {X : WX} {C : WC} {w w' wA : World}
theorem WSt.bel (h : WSt W tq gB mb lo hi Wz M vi ve vl X C w) : Below W.heap.size W w := by obtain ⟨T, h⟩ := h; exact h.bel
theorem WSt.g (h : WSt W tq gB mb lo hi Wz M vi ve vl X C w) : RowAt w gB TG [vi, ve, vl] := by obtain ⟨T, h⟩ := h; exact (h.g (by decide)).1
theorem WSt.gle (h : WSt W tq gB mb lo hi Wz M vi ve vl X C w) : W.heap.size ≤ gB := by obtain ⟨T, h⟩ := h; exact (h.g (by decide)).2.2
theorem WSt.q (h : WSt W tq gB mb lo hi Wz M vi ve vl X C w) : OwnQ w W.heap.size tq X.qa X.qc C.l := by obtain ⟨T, h⟩ := h; exact (h.q (by decide)).1
theorem WSt.qne (h : WSt W tq gB mb lo hi Wz M vi ve vl X C w) : ∀ j, OB X.qa C.l.length X.qc = some j → j ≠ mb := by obtain ⟨T, h⟩ := h; exact fun j hj => ((h.q (by decide)).2.1 j hj).2
theorem WSt.m (h : WSt W tq gB mb lo hi Wz M vi ve vl X C w) : M w.heap[mb]? := by obtain ⟨T, h⟩ := h; exact (h.q (by decide)).2.2.1
theorem WSt.mle (h : WSt W tq gB mb lo hi Wz M vi ve vl X C w) : W.heap.size ≤ mb ∧ mb < w.heap.size := by obtain ⟨T, h⟩ := h; exact (h.q (by decide)).2.2.2.2
theorem WSt.i (h : WSt W tq gB mb lo hi Wz M vi ve vl X C w) : OwnN .i64 w W.heap.size TyI X.ia C.init.length X.ic C.init := by obtain ⟨T, h⟩ := h; exact (h.i (by decide)).1
theorem WSt.e (h : WSt W tq gB mb lo hi Wz M vi ve vl X C w) : EsOwn w W.heap.size X.ea X.ec C.S := by obtain ⟨T, h⟩ := h; exact (h.e (by decide)).1
theorem WSt.l (h : WSt W tq gB mb lo hi Wz M vi ve vl X C w) : OwnN .u64 w W.heap.size TU X.la C.labs.length X.lc (natI C.labs) := by obtain ⟨T, h⟩ := h; exact (h.l (by decide)).1
theorem WSt.b (h : WSt W tq gB mb lo hi Wz M vi ve vl X C w) : OwnR w W.heap.size TyB 1 X.ba C.ins.length X.bc (bcells C.ins) := by obtain ⟨T, h⟩ := h; exact (h.b (by decide)).1
theorem WSt.rw_ (h : WSt W tq gB mb lo hi Wz M vi ve vl X C w) : OwnP w W.heap.size TE X.ra C.row.length X.rc C.row := by obtain ⟨T, h⟩ := h; exact (h.rw_ (by decide)).1
theorem WSt.z (h : WSt W tq gB mb lo hi Wz M vi ve vl X C w) {j : Nat} (h1 : lo ≤ j) (h2 : j < hi) : w.heap[j]? = Wz.heap[j]? := by obtain ⟨T, h⟩ := h; exact (h.z (by decide) j h1 h2).2.2
theorem WSt.below (h : WSt W tq gB mb lo hi Wz M vi ve vl X C w) (hb : Below w.heap.size w w') : WSt W tq gB mb lo hi Wz M vi ve vl X C w' := by
  obtain ⟨T, h⟩ := h
  have h1 := h.touch 50 (Keeps.of_below hb)
  exact ⟨_, ⟨h1.bel, fun _ => h1.g (by decide), fun _ => h1.q (by decide), fun _ => h1.i (by decide), fun _ => h1.e (by decide), fun _ => h1.l (by decide), fun _ => h1.b (by decide), fun _ => h1.rw_ (by decide), fun _ => h1.z (by decide)⟩⟩
theorem WSt.drewN (h : WSt W tq gB mb lo hi Wz M vi ve vl X C w) (n : Nat) : WSt W tq gB mb lo hi Wz M vi ve vl X C (w.drewN n) := h.below (bdrewN (Below.refl _ _) n)
theorem WSt.drew (h : WSt W tq gB mb lo hi Wz M vi ve vl X C w) : WSt W tq gB mb lo hi Wz M vi ve vl X C w.drew := h.drewN 1
theorem WSt.g0 (h : WSt W tq gB mb lo hi Wz M vi ve vl X C w) (v : Value) : WSt W tq gB mb lo hi Wz M v ve vl X C (w.setCell ⟨gB, 0, none⟩ v) := by
  obtain ⟨T, h⟩ := h
  obtain ⟨a1, a2, a3⟩ := h.g (by decide)
  have h1 := h.touch 0 (Keeps.set w gB 0 v ⟨a2, a3⟩)
  exact ⟨_, ⟨h1.bel, fun _ => ⟨a1.set 0 v, by rw [retag_old a1.lt]; exact a2, a3⟩, fun _ => h1.q (by decide), fun _ => h1.i (by decide), fun _ => h1.e (by decide), fun _ => h1.l (by decide), fun _ => h1.b (by decide), fun _ => h1.rw_ (by decide), fun _ => h1.z (by decide)⟩⟩
theorem WSt.g1 (h : WSt W tq gB mb lo hi Wz M vi ve vl X C w) (v : Value) : WSt W tq gB mb lo hi Wz M vi v vl X C (w.setCell ⟨gB, 1, none⟩ v) := by
  obtain ⟨T, h⟩ := h
  obtain ⟨a1, a2, a3⟩ := h.g (by decide)
  have h1 := h.touch 0 (Keeps.set w gB 1 v ⟨a2, a3⟩)
  exact ⟨_, ⟨h1.bel, fun _ => ⟨a1.set 1 v, by rw [retag_old a1.lt]; exact a2, a3⟩, fun _ => h1.q (by decide), fun _ => h1.i (by decide), fun _ => h1.e (by decide), fun _ => h1.l (by decide), fun _ => h1.b (by decide), fun _ => h1.rw_ (by decide), fun _ => h1.z (by decide)⟩⟩
theorem WSt.g2 (h : WSt W tq gB mb lo hi Wz M vi ve vl X C w) (v : Value) : WSt W tq gB mb lo hi Wz M vi ve v X C (w.setCell ⟨gB, 2, none⟩ v) := by
  obtain ⟨T, h⟩ := h
  obtain ⟨a1, a2, a3⟩ := h.g (by decide)
  have h1 := h.touch 0 (Keeps.set w gB 2 v ⟨a2, a3⟩)
  exact ⟨_, ⟨h1.bel, fun _ => ⟨a1.set 2 v, by rw [retag_old a1.lt]; exact a2, a3⟩, fun _ => h1.q (by decide), fun _ => h1.i (by decide), fun _ => h1.e (by decide), fun _ => h1.l (by decide), fun _ => h1.b (by decide), fun _ => h1.rw_ (by decide), fun _ => h1.z (by decide)⟩⟩
/-- only what a part held, and what is new -/
def Fresh (w : World) (o o' : Option Nat) : Prop := ∀ j, o' = some j → o = some j ∨ w.heap.size ≤ j
/-- the pairs and what finds them were turned -/
theorem WSt.toQ {M' : Option Obj → Prop} {qa' : Option Addr} {qc' : Nat} {l' : List PP} (h : WSt W tq gB mb lo hi Wz M vi ve vl X C w) (hk : Keeps w w' (fun j => j = mb ∨ OB X.qa C.l.length X.qc = some j)) (ho : OwnQ w' W.heap.size tq qa' qc' l') (hf : Fresh w (OB X.qa C.l.length X.qc) (OB qa' l'.length qc')) (hm : M' w'.heap[mb]?) :
    WSt W tq gB mb lo hi Wz M' vi ve vl { X with qa := qa', qc := qc' } { C with l := l' } w' := by
  obtain ⟨T, h⟩ := h
  obtain ⟨a1, a2, a3, a4, a5, a6⟩ := h.q (by decide)
  have hz := hk.size
  have h1 := h.touch (w' := w') 1 ⟨hk.os, hk.tape, hk.output, hk.size, fun j hj hn => hk.block j hj (fun e => hn (by
    rcases e with e | e
    · exact ⟨by rw [e]; exact a4, by omega⟩
    · exact ⟨(a2 j e).1, (OwnR.lt a1 e).1⟩))⟩
  refine ⟨_, ⟨h1.bel, fun _ => h1.g (by decide), fun _ => ⟨ho, fun j hj => ?_, hm, by rw [retag_old a6]; exact a4, a5, by omega⟩, fun _ => h1.i (by decide), fun _ => h1.e (by decide), fun _ => h1.l (by decide), fun _ => h1.b (by decide), fun _ => h1.rw_ (by decide), fun _ => h1.z (by decide)⟩⟩
  rcases hf j hj with h2 | h2
  · exact ⟨by rw [retag_old (OwnR.lt a1 h2).2]; exact (a2 j h2).1, (a2 j h2).2⟩
  · exact ⟨retag_new h2, by omega⟩
theorem grown_keeps {row : Option Nat} (hA : Below w.heap.size w wA) (hg : wA.grownBy w' row) : Keeps w w' (fun j => row = some j) :=
  (Keeps.of_below (S := fun j => row = some j) hA).trans (Keeps.of_grown (S := fun j => row = some j) hg (fun j e => e)) (fun _ _ h => h)
theorem fresh_of {o o' : Option Nat} (hA : Below w.heap.size w wA) (hat : o' = o ∨ o' = some wA.heap.size) : Fresh w o o' := fun j hj => by
  rcases hat with h | h
  · exact .inl (by rw [← h]; exact hj)
  · rw [h] at hj
    cases hj
    exact .inr hA.size
/-- a number is put behind the first nodes -/
theorem WSt.toI {ia' : Option Addr} {ic' : Nat} {xs : List Int} (h : WSt W tq gB mb lo hi Wz M vi ve vl X C w) (hA : Below w.heap.size w wA) (hg : wA.grownBy w' (OB X.ia C.init.length X.ic)) (ho : OwnN .i64 w' W.heap.size TyI ia' xs.length ic' xs) (hf : Fresh w (OB X.ia C.init.length X.ic) (OB ia' xs.length ic')) :
    WSt W tq gB mb lo hi Wz M vi ve vl { X with ia := ia', ic := ic' } { C with init := xs } w' := by
  obtain ⟨T, h⟩ := h
  obtain ⟨a1, a2⟩ := h.i (by decide)
  have hk := grown_keeps hA hg
  have h1 := h.touch (w' := w') 3 ⟨hk.os, hk.tape, hk.output, hk.size, fun j hj hn => hk.block j hj (fun e => hn ⟨a2 j e, (a1.lt2 e).1⟩)⟩
  refine ⟨_, ⟨h1.bel, fun _ => h1.g (by decide), fun _ => h1.q (by decide), fun _ => ⟨ho, fun j hj => ?_⟩, fun _ => h1.e (by decide), fun _ => h1.l (by decide), fun _ => h1.b (by decide), fun _ => h1.rw_ (by decide), fun _ => h1.z (by decide)⟩⟩
  rcases hf j hj with h2 | h2
  · rw [retag_old (a1.lt2 h2).2]; exact a2 j h2
  · exact retag_new h2
theorem WSt.toL {la' : Option Addr} {lc' : Nat} {xs : List Nat} (h : WSt W tq gB mb lo hi Wz M vi ve vl X C w) (hA : Below w.heap.size w wA) (hg : wA.grownBy w' (OB X.la C.labs.length X.lc)) (ho : OwnN .u64 w' W.heap.size TU la' xs.length lc' (natI xs)) (hf : Fresh w (OB X.la C.labs.length X.lc) (OB la' xs.length lc')) :
    WSt W tq gB mb lo hi Wz M vi ve vl { X with la := la', lc := lc' } { C with labs := xs } w' := by
  obtain ⟨T, h⟩ := h
  obtain ⟨a1, a2⟩ := h.l (by decide)
  have hk := grown_keeps hA hg
  have h1 := h.touch (w' := w') 5 ⟨hk.os, hk.tape, hk.output, hk.size, fun j hj hn => hk.block j hj (fun e => hn ⟨a2 j e, (a1.lt2 e).1⟩)⟩
  refine ⟨_, ⟨h1.bel, fun _ => h1.g (by decide), fun _ => h1.q (by decide), fun _ => h1.i (by decide), fun _ => h1.e (by decide), fun _ => ⟨ho, fun j hj => ?_⟩, fun _ => h1.b (by decide), fun _ => h1.rw_ (by decide), fun _ => h1.z (by decide)⟩⟩
  rcases hf j hj with h2 | h2
  · rw [retag_old (a1.lt2 h2).2]; exact a2 j h2
  · exact retag_new h2
theorem WSt.toB {ba' : Option Addr} {bc' : Nat} {xs : List Bool} (h : WSt W tq gB mb lo hi Wz M vi ve vl X C w) (hA : Below w.heap.size w wA) (hg : wA.grownBy w' (OB X.ba C.ins.length X.bc)) (ho : OwnR w' W.heap.size TyB 1 ba' xs.length bc' (bcells xs)) (hf : Fresh w (OB X.ba C.ins.length X.bc) (OB ba' xs.length bc')) :
    WSt W tq gB mb lo hi Wz M vi ve vl { X with ba := ba', bc := bc' } { C with ins := xs } w' := by
  obtain ⟨T, h⟩ := h
  obtain ⟨a1, a2⟩ := h.b (by decide)
  have hk := grown_keeps hA hg
  have h1 := h.touch (w' := w') 6 ⟨hk.os, hk.tape, hk.output, hk.size, fun j hj hn => hk.block j hj (fun e => hn ⟨a2 j e, (OwnR.lt a1 e).1⟩)⟩
  refine ⟨_, ⟨h1.bel, fun _ => h1.g (by decide), fun _ => h1.q (by decide), fun _ => h1.i (by decide), fun _ => h1.e (by decide), fun _ => h1.l (by decide), fun _ => ⟨ho, fun j hj => ?_⟩, fun _ => h1.rw_ (by decide), fun _ => h1.z (by decide)⟩⟩
  rcases hf j hj with h2 | h2
  · rw [retag_old (OwnR.lt a1 h2).2]; exact a2 j h2
  · exact retag_new h2
theorem WSt.toR {ra' : Option Addr} {rc' : Nat} {xs : List PR} (h : WSt W tq gB mb lo hi Wz M vi ve vl X C w) (hA : Below w.heap.size w wA) (hg : wA.grownBy w' (OB X.ra C.row.length X.rc)) (ho : OwnP w' W.heap.size TE ra' xs.length rc' xs) (hf : Fresh w (OB X.ra C.row.length X.rc) (OB ra' xs.length rc')) :
    WSt W tq gB mb lo hi Wz M vi ve vl { X with ra := ra', rc := rc' } { C with row := xs } w' := by
  obtain ⟨T, h⟩ := h
  obtain ⟨a1, a2⟩ := h.rw_ (by decide)
  have hk := grown_keeps hA hg
  have h1 := h.touch (w' := w') 7 ⟨hk.os, hk.tape, hk.output, hk.size, fun j hj hn => hk.block j hj (fun e => hn ⟨a2 j e, (OwnR.lt a1 e).1⟩)⟩
  refine ⟨_, ⟨h1.bel, fun _ => h1.g (by decide), fun _ => h1.q (by decide), fun _ => h1.i (by decide), fun _ => h1.e (by decide), fun _ => h1.l (by decide), fun _ => h1.b (by decide), fun _ => ⟨ho, fun j hj => ?_⟩, fun _ => h1.z (by decide)⟩⟩
  rcases hf j hj with h2 | h2
  · rw [retag_old (OwnR.lt a1 h2).2]; exact a2 j h2
  · exact retag_new h2
/-- the row is put behind the rows; the next one begins -/
theorem WSt.toE {ea' : Option Addr} {ec' : Nat} (h : WSt W tq gB mb lo hi Wz M vi ve vl X C w) (hA : Below w.heap.size w wA) (hg : wA.grownBy w' (OB X.ea C.S.length X.ec)) (ho : OwnR w' W.heap.size TEs 1 ea' (C.S.length + 1) ec' (C.S.map ecell ++ [ecell (X.ra, X.rc, C.row)])) (hat : OB ea' (C.S.length + 1) ec' = OB X.ea C.S.length X.ec ∨ OB ea' (C.S.length + 1) ec' = some wA.heap.size) :
    WSt W tq gB mb lo hi Wz M vi ve vl { X with ea := ea', ec := ec', ra := none, rc := 0 } { C with S := C.S ++ [(X.ra, X.rc, C.row)], row := [] } w' := by
  obtain ⟨T, h⟩ := h
  obtain ⟨a1, a2⟩ := h.e (by decide)
  obtain ⟨b1, b2⟩ := h.rw_ (by decide)
  have hk := grown_keeps hA hg
  have hz := hk.size
  have h1 := h.touch (w' := w') 4 ⟨hk.os, hk.tape, hk.output, hk.size, fun j hj hn => hk.block j hj (fun e => hn ⟨a2 j (.inl e), (a1.blk (.inl e)).1⟩)⟩
  have hes := a1.app (s := (X.ra, X.rc, C.row)) b1 (fun j hj e => by have := a2 j (.inl e); have := b2 j hj; omega) hA ho hg hat
  have ht : ∀ j, retag T w.heap.size 4 j ≠ 7 → (if retag T w.heap.size 4 j = 7 then 4 else retag T w.heap.size 4 j) = retag T w.heap.size 4 j := fun j hj => if_neg hj
  have hel : (C.S ++ [(X.ra, X.rc, C.row)]).length = C.S.length + 1 := by simp
  refine ⟨fun j => if retag T w.heap.size 4 j = 7 then 4 else retag T w.heap.size 4 j, ⟨h1.bel, fun _ => ?_, fun _ => ?_, fun _ => ?_, fun _ => ⟨hes, fun j hj => ?_⟩, fun _ => ?_, fun _ => ?_, fun _ => ⟨OwnR.nil _ _ _ _, fun j hj => by simp [OB, Value.ownBlock] at hj⟩, fun _ => ?_⟩⟩
  · obtain ⟨c1, c2, c3⟩ := h1.g (by decide)
    exact ⟨c1, by rw [ht _ (by omega)]; exact c2, c3⟩
  · obtain ⟨c1, c2, c3, c4, c5⟩ := h1.q (by decide)
    exact ⟨c1, fun j hj => ⟨by have := (c2 j hj).1; rw [ht _ (by omega)]; exact this, (c2 j hj).2⟩, c3, by rw [ht _ (by omega)]; exact c4, c5⟩
  · obtain ⟨c1, c2⟩ := h1.i (by decide)
    exact ⟨c1, fun j hj => by have := c2 j hj; rw [ht _ (by omega)]; exact this⟩
  · rcases hj with hj | ⟨s, hs, hj⟩
    · rw [hel] at hj
      rcases fresh_of hA hat j hj with h2 | h2
      · have := a2 j (.inl h2)
        rw [← retag_old (T := T) (k := 4) (a1.blk (.inl h2)).2] at this
        rw [if_neg (by omega)]
        exact this
      · have := retag_new (T := T) (k := 4) h2
        rw [if_neg (by omega)]
        exact this
    · rcases List.mem_append.1 hs with hs | hs
      · have := a2 j (.inr ⟨s, hs, hj⟩)
        rw [← retag_old (T := T) (k := 4) (a1.blk (.inr ⟨s, hs, hj⟩)).2] at this
        rw [if_neg (by omega)]
        exact this
      · simp only [List.mem_singleton] at hs
        subst hs
        have := b2 j hj
        rw [← retag_old (T := T) (k := 4) (OwnR.lt b1 hj).2] at this
        rw [if_pos this]
  · obtain ⟨c1, c2⟩ := h1.l (by decide)
    exact ⟨c1, fun j hj => by have := c2 j hj; rw [ht _ (by omega)]; exact this⟩
  · obtain ⟨c1, c2⟩ := h1.b (by decide)
    exact ⟨c1, fun j hj => by have := c2 j hj; rw [ht _ (by omega)]; exact this⟩
  · intro j c1 c2
    obtain ⟨c3, c4, c5⟩ := h1.z (by decide) j c1 c2
    exact ⟨by rw [ht _ (by omega)]; exact c3, c4, c5⟩
/-- whatever is new is foreign from here on -/
theorem WSt.snap (h : WSt W tq gB mb lo hi Wz M vi ve vl X C w) (hb : Below w.heap.size w w') : WSt W tq gB mb w.heap.size w'.heap.size w' M vi ve vl X C w' := by
  obtain ⟨T, h⟩ := h
  have h1 := h.touch 9 (Keeps.of_below hb)
  exact ⟨_, ⟨h1.bel, fun _ => h1.g (by decide), fun _ => h1.q (by decide), fun _ => h1.i (by decide), fun _ => h1.e (by decide), fun _ => h1.l (by decide), fun _ => h1.b (by decide), fun _ => h1.rw_ (by decide), fun _ j c1 c2 => ⟨retag_new c1, c2, rfl⟩⟩⟩
theorem WSt.forget (h : WSt W tq gB mb lo hi Wz M vi ve vl X C w) : WSt W tq gB mb 0 0 W M vi ve vl X C w := by
  obtain ⟨T, h1⟩ := h
  exact ⟨_, ⟨h1.bel, fun _ => h1.g (by decide), fun _ => h1.q (by decide), fun _ => h1.i (by decide), fun _ => h1.e (by decide), fun _ => h1.l (by decide), fun _ => h1.b (by decide), fun _ => h1.rw_ (by decide), fun _ j c1 c2 => by omega⟩⟩
/-- pairs that are foreign stay -/
theorem WSt.pps (h : WSt W tq gB mb lo hi Wz M vi ve vl X C w) {a : Option Addr} {l : List PP} (hp : PpsAt Wz a l) (ha : ∀ ad, a = some ad → lo ≤ ad.block ∧ ad.block < hi) : PpsAt w a l := fun h0 => by
  obtain ⟨b, off, e, hc⟩ := hp h0
  obtain ⟨h1, h2⟩ := ha _ e
  have hk : ∀ o, w.cell? ⟨b, o, none⟩ = Wz.cell? ⟨b, o, none⟩ := fun o => World.cell?_of_block (a := ⟨b, o, none⟩) (h.z h1 h2)
  refine ⟨b, off, e, fun i hi => ?_⟩
  obtain ⟨c0, c1, c2⟩ := hc i hi
  exact ⟨(hk _).trans c0, (hk _).trans c1, (hk _).trans c2⟩
end
/-- nothing but the blocks of its own -/
theorem WSt.start {W w : World} {tq : TypeId} {gB mb : Nat} {M : Option Obj → Prop} (hb : Below W.heap.size W w) (hg : RowAt w gB TG [.slice none 0 0, .slice none 0 0, .slice none 0 0]) (hm : M w.heap[mb]?) (hml : mb < w.heap.size) (h1 : W.heap.size ≤ gB) (h3 : W.heap.size ≤ mb) (n2 : gB ≠ mb) :
    WSt W tq gB mb 0 0 W M (.slice none 0 0) (.slice none 0 0) (.slice none 0 0) ⟨none, 0, none, 0, none, 0, none, 0, none, 0, none, 0⟩ ⟨[], [], [], [], [], []⟩ w := by
  refine ⟨fun j => if j = gB then 0 else 1, ⟨hb, fun _ => ⟨hg, if_pos rfl, h1⟩, fun _ => ⟨OwnR.nil _ _ _ _, fun j hj => by simp [OB, Value.ownBlock] at hj, hm, ?_, h3, hml⟩, fun _ => ⟨OwnN.nil _ _ _ _, fun j hj => by simp [OB, Value.ownBlock] at hj⟩, fun _ => ⟨EsOwn.nil _ _, fun j hj => ?_⟩, fun _ => ⟨OwnN.nil _ _ _ _, fun j hj => by simp [OB, Value.ownBlock] at hj⟩, fun _ => ⟨OwnR.nil _ _ _ _, fun j hj => by simp [OB, Value.ownBlock] at hj⟩, fun _ => ⟨OwnR.nil _ _ _ _, fun j hj => by simp [OB, Value.ownBlock] at hj⟩, fun _ j c1 c2 => by omega⟩⟩
  · rw [if_neg (by omega)]
  · rcases hj with hj | ⟨s, hs, _⟩
    · simp [OB, Value.ownBlock] at hj
    · simp at hs
end Go.Proofs.Ytmlbjfaofppikaa
