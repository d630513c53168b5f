/- What a call holds while it makes the whole product: its parts lie apart, and stay so whatever grows. No conditions. A map of pairs to numbers, and the program's number. Conditions: the bound on how many. The whole product in plain lists. No conditions. -/
import Derived.Test.YtfcpfcgcfaacnaaSPrLawIn
import Derived.BigRegion
namespace Go.Proofs.Ytfcpfcgcfaacnaa
set_option linter.unusedVariables false
open Go.RowKit
abbrev TyB : Nat := 4
structure WX where
 ia : Option Addr
 ic : Nat
 ea : Option Addr
 ec : Nat
 la : Option Addr
 lc : Nat
 qa : Option Addr
 qc : Nat
 ba : Option Addr
 bc : Nat
 ra : Option Addr
 rc : Nat
structure WC where
 init : List Int
 S : List ER
 labs : List Nat
 l : List PP
 ins : List Bool
 row : List PR
def bcells (l : List Bool) : List Value := l.map .bool
structure WStT (k : Nat) (T : Nat → Nat) (W : World) (tq : TypeId) (gB mb lo hi : Nat) (Wz : World) (M : Option Obj → Prop) (vi ve vl : Value) (X : WX) (C : WC) (w : World) : Prop where
 bel : Below W.heap.size W w
 g : k ≠ 0 → RowAt w gB TG [vi, ve, vl] ∧ T gB = 0 ∧ W.heap.size ≤ gB
 q : k ≠ 1 → OwnQ w W.heap.size tq X.qa X.qc C.l ∧ (∀ j, OB X.qa C.l.length X.qc = some j → T j = 1 ∧ j ≠ mb) ∧ M w.heap[mb]? ∧ T mb = 1 ∧ W.heap.size ≤ mb ∧ mb < w.heap.size
 i : k ≠ 3 → OwnN .i64 w W.heap.size TyI X.ia C.init.length X.ic C.init ∧ ∀ j, OB X.ia C.init.length X.ic = some j → T j = 3
 e : k ≠ 4 → EsOwn w W.heap.size X.ea X.ec C.S ∧ ∀ j, EsBlk X.ea X.ec C.S j → T j = 4
 l : k ≠ 5 → OwnN .u64 w W.heap.size TU X.la C.labs.length X.lc (natI C.labs) ∧ ∀ j, OB X.la C.labs.length X.lc = some j → T j = 5
 b : k ≠ 6 → OwnR w W.heap.size TyB 1 X.ba C.ins.length X.bc (bcells C.ins) ∧ ∀ j, OB X.ba C.ins.length X.bc = some j → T j = 6
 rw_ : k ≠ 7 → OwnP w W.heap.size TE X.ra C.row.length X.rc C.row ∧ ∀ j, OB X.ra C.row.length X.rc = some j → T j = 7
 z : k ≠ 9 → ∀ j, lo ≤ j → j < hi → T j = 9 ∧ j < w.heap.size ∧ w.heap[j]? = Wz.heap[j]?
def retag (T : Nat → Nat) (n k : Nat) : Nat → Nat := fun j => if j < n then T j else k
theorem retag_old {T : Nat → Nat} {n k j : Nat} (h : j < n) : retag T n k j = T j := if_pos h
theorem retag_new {T : Nat → Nat} {n k j : Nat} (h : n ≤ j) : retag T n k j = k := if_neg (by omega)
section
variable {k : Nat} {T : Nat → Nat} {W : World} {tq : TypeId} {gB mb lo hi : Nat} {Wz : World} {M : Option Obj → Prop} {vi ve vl : Value} {X : WX} {C : WC} {w w' : World}
theorem WStT.touch (h : WStT 99 T W tq gB mb lo hi Wz M vi ve vl X C w) (k : Nat) (hk : Keeps w w' (fun j => T j = k ∧ W.heap.size ≤ j)) : WStT k (retag T w.heap.size k) W tq gB mb lo hi Wz M vi ve vl X C w' := by
 have hz := hk.size
 refine ⟨hk.below h.bel (fun j hj => hj.2), fun hn => ?_, fun hn => ?_, fun hn => ?_, fun hn => ?_, fun hn => ?_, fun hn => ?_, fun hn => ?_, fun hn => ?_⟩
 ·obtain ⟨h1, h2, h3⟩ := h.g (by decide)
  exact ⟨h1.keeps hk (fun e => by omega), by rw [retag_old h1.lt]; exact h2, h3⟩
 ·obtain ⟨h1, h2, h3, h4, h5, h6⟩ := h.q (by decide)
  refine ⟨OwnR.keeps h1 hk (fun j hj e => by have := (h2 j hj).1; omega), fun j hj => ⟨by rw [retag_old (OwnR.lt h1 hj).2]; exact (h2 j hj).1, (h2 j hj).2⟩, ?_, by rw [retag_old h6]; exact h4, h5, by omega⟩
  rw [hk.block mb h6 (fun e => by omega)]
  exact h3
 ·obtain ⟨h1, h2⟩ := h.i (by decide)
  exact ⟨h1.keeps hk (fun j hj e => by have := h2 j hj; omega), fun j hj => by rw [retag_old (h1.lt2 hj).2]; exact h2 j hj⟩
 ·obtain ⟨h1, h2⟩ := h.e (by decide)
  exact ⟨h1.keeps hk (fun j hj e => by have := h2 j hj; omega), fun j hj => by rw [retag_old (h1.blk hj).2]; exact h2 j hj⟩
 ·obtain ⟨h1, h2⟩ := h.l (by decide)
  exact ⟨h1.keeps hk (fun j hj e => by have := h2 j hj; omega), fun j hj => by rw [retag_old (h1.lt2 hj).2]; exact h2 j hj⟩
 ·obtain ⟨h1, h2⟩ := h.b (by decide)
  exact ⟨OwnR.keeps h1 hk (fun j hj e => by have := h2 j hj; omega), fun j hj => by rw [retag_old (OwnR.lt h1 hj).2]; exact h2 j hj⟩
 ·obtain ⟨h1, h2⟩ := h.rw_ (by decide)
  exact ⟨OwnR.keeps h1 hk (fun j hj e => by have := h2 j hj; omega), fun j hj => by rw [retag_old (OwnR.lt h1 hj).2]; exact h2 j hj⟩
 ·intro j h1 h2
  obtain ⟨h3, h4, h5⟩ := h.z (by decide) j h1 h2
  exact ⟨by rw [retag_old h4]; exact h3, by omega, (hk.block j h4 (fun e => by omega)).trans h5⟩
end
def WSt (W : World) (tq : TypeId) (gB mb lo hi : Nat) (Wz : World) (M : Option Obj → Prop) (vi ve vl : Value) (X : WX) (C : WC) (w : World) : Prop := ∃ T, WStT 99 T W tq gB mb lo hi Wz M vi ve vl X C w
section
variable {W : World} {tq : TypeId} {gB mb lo hi : Nat} {Wz : World} {M : Option Obj → Prop} {vi ve vl : Value} {X : WX} {C : WC} {w w' wA : World}
theorem WSt.bel (h : WSt W tq gB mb lo hi Wz M vi ve vl X C w) : Below W.heap.size W w := by obtain ⟨T, h⟩ := h; exact h.bel
theorem WSt.g (h : WSt W tq gB mb lo hi Wz M vi ve vl X C w) : RowAt w gB TG [vi, ve, vl] := by obtain ⟨T, h⟩ := h; exact (h.g (by decide)).1
theorem WSt.q (h : WSt W tq gB mb lo hi Wz M vi ve vl X C w) : OwnQ w W.heap.size tq X.qa X.qc C.l := by obtain ⟨T, h⟩ := h; exact (h.q (by decide)).1
theorem WSt.m (h : WSt W tq gB mb lo hi Wz M vi ve vl X C w) : M w.heap[mb]? := by obtain ⟨T, h⟩ := h; exact (h.q (by decide)).2.2.1
theorem WSt.i (h : WSt W tq gB mb lo hi Wz M vi ve vl X C w) : OwnN .i64 w W.heap.size TyI X.ia C.init.length X.ic C.init := by obtain ⟨T, h⟩ := h; exact (h.i (by decide)).1
theorem WSt.e (h : WSt W tq gB mb lo hi Wz M vi ve vl X C w) : EsOwn w W.heap.size X.ea X.ec C.S := by obtain ⟨T, h⟩ := h; exact (h.e (by decide)).1
theorem WSt.l (h : WSt W tq gB mb lo hi Wz M vi ve vl X C w) : OwnN .u64 w W.heap.size TU X.la C.labs.length X.lc (natI C.labs) := by obtain ⟨T, h⟩ := h; exact (h.l (by decide)).1
theorem WSt.b (h : WSt W tq gB mb lo hi Wz M vi ve vl X C w) : OwnR w W.heap.size TyB 1 X.ba C.ins.length X.bc (bcells C.ins) := by obtain ⟨T, h⟩ := h; exact (h.b (by decide)).1
theorem WSt.rw_ (h : WSt W tq gB mb lo hi Wz M vi ve vl X C w) : OwnP w W.heap.size TE X.ra C.row.length X.rc C.row := by obtain ⟨T, h⟩ := h; exact (h.rw_ (by decide)).1
theorem WSt.z (h : WSt W tq gB mb lo hi Wz M vi ve vl X C w) {j : Nat} (h1 : lo ≤ j) (h2 : j < hi) : w.heap[j]? = Wz.heap[j]? := by obtain ⟨T, h⟩ := h; exact (h.z (by decide) j h1 h2).2.2
theorem WSt.below (h : WSt W tq gB mb lo hi Wz M vi ve vl X C w) (hb : Below w.heap.size w w') : WSt W tq gB mb lo hi Wz M vi ve vl X C w' := by
 obtain ⟨T, h⟩ := h
 have h1 := h.touch 50 (Keeps.of_below hb)
 exact ⟨_, ⟨h1.bel, fun _ => h1.g (by decide), fun _ => h1.q (by decide), fun _ => h1.i (by decide), fun _ => h1.e (by decide), fun _ => h1.l (by decide), fun _ => h1.b (by decide), fun _ => h1.rw_ (by decide), fun _ => h1.z (by decide)⟩⟩
theorem WSt.drewN (h : WSt W tq gB mb lo hi Wz M vi ve vl X C w) (n : Nat) : WSt W tq gB mb lo hi Wz M vi ve vl X C (w.drewN n) := h.below (bdrewN (Below.refl _ _) n)
theorem WSt.drew (h : WSt W tq gB mb lo hi Wz M vi ve vl X C w) : WSt W tq gB mb lo hi Wz M vi ve vl X C w.drew := h.drewN 1
theorem WSt.g0 (h : WSt W tq gB mb lo hi Wz M vi ve vl X C w) (v : Value) : WSt W tq gB mb lo hi Wz M v ve vl X C (w.setCell ⟨gB, 0, none⟩ v) := by
 obtain ⟨T, h⟩ := h
 obtain ⟨a1, a2, a3⟩ := h.g (by decide)
 have h1 := h.touch 0 (Keeps.set w gB 0 v ⟨a2, a3⟩)
 exact ⟨_, ⟨h1.bel, fun _ => ⟨a1.set 0 v, by rw [retag_old a1.lt]; exact a2, a3⟩, fun _ => h1.q (by decide), fun _ => h1.i (by decide), fun _ => h1.e (by decide), fun _ => h1.l (by decide), fun _ => h1.b (by decide), fun _ => h1.rw_ (by decide), fun _ => h1.z (by decide)⟩⟩
theorem WSt.g1 (h : WSt W tq gB mb lo hi Wz M vi ve vl X C w) (v : Value) : WSt W tq gB mb lo hi Wz M vi v vl X C (w.setCell ⟨gB, 1, none⟩ v) := by
 obtain ⟨T, h⟩ := h
 obtain ⟨a1, a2, a3⟩ := h.g (by decide)
 have h1 := h.touch 0 (Keeps.set w gB 1 v ⟨a2, a3⟩)
 exact ⟨_, ⟨h1.bel, fun _ => ⟨a1.set 1 v, by rw [retag_old a1.lt]; exact a2, a3⟩, fun _ => h1.q (by decide), fun _ => h1.i (by decide), fun _ => h1.e (by decide), fun _ => h1.l (by decide), fun _ => h1.b (by decide), fun _ => h1.rw_ (by decide), fun _ => h1.z (by decide)⟩⟩
theorem WSt.g2 (h : WSt W tq gB mb lo hi Wz M vi ve vl X C w) (v : Value) : WSt W tq gB mb lo hi Wz M vi ve v X C (w.setCell ⟨gB, 2, none⟩ v) := by
 obtain ⟨T, h⟩ := h
 obtain ⟨a1, a2, a3⟩ := h.g (by decide)
 have h1 := h.touch 0 (Keeps.set w gB 2 v ⟨a2, a3⟩)
 exact ⟨_, ⟨h1.bel, fun _ => ⟨a1.set 2 v, by rw [retag_old a1.lt]; exact a2, a3⟩, fun _ => h1.q (by decide), fun _ => h1.i (by decide), fun _ => h1.e (by decide), fun _ => h1.l (by decide), fun _ => h1.b (by decide), fun _ => h1.rw_ (by decide), fun _ => h1.z (by decide)⟩⟩
theorem WSt.forget (h : WSt W tq gB mb lo hi Wz M vi ve vl X C w) : WSt W tq gB mb 0 0 W M vi ve vl X C w := by
 obtain ⟨T, h1⟩ := h
 exact ⟨_, ⟨h1.bel, fun _ => h1.g (by decide), fun _ => h1.q (by decide), fun _ => h1.i (by decide), fun _ => h1.e (by decide), fun _ => h1.l (by decide), fun _ => h1.b (by decide), fun _ => h1.rw_ (by decide), fun _ j c1 c2 => by omega⟩⟩
theorem WSt.pps (h : WSt W tq gB mb lo hi Wz M vi ve vl X C w) {a : Option Addr} {l : List PP} (hp : PpsAt Wz a l) (ha : ∀ ad, a = some ad → lo ≤ ad.block ∧ ad.block < hi) : PpsAt w a l := fun h0 => by
 obtain ⟨b, off, e, hc⟩ := hp h0
 obtain ⟨h1, h2⟩ := ha _ e
 have hk : ∀ o, w.cell? ⟨b, o, none⟩ = Wz.cell? ⟨b, o, none⟩ := fun o => World.cell?_of_block (a := ⟨b, o, none⟩) (h.z h1 h2)
 refine ⟨b, off, e, fun i hi => ?_⟩
 obtain ⟨c0, c1, c2⟩ := hc i hi
 exact ⟨(hk _).trans c0, (hk _).trans c1, (hk _).trans c2⟩
end
theorem WSt.start {W w : World} {tq : TypeId} {gB mb : Nat} {M : Option Obj → Prop} (hb : Below W.heap.size W w) (hg : RowAt w gB TG [.slice none 0 0, .slice none 0 0, .slice none 0 0]) (hm : M w.heap[mb]?) (hml : mb < w.heap.size) (h1 : W.heap.size ≤ gB) (h3 : W.heap.size ≤ mb) (n2 : gB ≠ mb) :
  WSt W tq gB mb 0 0 W M (.slice none 0 0) (.slice none 0 0) (.slice none 0 0) ⟨none, 0, none, 0, none, 0, none, 0, none, 0, none, 0⟩ ⟨[], [], [], [], [], []⟩ w := by
 refine ⟨fun j => if j = gB then 0 else 1, ⟨hb, fun _ => ⟨hg, if_pos rfl, h1⟩, fun _ => ⟨OwnR.nil _ _ _ _, fun j hj => by simp [OB, Value.ownBlock] at hj, hm, ?_, h3, hml⟩, fun _ => ⟨OwnN.nil _ _ _ _, fun j hj => by simp [OB, Value.ownBlock] at hj⟩, fun _ => ⟨EsOwn.nil _ _, fun j hj => ?_⟩, fun _ => ⟨OwnN.nil _ _ _ _, fun j hj => by simp [OB, Value.ownBlock] at hj⟩, fun _ => ⟨OwnR.nil _ _ _ _, fun j hj => by simp [OB, Value.ownBlock] at hj⟩, fun _ => ⟨OwnR.nil _ _ _ _, fun j hj => by simp [OB, Value.ownBlock] at hj⟩, fun _ j c1 c2 => by omega⟩⟩
 ·rw [if_neg (by omega)]
 ·rcases hj with hj | ⟨s, hs, _⟩
  ·simp [OB, Value.ownBlock] at hj
  ·simp at hs
end Go.Proofs.Ytfcpfcgcfaacnaa
namespace Go.Proofs.Ytfcpfcgcfaacnaa
open Go.RowKit Go.WideMaps
def NDgo : List PP → Nat → DataW Unit → DataW Unit
 | [], _, D => D
 | p :: l, i, D => NDgo l (i + 1) (D.put (qkey p) (.lit (.int .i64 (i : Int))))
def ND (l : List PP) : DataW Unit := NDgo l 0 (.map [])
theorem NDgo_snoc : ∀ (l : List PP) (i : Nat) (D : DataW Unit) (p : PP), NDgo (l ++ [p]) i D = (NDgo l i D).put (qkey p) (.lit (.int .i64 ((i + l.length : Nat) : Int)))
 | [], i, D, p => by simp [NDgo]
 | q :: l, i, D, p => by
  simp only [List.cons_append, NDgo, NDgo_snoc l, List.length_cons]
  rw [show i + 1 + l.length = i + (l.length + 1) by omega]
theorem ND_snoc (l : List PP) (p : PP) : ND (l ++ [p]) = (ND l).put (qkey p) (.lit (.int .i64 (l.length : Int))) := by
 unfold ND
 rw [NDgo_snoc, Nat.zero_add]
theorem ND_isMap (l : List PP) : Go.Maps.IsMap (ND l) := by
 induction l using snoc_rec with
 | h0 => exact Go.Maps.isMap_empty
 | h1 l p ih => rw [ND_snoc]; exact ih.put _ _
theorem ND_look (l : List PP) (hl : l.Nodup) (hok : ∀ p ∈ l, okPP p) (q : PP) (hq : okPP q) :
  Go.Maps.has (ND l) (qkey q) = decide (q ∈ l) ∧ ∀ z, (ND l).atKey (qkey q) z = if q ∈ l then .lit (.int .i64 (l.idxOf q : Int)) else z := by
 induction l using snoc_rec with
 | h0 => exact ⟨rfl, fun z => rfl⟩
 | h1 l p ih =>
  rw [List.nodup_append] at hl
  obtain ⟨hl1, _, hl2⟩ := hl
  have hp : p ∉ l := fun h => hl2 p h p (by simp) rfl
  obtain ⟨i1, i2⟩ := ih hl1 (fun x hx => hok x (by simp [hx]))
  rw [ND_snoc]
  by_cases he : q = p
  ·subst he
   rw [Go.Maps.has_put_same (ND_isMap l) (qkey_is _)]
   refine ⟨by simp, fun z => ?_⟩
   rw [Go.Maps.atKey_put_same (ND_isMap l) (qkey_is _), if_pos (by simp), List.idxOf_append, if_neg hp]
   simp
  ·have hk : qkey q ≠ qkey p := fun e => he (qkey_inj hq (hok p (by simp)) e)
   rw [Go.Maps.has_put_other hk, i1]
   refine ⟨by simp [he], fun z => ?_⟩
   rw [Go.Maps.atKey_put_other hk, i2]
   by_cases hm : q ∈ l
   ·rw [if_pos hm, if_pos (by simp [hm]), List.idxOf_append, if_pos hm]
   ·rw [if_neg hm, if_neg (by simp [hm, he])]
structure NMap (w : World) (b : Nat) (l : List PP) : Prop where
 own : w.ownsMap (H := Unit) Try.prog 82 (plainElem Try.prog 3) b l.length (ND l)
 nodup : l.Nodup
 ok : ∀ p ∈ l, okPP p
theorem NMap.lt {w : World} {b : Nat} {l : List PP} (h : NMap w b l) : b < w.heap.size := World.ownsMap.lt h.own
theorem NMap.keep {w w' : World} {b : Nat} {l : List PP} (h : NMap w b l) (hk : w'.heap[b]? = w.heap[b]?) : NMap w' b l := by
 obtain ⟨⟨es, cl, hb, r⟩, h2, h3⟩ := h
 exact ⟨⟨es, cl, hk.trans hb, r⟩, h2, h3⟩
theorem NMap.keeps {w w' : World} {b : Nat} {l : List PP} {S : Nat → Prop} (h : NMap w b l) (hk : Keeps w w' S) (hn : ¬ S b) : NMap w' b l := h.keep (hk.block b h.lt hn)
theorem NMap.made (w : World) : NMap (w.alloc (.map #[] 0)) w.heap.size [] := ⟨World.ownsMap_made _ _ _ _, List.nodup_nil, by simp⟩
theorem zeroInt (w : World) : (zeroValue 3).run Try.prog w = .ok (.int .i64 0) w := by kernel_rfl
theorem NMap.look {w : World} {b : Nat} {l : List PP} (h : NMap w b l) {p : PP} (hp : okPP p) :
  (Instr.lookup 104 (.map (some b)) (ppv p) true).run Try.prog w = .ok (.tuple #[.int .i64 (if p ∈ l then (l.idxOf p : Int) else 0), .bool (decide (p ∈ l))]) w := by
 obtain ⟨h1, h2⟩ := ND_look l h.nodup h.ok p hp
 obtain ⟨v, ps, hrun, hv⟩ := h.own.look_ok keyedQ Try.underlying104 (zeroInt w) (zd := .lit (.int .i64 0)) (zp := []) (plainElem_int Try.underlying3 (by decide)) (keyOf_qq hp)
 obtain ⟨c, rfl, hc, _⟩ := plainElem_int_inv Try.underlying3 hv
 simp only [Prod.mk.injEq] at hc
 rw [h2] at hc
 rw [hrun, h1]
 by_cases hm : p ∈ l
 ·rw [if_pos hm] at hc ⊢
  simp only [DataW.lit.injEq, Lit.int.injEq, true_and] at hc
  rw [hc.1]
 ·rw [if_neg hm] at hc ⊢
  simp only [DataW.lit.injEq, Lit.int.injEq, true_and] at hc
  rw [hc.1]
theorem NMap.put {w : World} {b : Nat} {l : List PP} (h : NMap w b l) {p : PP} (hp : okPP p) (hm : p ∉ l) (hl : l.length ≤ 1000000) :
  ∃ w', (Instr.mapUpdate 104 (.map (some b)) (ppv p) (.int .i64 (l.length : Int))).run Try.prog w = .ok () w' ∧ NMap w' b (l ++ [p]) ∧ w.grownBy w' (some b) := by
 obtain ⟨w', hrun, ho, hg⟩ := h.own.update keyedQ Try.underlying104 (by unfold maxLen; omega) (keyOf_qq hp) (plainElem_int (H := Unit) Try.underlying3 (a := (l.length : Int)) (by simp [Lit.wf, IntKind.min, IntKind.max, IntKind.signed, IntKind.bits]; omega))
 refine ⟨w', hrun, ⟨?_, ?_, ?_⟩, hg⟩
 ·rw [ND_snoc, List.length_append]
  exact ho
 ·rw [List.nodup_append]
  refine ⟨h.nodup, by simp, fun a ha b hb => ?_⟩
  simp at hb
  subst hb
  exact fun e => hm (e ▸ ha)
 ·intro x hx
  rcases List.mem_append.1 hx with h1 | h1
  ·exact h.ok x h1
  ·simp at h1; subst h1; exact hp
def NM (b : Nat) (l : List PP) (o : Option Obj) : Prop := ∃ w, w.heap[b]? = o ∧ NMap w b l
theorem NM.at {w : World} {b : Nat} {l : List PP} (h : NM b l w.heap[b]?) : NMap w b l := by
 obtain ⟨w1, h1, h2⟩ := h
 exact h2.keep h1.symm
end Go.Proofs.Ytfcpfcgcfaacnaa
namespace Go.Proofs.Ytfcpfcgcfaacnaa
def vPP (G : GR) (sets : List (List Bool)) (A : AU) (x : PP) : Prop := (0 ≤ x.node ∧ x.node < (G.edges.length : Int)) ∧ (0 ≤ x.state ∧ x.state < (A.nodes.length : Int)) ∧ 0 ≤ x.turn ∧ x.turn < ((max (allS sets A) 1 : Nat) : Int)
theorem first_valid {G : GR} {sets : List (List Bool)} {A : AU} (hg : gchk G = 0) (hc : chk A = 0) : ∀ x ∈ firstP G A, vPP G sets A x := by
 have h1 := (gchk_good hg).2.2.1
 have h2 := (chk_good hc).2.2.2.1
 have key : ∀ (ns : List Int) (out : List PP), (∀ n ∈ ns, n ∈ G.init) → (∀ y ∈ out, vPP G sets A y) → ∀ y ∈ ns.foldl (fun out n => pairsP A (labP G n) n 0 out A.init) out, vPP G sets A y := by
  intro ns
  induction ns with
  | nil => intro out _ h; exact h
  | cons n ns ih =>
   intro out hn h
   rw [List.foldl_cons]
   refine ih _ (fun m hm => hn m (by simp [hm])) (pairsP_all A _ n 0 A.init out h (fun q hq => ?_))
   exact ⟨h1 n (hn n (by simp)), h2 q hq, Int.le_refl _, by show (0 : Int) < _; omega⟩
 exact key G.init [] (fun n h => h) (by simp)
theorem turn_valid {G : GR} {sets : List (List Bool)} {A : AU} {x : PP} (h : isP sets A x = true) : 0 ≤ turnP G sets A x ∧ turnP G sets A x < ((max (allS sets A) 1 : Nat) : Int) := by
 obtain ⟨k, t, _, h2, _, h4⟩ := isP_range h
 unfold turnP
 by_cases hc : 0 < allS sets A ∧ ofP G sets A x = true
 ·rw [if_pos hc]
  have h0 : (0 : Int) < (allS sets A : Int) := by have := hc.1; omega
  have e1 := Int.emod_nonneg (x.turn + 1) (show (allS sets A : Int) ≠ 0 by omega)
  have e2 := Int.emod_lt_of_pos (x.turn + 1) h0
  omega
 ·rw [if_neg hc, h2]
  omega
theorem next_valid {G : GR} {sets : List (List Bool)} {A : AU} (hg : gchk G = 0) (hc : chk A = 0) (x : PP) : ∀ y ∈ nextP G sets A x, vPP G sets A y := by
 unfold nextP
 by_cases hx : isP sets A x = true
 ·rw [if_pos hx]
  obtain ⟨k, t, hk1, _, hk3, _⟩ := isP_range hx
  have h1 := (gchk_good hg).2.2.2
  have h2 := (chk_good hc).2.2.2.2
  have ht := turn_valid (G := G) hx
  have hto : ∀ q ∈ (nodeP A x.state).to, 0 ≤ q ∧ q < (A.nodes.length : Int) := by
   rw [hk1, nodeP_at hk3]
   exact (h2 _ (List.getElem_mem hk3)).1
  have hes : ∀ e ∈ edgesP G x.node, 0 ≤ e.1 ∧ e.1 < (G.edges.length : Int) := by
   unfold edgesP
   split
   ·rename_i hin
    unfold inG at hin
    simp at hin
    have hl : x.node.toNat < G.edges.length := by omega
    rw [List.getD_eq_getElem?_getD, List.getElem?_eq_getElem hl]
    exact h1 _ (List.getElem_mem hl)
   ·simp
  have key : ∀ (es : List PR) (out : List PP), (∀ e ∈ es, 0 ≤ e.1 ∧ e.1 < (G.edges.length : Int)) → (∀ y ∈ out, vPP G sets A y) → ∀ y ∈ es.foldl (fun out e => pairsP A (labP G e.1) e.1 (turnP G sets A x) out (nodeP A x.state).to) out, vPP G sets A y := by
   intro es
   induction es with
   | nil => intro out _ h; exact h
   | cons n ns ih =>
    intro out hn h
    rw [List.foldl_cons]
    refine ih _ (fun m hm => hn m (by simp [hm])) (pairsP_all A _ n.1 _ _ out h (fun q hq => ?_))
    exact ⟨hn n (by simp), hto q hq, ht⟩
  exact key _ [] hes (by simp)
 ·rw [if_neg hx]
  simp
theorem okPP_of {G : GR} {sets : List (List Bool)} {A : AU} (lt : Lt G sets A) (hc : chk A = 0) (hs : sets.length ≤ 16) {x : PP} (h : vPP G sets A x) : okPP x := by
 have h1 := lt.e
 have h2 := lt.n
 obtain ⟨_, h4, _⟩ := chk_sets hc
 have h5 : allS sets A ≤ 40 := by unfold allS; omega
 obtain ⟨⟨a, b⟩, ⟨c, d⟩, e, f⟩ := h
 exact ⟨wf_small a (by omega), wf_small c (by omega), wf_small e (by omega)⟩
end Go.Proofs.Ytfcpfcgcfaacnaa
