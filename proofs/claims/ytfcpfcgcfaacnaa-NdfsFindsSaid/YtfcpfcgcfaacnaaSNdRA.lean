/- The document's search as a value; boxes written whole; where a pair stands. Conditions: few pairs. The document's search and finding as boxes that are read and written whole. No conditions. The document's over. No conditions. The document's come. Conditions: the bounds of a search. -/
import Derived.Test.YtfcpfcgcfaacnaaSNdAp2
import Derived.Test.YtfcpfcgcfaacnaaSNdRLasso
import Derived.Test.YtfcpfcgcfaacnaaSNdHas
import Derived.Test.YtfcpfcgcfaacnaaSNdP
import Derived.Deep.MidRow
import Derived.Test.YtfcpfcgcfaacnaaSPrRin
import Derived.Test.YtfcpfcgcfaacnaaSNdPlain
import Derived.BigRegion
import Derived.Test.YtfcpfcgcfaacnaaSTail
namespace Go.Proofs.Ytfcpfcgcfaacnaa
open Go.RowKit
def Hd (N : Nat → Prop) (w : World) (R : World → Prop) : Prop := ∀ w', Keeps w w' N → R w'
section
variable {N N' : Nat → Prop} {w w1 : World} {R R' : World → Prop}
theorem Hd.now (h : Hd N w R) : R w := h w (Keeps.refl _ _)
theorem Hd.keeps (h : Hd N w R) (k : Keeps w w1 N) : Hd N w1 R := fun w' h' => h w' (k.trans h' (fun _ _ h => h))
theorem Hd.below (h : Hd N w R) (k : Below w.heap.size w w1) : Hd N w1 R := h.keeps (Keeps.of_below k)
theorem Hd.into (h : Hd N w R) (k : Below w.heap.size w w1) (hs : ∀ j, j < w.heap.size → N' j → N j) : Hd N' w1 R := fun w' h' => h w' ((Keeps.of_below k).trans h' hs)
theorem Hd.imp (h : Hd N w R) (hi : ∀ w, R w → R' w) : Hd N w R' := fun w' h' => hi w' (h w' h')
theorem Hd.and (h : Hd N w R) (h' : Hd N w R') : Hd N w (fun w => R w ∧ R' w) := fun w1 k => ⟨h w1 k, h' w1 k⟩
end
theorem Hd.row {N : Nat → Prop} {w : World} {base e c n : Nat} {a : Option Addr} {l : List PP} (h : OwnR w base e 3 a n c (qcells l)) (hl : l.length = n) (hn : ∀ j, N j → j < base) : Hd N w (fun w => PpsAt w a l) := fun w' k => by
 have h' : OwnR w' base e 3 a n c (qcells l) := OwnR.keeps h k (fun j hj hN => by have := OwnR.lt h hj; have := hn j hN; omega)
 subst hl
 exact PpsAt.of_own h'
theorem numsOf_rowI {w : World} {base e c n : Nat} {a : Option Addr} {l : List Int} (h : OwnR w base e 1 a n c (l.map (Value.int .i64))) : OwnN .i64 w base e a n c l := h
theorem Hd.ints {N : Nat → Prop} {w : World} {base e n c : Nat} {a : Option Addr} {l : List Int} (h : OwnR w base e 1 a n c (l.map (Value.int .i64))) (hn : ∀ j, N j → j < base) : Hd N w (fun w => NumsAt .i64 w a l) := fun w' k => by
 have h' : OwnR w' base e 1 a n c (l.map (Value.int .i64)) := OwnR.keeps h k (fun j hj hN => by have := OwnR.lt h hj; have := hn j hN; omega)
 exact NumsAt.of_owns (numsOf_rowI h')
abbrev TRS : Nat := 114
structure RV where
 ra : Option Addr
 rc : Nat
 ma : Option Addr
 mc : Nat
 oa : Option Addr
 oc : Nat
 ta : Option Addr
 tc : Nat
def ats (l : List (PP × Nat)) : List Int := (l.map fun e => (e.2 : Int)).reverse
theorem ats_cons (e : PP × Nat) (l : List (PP × Nat)) : ats (e :: l) = ats l ++ [(e.2 : Int)] := by simp [ats]
theorem ats_len (l : List (PP × Nat)) : (ats l).length = l.length := by simp [ats]
structure RSm (V : RV) (s : NS) (w : World) : Prop where
 r : PpsAt w V.ra s.reached
 m : PpsAt w V.ma s.marked
 o : PpsAt w V.oa (way s.ot)
 t : NumsAt .i64 w V.ta (ats s.ot)
structure RSc (V : RV) (s : NS) : Prop where
 o : s.ot.length ≤ V.oc
 t : s.ot.length ≤ V.tc
theorem RowAt.there {w : World} {g T : Nat} {l : List Value} (h : RowAt w g T l) : w.there g 0 l.length := fun j hj => by
 rw [Nat.zero_add]
 exact ⟨by rw [h.cell j, List.getElem?_eq_getElem hj]; rfl, h.free j⟩
theorem RowAt.range {w : World} {g T : Nat} {l : List Value} (h : RowAt w g T l) : w.rangeAt g 0 l := fun j v hj => by
 rw [Nat.zero_add, h.cell j]; exact hj
theorem keeps_setCells : ∀ (l : List Value) (w : World) (g k : Nat), Keeps w (w.setCells g k l) (fun j => j = g)
 | [], w, g, k => Keeps.refl _ _
 | v :: l, w, g, k => (Keeps.set (S := fun j => j = g) w g k v rfl).trans (keeps_setCells l _ g (k + 1)) (fun _ _ h => h)
theorem row_setCells : ∀ (l : List Value) (w : World) (g T k : Nat) (pre old : List Value), pre.length = k → old.length = l.length → RowAt w g T (pre ++ old) → RowAt (w.setCells g k l) g T (pre ++ l)
 | [], w, g, T, k, pre, old, hk, hl, h => by
  obtain rfl : old = [] := List.length_eq_zero_iff.1 hl
  exact h
 | v :: l, w, g, T, k, pre, [], hk, hl, h => by cases hl
 | v :: l, w, g, T, k, pre, u :: old, hk, hl, h => by
  have h1 := h.set k v
  rw [List.set_append_right _ _ (by omega), hk, Nat.sub_self] at h1
  have h2 := row_setCells l (w.setCell ⟨g, k, none⟩ v) g T (k + 1) (pre ++ [v]) old (by simp [hk]) (by simpa using hl) (by simpa using h1)
  rw [List.append_assoc, List.singleton_append] at h2
  exact h2
theorem RowAt.whole {w : World} {g T : Nat} {old new : List Value} (h : RowAt w g T old) (hl : old.length = new.length) : RowAt (w.setCells g 0 new) g T new ∧ Keeps w (w.setCells g 0 new) (fun j => j = g) :=
 ⟨row_setCells new w g T 0 [] old rfl hl h, keeps_setCells new w g 0⟩
def PlaceR (l : List PP) (x : PP) (e : Ending) : Prop := (x ∈ l ∧ e = .returned (.int .i64 (l.idxOf x : Int))) ∨ (x ∉ l ∧ e = .returned (.int .i64 (-1)))
theorem idx_at {l : List PP} {x : PP} {k : Nat} (hk : k < l.length) (hx : l[k] = x) (hn : x ∉ l.take k) : l.idxOf x = k := by
 have h1 : l = l.take k ++ x :: l.drop (k + 1) := by
  rw [← hx, List.getElem_cons_drop, List.take_append_drop]
 rw [h1, List.idxOf_append, if_neg hn, List.idxOf_cons_self, List.length_take]
 omega
theorem place_yes {l : List PP} {x : PP} {k : Nat} (hk : k < l.length) (hx : l[k] = x) (hn : x ∉ l.take k) : PlaceR l x (.returned (.int .i64 (k : Int))) := .inl ⟨by rw [← hx]; exact List.getElem_mem hk, by rw [idx_at hk hx hn]⟩
theorem place_no {l : List PP} {x : PP} (h : x ∉ l) : PlaceR l x (.returned (.int .i64 (-1))) := .inr ⟨h, rfl⟩
set_option maxHeartbeats 4000000 in
theorem place_any (w : World) (a : Option Addr) (c : Nat) (l : List PP) (h : PpsAt w a l) (x : PP) (hl : l.length ≤ 1000000) :
  Calls Try.prog 41 #[.slice a l.length c, ppv x] w fun e w' => PlaceR l x e ∧ Below w.heap.size w w' := by
 obtain ⟨q, s, t⟩ := x
 have r3 := RowAt.new (w := w) (T := TRq) #[.int .i64 q, .int .i64 s, .int .i64 t] rfl
 have hb1 := balloc (Below.refl w.heap.size w) (.cells #[.int .i64 q, .int .i64 s, .int .i64 t] TRq)
 have h1 := h.below hb1
 obtain ⟨w1, hw1⟩ : ∃ w1, w1 = w.alloc (.cells #[.int .i64 q, .int .i64 s, .int .i64 t] TRq) := ⟨_, rfl⟩
 rw [← hw1] at r3 hb1 h1
 have b0 : w1.cell? ⟨w.heap.size, 0, none⟩ = some (.int .i64 q) := r3.cell 0
 have b1 : w1.cell? ⟨w.heap.size, 1, none⟩ = some (.int .i64 s) := r3.cell 1
 have b2 : w1.cell? ⟨w.heap.size, 2, none⟩ = some (.int .i64 t) := r3.cell 2
 replace hb1 := Lib.hid hb1
 replace h1 := Lib.hid h1
 replace hw1 := Lib.hid hw1
 clear r3 h
 go_enter Try.func41, Try.ntmps41
 go_wp2
 change Code.wp _ _ _ _ (w.alloc (.cells #[.int .i64 q, .int .i64 s, .int .i64 t] TRq))
 rw [← hw1.out]
 clear hw1
 go_loopw [4, 5] (fun zv iv wr => ∃ k m : Nat, zv = .int .i64 0 ∧ k ≤ l.length ∧ iv = .int .i64 k ∧ wr = w1.drewN m ∧ Hid ((⟨q, s, t⟩ : PP) ∉ l.take k)) (fun _ iv _ => l.length - (intOf iv).toNat)
 case atStart => exact ⟨0, 0, rfl, Nat.zero_le _, rfl, rfl, by simp [Hid]⟩
 case round =>
  obtain ⟨k, m, rfl, hk, rfl, rfl, hn⟩ := hrel
  by_cases hlt : k < l.length
  ·obtain ⟨g, o, hab, hgl, c0, c1, c2⟩ := PpsAt.at h1.out k hlt
   have hst : Hid ((⟨q, s, t⟩ : PP) ≠ l[k] → (⟨q, s, t⟩ : PP) ∉ l.take (k + 1)) := fun hne => by
    rw [List.take_add_one, List.getElem?_eq_getElem hlt, Option.toList_some, List.mem_append, not_or]
    exact ⟨hn.out, by simpa using hne⟩
   have hyes : Hid (l[k] = (⟨q, s, t⟩ : PP) → PlaceR l ⟨q, s, t⟩ (.returned (.int .i64 (k : Int)))) := fun he => place_yes hlt he hn.out
   generalize l[k] = p at c0 c1 c2 hst hyes
   obtain ⟨x, y, z⟩ := p
   simp only at c0 c1 c2
   have hi2 : (k : Int) < (l.length : Int) := by omega
   subst hab
   clear hn
   by_cases hx : x = q
   ·subst hx
    by_cases hy : y = s
    ·subst hy
     by_cases hz : z = t
     ·subst hz
      have hm := Lib.hid (hyes.out rfl)
      clear hst hyes
      go_wp2
      go_quiet (fail)
      go_wp2
      go_ret
      exact ⟨hm.out, btrans hb1.out (by first | exact bdrewN (Below.refl _ _) _ | (rw [World.drewN_drewN]; exact bdrewN (Below.refl _ _) _))⟩
     ·have hzb : (z == t) = false := by simpa using hz
      have hst2 : Hid ((⟨x, y, t⟩ : PP) ∉ l.take (k + 1)) := hst.out (fun e => hz (by cases e; rfl))
      clear hst hyes hz
      go_wp2
      go_quiet (fail)
      go_wp2
      go_roundw
      case rel => exact ⟨k + 1, _, rfl, by omega, by go_num, by first | rfl | exact World.drewN_drewN _ _ _, hst2⟩
      case measure => simp [intOf]; omega
    ·have hyb : (y == s) = false := by simpa using hy
     have hst2 : Hid ((⟨x, s, t⟩ : PP) ∉ l.take (k + 1)) := hst.out (fun e => hy (by cases e; rfl))
     clear hst hyes hy
     go_wp2
     go_quiet (fail)
     go_wp2
     go_roundw
     case rel => exact ⟨k + 1, _, rfl, by omega, by go_num, by first | rfl | exact World.drewN_drewN _ _ _, hst2⟩
     case measure => simp [intOf]; omega
   ·have hxb : (x == q) = false := by simpa using hx
    have hst2 : Hid ((⟨q, s, t⟩ : PP) ∉ l.take (k + 1)) := hst.out (fun e => hx (by cases e; rfl))
    clear hst hyes hx
    go_wp2
    go_quiet (fail)
    go_wp2
    go_roundw
    case rel => exact ⟨k + 1, _, rfl, by omega, by go_num, by first | rfl | exact World.drewN_drewN _ _ _, hst2⟩
    case measure => simp [intOf]; omega
  ·obtain rfl : k = l.length := by omega
   rw [List.take_length] at hn
   go_wp2
   go_ret
   exact ⟨place_no hn.out, btrans hb1.out (bdrewN (Below.refl _ _) _)⟩
set_option maxHeartbeats 1000000 in
theorem rheld_any (w : World) (n : Int) : Calls Try.prog 40 #[.int .i64 n, .int .i64 65536] w fun e w' => e = .returned (.int .i64 ((heldP n : Nat) : Int)) ∧ w = w' := by
 by_cases h1 : n < 0
 ·have e : ((heldP n : Nat) : Int) = 0 := by unfold heldP; omega
  rw [e]
  clear e
  go_enter Try.func40, Try.ntmps40
  go_wp2
  go_ret
  exact ⟨rfl, rfl⟩
 ·by_cases h2 : 65536 < n
  ·have e : ((heldP n : Nat) : Int) = 65536 := by unfold heldP; omega
   rw [e]
   clear e
   go_enter Try.func40, Try.ntmps40
   go_wp2
   go_ret
   exact ⟨rfl, rfl⟩
  ·have e : ((heldP n : Nat) : Int) = n := by unfold heldP; omega
   rw [e]
   clear e
   go_enter Try.func40, Try.ntmps40
   go_wp2
   go_ret
   exact ⟨rfl, rfl⟩
end Go.Proofs.Ytfcpfcgcfaacnaa
namespace Go.Proofs.Ytfcpfcgcfaacnaa
open Go.RowKit
set_option linter.unusedVariables false
set_option linter.unusedSimpArgs false
structure RZ where
 X : RX
 G : GR
 sets : List (List Bool)
 A : AU
 b : NB
def scl (Z : RZ) (V : RV) (s : NS) : List Value := [.slice Z.X.ai Z.G.init.length Z.X.ci, .slice Z.X.ae Z.G.edges.length Z.X.ce, .slice Z.X.al Z.G.labels.length Z.X.cl, .slice Z.X.as_ Z.sets.length Z.X.cs, .int .i64 Z.A.sets, .slice Z.X.bi Z.A.init.length Z.X.di, .slice Z.X.bn Z.A.nodes.length Z.X.dn, .int .i64 (Z.b.n : Int), .int .i64 (Z.b.d : Int), .int .i64 (s.nodes : Int), .int .i64 (s.edges : Int), .int .i64 (s.depth : Int), .slice V.ra s.reached.length V.rc, .slice V.ma s.marked.length V.mc, .slice V.oa s.ot.length V.oc, .slice V.ta s.ot.length V.tc]
def zsc : List Value := [.slice none 0 0, .slice none 0 0, .slice none 0 0, .slice none 0 0, .int .i64 0, .slice none 0 0, .slice none 0 0, .int .i64 0, .int .i64 0, .int .i64 0, .int .i64 0, .int .i64 0, .slice none 0 0, .slice none 0 0, .slice none 0 0, .slice none 0 0]
def fcl (f : NF) (sa : Option Addr) (sc : Nat) (la : Option Addr) (lc : Nat) : List Value := [.int .i64 (f.kind : Int), .int .i64 (f.why : Int), .int .i64 (f.nodes : Int), .int .i64 (f.edges : Int), .int .i64 (f.depth : Int), .slice sa f.stem.length sc, .slice la f.loop.length lc]
def zfc : List Value := [.int .i64 0, .int .i64 0, .int .i64 0, .int .i64 0, .int .i64 0, .slice none 0 0, .slice none 0 0]
theorem infoS1 : (Try.prog.info? TRS).map (·.size) = some zsc.length := by kernel_rfl
theorem infoF1 : (Try.prog.info? TRF).map (·.size) = some zfc.length := by kernel_rfl
theorem und_row {T : Nat} (h : (Try.prog.underlying T).any (·.isRow) = true) : ∃ d, Try.prog.underlying T = some d ∧ d.isRow = true := by
 cases hu : Try.prog.underlying T with
 | none => rw [hu] at h; cases h
 | some d => rw [hu] at h; exact ⟨d, rfl, h⟩
theorem undS : ∃ d, Try.prog.underlying TRS = some d ∧ d.isRow = true := und_row (by kernel_rfl)
theorem undF : ∃ d, Try.prog.underlying TRF = some d ∧ d.isRow = true := und_row (by kernel_rfl)
section
variable {w : World} {g : Nat} {l old : List Value}
theorem loadVar_whole {T : Nat} (hd : ∃ d, Try.prog.underlying T = some d ∧ d.isRow = true) {n : Nat} (hi : (Try.prog.info? T).map (·.size) = some n) (h : RowAt w g T l) (hl : l.length = n) : (loadVar T ⟨g, 0, none⟩).run Try.prog w = .ok (.agg l.toArray) w := by
 obtain ⟨d, h1, h2⟩ := hd
 exact run_loadVar_mid w g 0 T l d h.range h1 h2 (by rw [hi, hl])
end
theorem eval_of {a : Act} {k : Nat} {v : Value} (h : a.tmps.getD k undef = v) : a.eval (.tmp k) = v := by
 rw [← h]; simp [Act.eval, Array.getD_eq_getD_getElem?]
theorem step_load {T : Nat} (hd : ∃ d, Try.prog.underlying T = some d ∧ d.isRow = true) {n : Nat} (hi : (Try.prog.info? T).map (·.size) = some n) {w : World} {g : Nat} {l : List Value} (h : RowAt w g T l) (hl : l.length = n) {o : Oper} {a : Act} {Y : Nat → Option Bool} {K : Act → World → Prop} {Q : Exit → Act → World → Prop} {E : Prop} (hg : o.guard = none) (x : Nat) (ho : o.op = .load T (.tmp x)) (hx : a.tmps.getD x undef = .pointer (some ⟨g, 0, none⟩)) (hK : K (a.put o.dst (.agg l.toArray)) w) : if Region.wanted o Y = true then Oper.wp Try.prog o a w K Q else E := by
 obtain ⟨d, h1, h2⟩ := hd
 rw [if_pos (by unfold Region.wanted; rw [hg])]
 exact wp_load_mid T (.tmp x) ho g 0 (eval_of hx) l d h.range h1 h2 (by rw [hi, hl]) hK
theorem step_store {T : Nat} {n : Nat} (hi : (Try.prog.info? T).map (·.size) = some n) {w : World} {g : Nat} {l old : List Value} (h : RowAt w g T old) (ho' : old.length = n) (hl : l.length = n) (h1 : ∀ v ∈ l, v.oneCell' = true) {o : Oper} {a : Act} {Y : Nat → Option Bool} {K : Act → World → Prop} {Q : Exit → Act → World → Prop} {E : Prop} (hg : o.guard = none) (x y : Nat) (ho : o.op = .store T (.tmp x) (.tmp y)) (hx : a.tmps.getD x undef = .pointer (some ⟨g, 0, none⟩)) (hy : a.tmps.getD y undef = .agg l.toArray) (hK : ∀ w', RowAt w' g T l → Keeps w w' (fun j => j = g) → K (a.put o.dst undef) w') : if Region.wanted o Y = true then Oper.wp Try.prog o a w K Q else E := by
 rw [if_pos (by unfold Region.wanted; rw [hg])]
 have hw := h.whole (ho'.trans hl.symm)
 refine wp_store_mid T (.tmp x) (.tmp y) ho g 0 l.toArray (eval_of hx) (eval_of hy) (by simpa [ho', hl] using h.there) (by rw [hi]; simp [hl]) (all_oneCell_toArray h1) ?_
 simpa using hK _ hw.1 hw.2
theorem list_load {T : Nat} (hd : ∃ d, Try.prog.underlying T = some d ∧ d.isRow = true) {n : Nat} (hi : (Try.prog.info? T).map (·.size) = some n) {w : World} {g : Nat} {l : List Value} (h : RowAt w g T l) (hl : l.length = n) {ops : Array Oper} {rest : List Oper} {o : Oper} {a : Act} {Q : Exit → Act → World → Prop} (hg : o.guard = none) (x : Nat) (ho : o.op = .load T (.tmp x)) (hx : a.tmps.getD x undef = .pointer (some ⟨g, 0, none⟩)) (hK : wpList Try.prog ops Q rest (a.put o.dst (.agg l.toArray)) w) : wpList Try.prog ops Q (o :: rest) a w := by
 obtain ⟨d, h1, h2⟩ := hd
 exact wpList_load_mid hg T (.tmp x) ho g 0 (eval_of hx) l d h.range h1 h2 (by rw [hi, hl]) hK
theorem list_store {T : Nat} {n : Nat} (hi : (Try.prog.info? T).map (·.size) = some n) {w : World} {g : Nat} {l old : List Value} (h : RowAt w g T old) (ho' : old.length = n) (hl : l.length = n) (h1 : ∀ v ∈ l, v.oneCell' = true) {ops : Array Oper} {rest : List Oper} {o : Oper} {a : Act} {Q : Exit → Act → World → Prop} (hg : o.guard = none) (x y : Nat) (ho : o.op = .store T (.tmp x) (.tmp y)) (hx : a.tmps.getD x undef = .pointer (some ⟨g, 0, none⟩)) (hy : a.tmps.getD y undef = .agg l.toArray) (hK : ∀ w', RowAt w' g T l → Keeps w w' (fun j => j = g) → wpList Try.prog ops Q rest (a.put o.dst undef) w') : wpList Try.prog ops Q (o :: rest) a w := by
 have hw := h.whole (ho'.trans hl.symm)
 refine wpList_store_mid hg T (.tmp x) (.tmp y) ho g 0 l.toArray (eval_of hx) (eval_of hy) (by simpa [ho', hl] using h.there) (by rw [hi]; simp [hl]) (all_oneCell_toArray h1) ?_
 simpa using hK _ hw.1 hw.2
theorem list_max {w : World} {ops : Array Oper} {rest : List Oper} {o : Oper} {a : Act} {Q : Exit → Act → World → Prop} (hg : o.guard = none) (x y : Nat) (ho : o.op = .call { callee := .builtin .max, args := #[.tmp x, .tmp y], argTypes := #[3, 3] }) {p q v : Int} (hx : a.tmps.getD x undef = .int .i64 p) (hy : a.tmps.getD y undef = .int .i64 q) (hv : v = max p q) (hK : wpList Try.prog ops Q rest (a.put o.dst (.int .i64 v)) w) : wpList Try.prog ops Q (o :: rest) a w := by
 refine wpList_plain hg fun K hK' => ?_
 have e1 := eval_of hx
 have e2 := eval_of hy
 have ev : (if q > p then q else p) = v := by rw [hv]; split <;> omega
 unfold Oper.wp execOp
 simp only [ho, resolve, invoke, builtin, Sem.run_bind, Sem.run_pure, Result.andThen_ok, List.map_toArray, List.map_cons, List.map_nil, e1, e2, run_max_int2, ev]
 exact hK' _ _ hK
theorem results3 {fn : Func} {P : Program} {tmps : Array Value} {w : World} {a b c t u : Nat} (hf : fn.results = #[.cell a t, .cell b u, .tmp c]) {g1 g2 : Nat} {v1 v2 v3 : Value} (ha : tmps.getD a undef = .pointer (some ⟨g1, 0, none⟩)) (hb : tmps.getD b undef = .pointer (some ⟨g2, 0, none⟩)) (hc : tmps.getD c undef = v3) (h1 : (loadVar t ⟨g1, 0, none⟩).run P w = .ok v1 w) (h2 : (loadVar u ⟨g2, 0, none⟩).run P w = .ok v2 w) : (results fn tmps).run P w = .ok (.tuple #[v1, v2, v3]) w := by
 subst hc
 rw [Array.getD_eq_getD_getElem?] at ha hb
 simp [results, hf, asAddr, ha, hb, h1, h2]
theorem scl_one (Z : RZ) (V : RV) (s : NS) : ∀ v ∈ scl Z V s, v.oneCell' = true := by
 intro v hv
 simp only [scl, List.mem_cons, List.not_mem_nil, or_false] at hv
 rcases hv with rfl | rfl | rfl | rfl | rfl | rfl | rfl | rfl | rfl | rfl | rfl | rfl | rfl | rfl | rfl | rfl <;> rfl
theorem fcl_one (f : NF) (sa : Option Addr) (sc : Nat) (la : Option Addr) (lc : Nat) : ∀ v ∈ fcl f sa sc la lc, v.oneCell' = true := by
 intro v hv
 simp only [fcl, List.mem_cons, List.not_mem_nil, or_false] at hv
 rcases hv with rfl | rfl | rfl | rfl | rfl | rfl | rfl <;> rfl
def WrD (g T : Nat) (old new : List Value) (i : Nat) (L : Nat → Bool) (w : World) : Prop := RowAt w g T (if L i = true then new else old)
section
variable {g T i : Nat} {old new : List Value} {L : Nat → Bool} {w w' : World}
theorem WrD.start (h : RowAt w g T old) : WrD g T old new i (fun _ => false) w := by
 unfold WrD; simpa using h
theorem WrD.pass (h : WrD g T old new i L w) {j : Nat} (hj : i ≠ j) : WrD g T old new i (updB L j) w := by
 unfold WrD
 rw [updB_ne hj]
 exact h
theorem WrD.keeps (h : WrD g T old new i L w) {S : Nat → Prop} (k : Keeps w w' S) (hn : ¬ S g) : WrD g T old new i L w' := RowAt.keeps h k hn
theorem WrD.old_ (h : WrD g T old new i L w) (hl : L i = false) : RowAt w g T old := by
 unfold WrD at h
 rw [hl] at h
 exact h
theorem WrD.new_ (h : WrD g T old new i L w) (hl : L i = true) : RowAt w g T new := by
 unfold WrD at h
 rw [if_pos hl] at h
 exact h
theorem WrD.wrote (h : RowAt w g T new) : WrD g T old new i (updB L i) w := by
 unfold WrD
 rw [updB_eq, if_pos rfl]
 exact h
end
structure RFd (N : Nat → Prop) (w : World) (cs : List Value) (f : NF) : Prop where
 of : ∃ sa sc la lc, cs = fcl f sa sc la lc ∧ Hd N w (fun w => PpsAt w sa f.stem ∧ PpsAt w la f.loop)
def RGives (N : Nat → Prop) (W : World) (Z : RZ) (res : NS × Option NF) (e : Ending) (w' : World) : Prop :=
 ∃ V fc, e = .returned (.tuple #[.agg (scl Z V res.1).toArray, .agg (List.toArray fc), .bool res.2.isSome]) ∧ fc.length = 7 ∧ (∀ v ∈ fc, v.oneCell' = true) ∧ Below W.heap.size W w' ∧ Hd N w' (RSm V res.1) ∧ RSc V res.1 ∧ ∀ f, res.2 = some f → RFd N w' fc f
end Go.Proofs.Ytfcpfcgcfaacnaa
namespace Go.Proofs.Ytfcpfcgcfaacnaa
open Go.RowKit
set_option linter.unusedVariables false
set_option linter.unusedSimpArgs false
theorem frame12 (arr : Array Value) (h : arr.size = 12) : ∃ q : Nat → Value, arr = #[q 0, q 1, q 2, q 3, q 4, q 5, q 6, q 7, q 8, q 9, q 10, q 11] := by
 refine ⟨fun i => arr.toList.getD i undef, ?_⟩
 have h1 := list_getP (l := arr.toList) (n := 12) (by simpa using h)
 apply Array.ext'
 exact h1
set_option maxRecDepth 20000 in
set_option maxHeartbeats 4000000 in
theorem rover_any (W : World) (Z : RZ) (V : RV) (s : NS) (why : Nat) :
  Calls Try.prog 72 #[.agg (scl Z V s).toArray, .int .i64 (why : Int)] W fun e w' => e = .returned (.tuple #[.agg (scl Z V s).toArray, .agg (fcl (overP s why) none 0 none 0).toArray, .bool true]) ∧ Below W.heap.size W w' := by
 obtain ⟨w1, hw1⟩ : ∃ w1, w1 = ((W.alloc (.cells (scl Z V s).toArray TRS)).alloc (.cells zsc.toArray TRS)).alloc (.cells zfc.toArray TRF) := ⟨_, rfl⟩
 obtain ⟨b2, hb2⟩ : ∃ b, b = W.heap.size := ⟨_, rfl⟩
 obtain ⟨b4, hb4⟩ : ∃ b, b = W.heap.size + 1 := ⟨_, rfl⟩
 obtain ⟨b5, hb5⟩ : ∃ b, b = W.heap.size + 1 + 1 := ⟨_, rfl⟩
 have hbW : Below W.heap.size W w1 := by rw [hw1]; exact balloc (balloc (balloc (Below.refl _ _) _) _) _
 have r2 : RowAt w1 b2 TRS (scl Z V s) := by rw [hw1, hb2]; exact ((RowAt.new (scl Z V s).toArray rfl).alloc _).alloc _
 have r4 : RowAt w1 b4 TRS zsc := by rw [hw1, hb4]; exact (RowAt.new zsc.toArray (by simp)).alloc _
 have r5 : RowAt w1 b5 TRF zfc := by rw [hw1, hb5]; exact RowAt.new zfc.toArray (by simp)
 have lb4 : Hid (W.heap.size ≤ b4) := by show _ ≤ _; omega
 have lb5 : Hid (W.heap.size ≤ b5) := by show _ ≤ _; omega
 have n2b4 : Hid (¬ b2 = b4) := by show ¬ _; omega
 have n2b5 : Hid (¬ b2 = b5) := by show ¬ _; omega
 have n54 : Hid (¬ b5 = b4) := by show ¬ _; omega
 have n45 : Hid (¬ b4 = b5) := by show ¬ _; omega
 replace hw1 := Lib.hid hw1
 replace hb2 := Lib.hid hb2
 replace hb4 := Lib.hid hb4
 replace hb5 := Lib.hid hb5
 replace hbW := Lib.hid hbW
 replace r2 := Lib.hid r2
 replace r4 := Lib.hid r4
 replace r5 := Lib.hid r5
 go_enter Try.func72, Try.ntmps72
 go_upto_region 1 with (fail)
 change Code.wp _ _ _ _ (((W.alloc (.cells (scl Z V s).toArray TRS)).alloc (.cells zsc.toArray TRS)).alloc (.cells zfc.toArray TRF))
 rw [← hw1.out, ← hb5.out, ← hb4.out, ← hb2.out]
 clear hw1 hb2 hb4 hb5
 refine wp_region_dyn (by kernel_rfl) 8 (fun w' => Below W.heap.size W w' ∧ RowAt w' b2 TRS (scl Z V s)) (fun i => ([some (.agg (scl Z V s).toArray), some (.int .i64 (why : Int)), some (.pointer (some ⟨b2, 9, none⟩)), some (.agg #[.int .i64 (s.nodes : Int), .int .i64 (s.edges : Int), .int .i64 (s.depth : Int)]), some (.agg #[.int .i64 3, .int .i64 (why : Int), .int .i64 (s.nodes : Int), .int .i64 (s.edges : Int), .int .i64 (s.depth : Int), .slice none 0 0, .slice none 0 0]), none, none, some (.bool true)] : List (Option Value)).getD i none) (fun i => ([false, false, false, false, false, true, true, false] : List Bool).getD i false) (fun L _ w => WrD b4 TRS zsc (scl Z V s) 5 L w ∧ WrD b5 TRF zfc (fcl (overP s why) none 0 none 0) 6 L w) (by kernel_rfl) (by kernel_rfl) (by kernel_rfl) ⟨hbW.out.drew, r2.out⟩ (fun rho => ⟨WrD.start r4.out, WrD.start r5.out⟩) ?_ ?_ ?_
 ·intro i hi hdy
  match i, hi, hdy with
  | 0, _, _ =>
   refine ⟨_, rfl, fun L rho w h => ⟨h.1.pass (by decide), h.2.pass (by decide)⟩, ?_⟩
   intro o ho ac w' hR hF hX
   simp only [zqA, zqZ, zqI] at ho
   subst ho
   refine ⟨fun h => (by cases h), fun K hK => ?_⟩
   have e2 : ac.tmps.getD 2 undef = .pointer (some ⟨b2, 0, none⟩) := hF 2 (znd (by kernel_rfl))
   have d2 := zgD e2
   clear hX hF
   exact step_load undS infoS1 hR.2 rfl rfl 2 rfl e2 hK
  | 1, _, _ =>
   refine ⟨_, rfl, fun L rho w h => ⟨h.1.pass (by decide), h.2.pass (by decide)⟩, ?_⟩
   intro o ho ac w' hR hF hX
   simp only [zqA, zqZ, zqS, zqI] at ho
   subst ho
   refine ⟨fun h => (by cases h), fun K hK => ?_⟩
   have e1 : ac.tmps.getD 1 undef = .int .i64 (why : Int) := hF 1 (znd (by kernel_rfl))
   have d1 := zgD e1
   clear hX hF
   go_simp
   exact hK
  | 2, _, _ =>
   refine ⟨_, rfl, fun L rho w h => ⟨h.1.pass (by decide), h.2.pass (by decide)⟩, ?_⟩
   intro o ho ac w' hR hF hX
   simp only [zqA, zqZ, zqS, zqI] at ho
   subst ho
   refine ⟨fun h => (by cases h), fun K hK => ?_⟩
   have e2 : ac.tmps.getD 2 undef = .pointer (some ⟨b2, 0, none⟩) := hF 2 (znd (by kernel_rfl))
   have d2 := zgD e2
   clear hX hF
   go_simp
   exact hK
  | 3, _, _ =>
   refine ⟨_, rfl, fun L rho w h => ⟨h.1.pass (by decide), h.2.pass (by decide)⟩, ?_⟩
   intro o ho ac w' hR hF hX
   simp only [zqA, zqZ, zqS, zqI] at ho
   subst ho
   refine ⟨fun h => (by cases h), fun K hK => ?_⟩
   have e9 : ac.tmps.getD 9 undef = .pointer (some ⟨b2, 9, none⟩) := hX 2 (zdp (by kernel_rfl)) _ rfl
   have d9 := zgD e9
   have c0 : w'.cell? ⟨b2, 9, none⟩ = some (.int .i64 (s.nodes : Int)) := hR.2.cell 9
   have c1 : w'.cell? ⟨b2, 10, none⟩ = some (.int .i64 (s.edges : Int)) := hR.2.cell 10
   have c2 : w'.cell? ⟨b2, 11, none⟩ = some (.int .i64 (s.depth : Int)) := hR.2.cell 11
   clear hX hF
   go_simp
   exact hK
  | 4, _, _ =>
   refine ⟨_, rfl, fun L rho w h => ⟨h.1.pass (by decide), h.2.pass (by decide)⟩, ?_⟩
   intro o ho ac w' hR hF hX
   simp only [zqA, zqZ, zqS, zqI] at ho
   subst ho
   refine ⟨fun h => (by cases h), fun K hK => ?_⟩
   have e8 : ac.tmps.getD 8 undef = .int .i64 (why : Int) := hX 1 (zdp (by kernel_rfl)) _ rfl
   have d8 := zgD e8
   have e10 : ac.tmps.getD 10 undef = .agg #[.int .i64 (s.nodes : Int), .int .i64 (s.edges : Int), .int .i64 (s.depth : Int)] := hX 3 (zdp (by kernel_rfl)) _ rfl
   have d10 := zgD e10
   clear hX hF
   go_simp
   exact hK
  | 5, _, hdy => exact znF hdy
  | 6, _, hdy => exact znF hdy
  | 7, _, _ =>
   refine ⟨_, rfl, fun L rho w h => ⟨h.1.pass (by decide), h.2.pass (by decide)⟩, ?_⟩
   intro o ho ac w' hR hF hX
   simp only [zqA, zqZ, zqS, zqI] at ho
   subst ho
   refine ⟨fun h => (by cases h), fun K hK => ?_⟩
   have e7 : ac.tmps.getD 7 undef = .agg (scl Z V s).toArray := hX 0 (zdp (by kernel_rfl)) _ rfl
   have d7 := zgD e7
   have e8 : ac.tmps.getD 8 undef = .int .i64 (why : Int) := hX 1 (zdp (by kernel_rfl)) _ rfl
   have d8 := zgD e8
   have e9 : ac.tmps.getD 9 undef = .pointer (some ⟨b2, 9, none⟩) := hX 2 (zdp (by kernel_rfl)) _ rfl
   have d9 := zgD e9
   have e10 : ac.tmps.getD 10 undef = .agg #[.int .i64 (s.nodes : Int), .int .i64 (s.edges : Int), .int .i64 (s.depth : Int)] := hX 3 (zdp (by kernel_rfl)) _ rfl
   have d10 := zgD e10
   have e11 : ac.tmps.getD 11 undef = .agg #[.int .i64 3, .int .i64 (why : Int), .int .i64 (s.nodes : Int), .int .i64 (s.edges : Int), .int .i64 (s.depth : Int), .slice none 0 0, .slice none 0 0] := hX 4 (zdp (by kernel_rfl)) _ rfl
   have d11 := zgD e11
   clear hX hF
   go_simp
   exact hK
  | k + 8, hk, _ => omega
 ·intro i hi hdy
  match i, hi, hdy with
  | 0, _, hdy => exact znT hdy
  | 1, _, hdy => exact znT hdy
  | 2, _, hdy => exact znT hdy
  | 3, _, hdy => exact znT hdy
  | 4, _, hdy => exact znT hdy
  | 5, _, _ =>
   intro o ho ac w' L rho hR hD hl hc hdep hX hF K hK
   simp only [zqA, zqZ, zqS, zqI] at ho
   subst ho
   have e4 : ac.tmps.getD 4 undef = .pointer (some ⟨b4, 0, none⟩) := hF 4 (znd (by kernel_rfl))
   have d4 := zgD e4
   have e7 : ac.tmps.getD 7 undef = .agg (scl Z V s).toArray := hX 0 (zdp (by kernel_rfl)) _ rfl
   have d7 := zgD e7
   refine step_store (l := scl Z V s) infoS1 (hD.1.old_ hl) rfl rfl (scl_one Z V s) rfl 4 7 rfl e4 e7 ?_
   intro w9 hrow hk
   refine hK _ _ ⟨hk.below hR.1 (fun j hj => by cases hj; exact lb4.out), hR.2.keeps hk n2b4.out⟩ (fun _ => rfl) (fun u h => by cases h) ⟨WrD.wrote hrow, (hD.2.pass (by decide)).keeps hk n54.out⟩
  | 6, _, _ =>
   intro o ho ac w' L rho hR hD hl hc hdep hX hF K hK
   simp only [zqA, zqZ, zqS, zqI] at ho
   subst ho
   have e5 : ac.tmps.getD 5 undef = .pointer (some ⟨b5, 0, none⟩) := hF 5 (znd (by kernel_rfl))
   have d5 := zgD e5
   have e7 : ac.tmps.getD 7 undef = .agg (scl Z V s).toArray := hX 0 (zdp (by kernel_rfl)) _ rfl
   have d7 := zgD e7
   have e8 : ac.tmps.getD 8 undef = .int .i64 (why : Int) := hX 1 (zdp (by kernel_rfl)) _ rfl
   have d8 := zgD e8
   have e9 : ac.tmps.getD 9 undef = .pointer (some ⟨b2, 9, none⟩) := hX 2 (zdp (by kernel_rfl)) _ rfl
   have d9 := zgD e9
   have e10 : ac.tmps.getD 10 undef = .agg #[.int .i64 (s.nodes : Int), .int .i64 (s.edges : Int), .int .i64 (s.depth : Int)] := hX 3 (zdp (by kernel_rfl)) _ rfl
   have d10 := zgD e10
   have e11 : ac.tmps.getD 11 undef = .agg #[.int .i64 3, .int .i64 (why : Int), .int .i64 (s.nodes : Int), .int .i64 (s.edges : Int), .int .i64 (s.depth : Int), .slice none 0 0, .slice none 0 0] := hX 4 (zdp (by kernel_rfl)) _ rfl
   have d11 := zgD e11
   refine step_store (l := fcl (overP s why) none 0 none 0) infoF1 (hD.2.old_ hl) rfl rfl (fcl_one (overP s why) none 0 none 0) rfl 5 11 rfl e5 e11 ?_
   intro w9 hrow hk
   refine hK _ _ ⟨hk.below hR.1 (fun j hj => by cases hj; exact lb5.out), hR.2.keeps hk n2b5.out⟩ (fun _ => rfl) (fun u h => by cases h) ⟨(hD.1.pass (by decide)).keeps hk n45.out, WrD.wrote hrow⟩
  | 7, _, hdy => exact znT hdy
  | k + 8, hk, _ => omega
 ·rintro ⟨tm, df⟩ w2 rho hdf hsz hF hR hX hV hD
  obtain rfl : df = [] := hdf
  obtain ⟨q, rfl⟩ := frame12 tm hsz
  have hD' := hD (fun i => decide (i < 8)) (fun i hi => decide_eq_true hi) (fun i hi => decide_eq_false (by omega))
  have k6 : q 6 = .bool true := hX 7 _ (by decide) rfl
  rw [k6]
  clear k6
  have kk := zbk hF [0, 1, 2, 3, 4, 5] (by kernel_rfl)
  simp only [Bk, Array.getD_eq_getD_getElem?, zqA, zqS, zqZ, Option.getD_some] at kk
  simp only [kk]
  clear kk
  have q4 := loadVar_whole undS infoS1 (hD'.1.new_ rfl) rfl
  have q5 := loadVar_whole undF infoF1 (hD'.2.new_ rfl) rfl
  have hR9 := hR.1
  clear hF hX hV hD hsz hD' hR
  change wpAny _ _ _ _ 0 _ _ _
  refine ⟨by kernel_rfl, ?_⟩
  go_wp2
  refine bodyPost_ret (v := .tuple #[.agg (scl Z V s).toArray, .agg (fcl (overP s why) none 0 none 0).toArray, .bool true]) (results3 (a := 4) (b := 5) (c := 6) (by kernel_rfl) rfl rfl rfl q4 q5) rfl ⟨rfl, hR9⟩
end Go.Proofs.Ytfcpfcgcfaacnaa
namespace Go.Proofs.Ytfcpfcgcfaacnaa
open Go.RowKit
set_option linter.unusedVariables false
set_option linter.unusedSimpArgs false
theorem frame70 (arr : Array Value) (h : arr.size = 70) : ∃ q : Nat → Value, arr = #[q 0, q 1, q 2, q 3, q 4, q 5, q 6, q 7, q 8, q 9, q 10, q 11, q 12, q 13, q 14, q 15, q 16, q 17, q 18, q 19, q 20, q 21, q 22, q 23, q 24, q 25, q 26, q 27, q 28, q 29, q 30, q 31, q 32, q 33, q 34, q 35, q 36, q 37, q 38, q 39, q 40, q 41, q 42, q 43, q 44, q 45, q 46, q 47, q 48, q 49, q 50, q 51, q 52, q 53, q 54, q 55, q 56, q 57, q 58, q 59, q 60, q 61, q 62, q 63, q 64, q 65, q 66, q 67, q 68, q 69] := by
 refine ⟨fun i => arr.toList.getD i undef, ?_⟩
 have h1 := list_getP (l := arr.toList) (n := 70) (by simpa using h)
 apply Array.ext'
 exact h1
structure CB (W : World) (l : List Value) (x : PP) (b2 b3 b4 b5 : Nat) (w : World) : Prop where
 r2 : RowAt w b2 TRS l
 r3 : RowAt w b3 TRq [.int .i64 x.node, .int .i64 x.state, .int .i64 x.turn]
 r4 : RowAt w b4 TRS zsc
 r5 : RowAt w b5 TRF zfc
 bw : Below W.heap.size W w
 e2 : b2 = W.heap.size
 e3 : b3 = W.heap.size + 1
 e4 : b4 = W.heap.size + 1 + 1
 e5 : b5 = W.heap.size + 1 + 1 + 1
section
variable {W w w' : World} {l : List Value} {x : PP} {b2 b3 b4 b5 : Nat}
theorem CB.below (h : CB W l x b2 b3 b4 b5 w) (hb : Below w.heap.size w w') : CB W l x b2 b3 b4 b5 w' := ⟨h.r2.below hb, h.r3.below hb, h.r4.below hb, h.r5.below hb, btrans h.bw hb, h.e2, h.e3, h.e4, h.e5⟩
theorem CB.set (h : CB W l x b2 b3 b4 b5 w) (j : Nat) (v : Value) : CB W (l.set j v) x b2 b3 b4 b5 (w.setCell ⟨b2, j, none⟩ v) := by
 obtain ⟨h2, h3, h4, h5, hb, e2, e3, e4, e5⟩ := h
 subst e2 e3 e4 e5
 exact ⟨h2.set j v, h3.other (by omega) j v, h4.other (by omega) j v, h5.other (by omega) j v, bsetN hb (Nat.le_refl _), rfl, rfl, rfl, rfl⟩
theorem CB.start (W : World) (l : List Value) (x : PP) : ∃ w b2 b3 b4 b5, w = ((((W.alloc (.cells l.toArray TRS)).alloc (.cells #[.int .i64 x.node, .int .i64 x.state, .int .i64 x.turn] TRq)).alloc (.cells zsc.toArray TRS)).alloc (.cells zfc.toArray TRF)) ∧ CB W l x b2 b3 b4 b5 w := by
 refine ⟨_, W.heap.size, W.heap.size + 1, W.heap.size + 1 + 1, W.heap.size + 1 + 1 + 1, rfl, ?_, ?_, ?_, ?_, balloc (balloc (balloc (balloc (Below.refl _ _) _) _) _) _, rfl, rfl, rfl, rfl⟩
 ·exact (((RowAt.new l.toArray rfl).alloc _).alloc _).alloc _
 ·exact (((RowAt.new #[.int .i64 x.node, .int .i64 x.state, .int .i64 x.turn] (by simp)).alloc _).alloc _)
 ·exact ((RowAt.new zsc.toArray (by simp)).alloc _)
 ·exact RowAt.new zfc.toArray (by simp)
theorem CB.out (h : CB W l x b2 b3 b4 b5 w) {w3 w4 : World} {l2 f2 : List Value} (q1 : RowAt w3 b4 TRS l2) (k1 : Keeps w w3 (fun j => j = b4)) (q2 : RowAt w4 b5 TRF f2) (k2 : Keeps w3 w4 (fun j => j = b5)) : RowAt w4 b4 TRS l2 ∧ RowAt w4 b5 TRF f2 ∧ Below W.heap.size W w4 ∧ Keeps w w4 (fun j => j = b4 ∨ j = b5) := by
 obtain ⟨h2, h3, h4, h5, hb, e2, e3, e4, e5⟩ := h
 subst e2 e3 e4 e5
 have kk : Keeps w w4 (fun j => j = W.heap.size + 1 + 1 ∨ j = W.heap.size + 1 + 1 + 1) := Keeps.trans (S := fun j => j = W.heap.size + 1 + 1 ∨ j = W.heap.size + 1 + 1 + 1) ⟨k1.os, k1.tape, k1.output, k1.size, fun j hj hn => k1.block j hj (fun e => hn (.inl e))⟩ k2 (fun j _ e => .inr e)
 exact ⟨q1.keeps k2 (by omega), q2, kk.below hb (fun j hj => by omega), kk⟩
def NB3 (N : Nat → Prop) (b2 b4 b5 j : Nat) : Prop := N j ∨ j = b2 ∨ j = b4 ∨ j = b5
theorem CB.low (h : CB W l x b2 b3 b4 b5 w) {N : Nat → Prop} : ∀ j, j < W.heap.size → NB3 N b2 b4 b5 j → N j := by
 intro j hj hn
 have := h.e2; have := h.e4; have := h.e5
 rcases hn with hn | hn | hn | hn
 ·exact hn
 ·omega
 ·omega
 ·omega
theorem CB.lt (h : CB W l x b2 b3 b4 b5 w) {N : Nat → Prop} (hN : ∀ j, N j → j < W.heap.size) : ∀ j, NB3 N b2 b4 b5 j → j < w.heap.size := by
 intro j hn
 have := h.r2.lt; have := h.r4.lt; have := h.r5.lt; have := h.bw.size
 rcases hn with hn | hn | hn | hn
 ·have := hN j hn; omega
 ·omega
 ·omega
 ·omega
theorem CB.done {N : Nat → Prop} {R : World → Prop} (h : Hd (NB3 N b2 b4 b5) w R) (hb : Below w.heap.size w w') {w4 : World} (k : Keeps w' w4 (fun j => j = b4 ∨ j = b5)) : Hd N w4 R := by
 have h1 : Hd (NB3 N b2 b4 b5) w4 R := (h.below hb).keeps ⟨k.os, k.tape, k.output, k.size, fun j hj hn => k.block j hj (fun e => hn (.inr (.inr e)))⟩
 exact fun w5 k5 => h1 w5 ⟨k5.os, k5.tape, k5.output, k5.size, fun j hj hn => k5.block j hj (fun e => hn (.inl e))⟩
end
theorem rover_i (W : World) (Z : RZ) (V : RV) (s : NS) (why : Nat) (wi : Int) (h : wi = (why : Int)) :
  Calls Try.prog 72 #[.agg (scl Z V s).toArray, .int .i64 wi] W fun e w' => e = .returned (.tuple #[.agg (scl Z V s).toArray, .agg (fcl (overP s why) none 0 none 0).toArray, .bool true]) ∧ Below W.heap.size W w' := by
 rw [h]; exact rover_any W Z V s why
theorem PpsAt.none_ (w : World) (a : Option Addr) : PpsAt w a [] := fun h => absurd h (by simp)
set_option maxRecDepth 20000 in
set_option maxHeartbeats 8000000 in
theorem rcome_n (N : Nat → Prop) (W : World) (Z : RZ) (V : RV) (s : NS) (x : PP) (HV : Hd N W (RSm V s)) (HC : RSc V s) (HN : ∀ j, N j → j < W.heap.size) (bn : Z.b.n ≤ 65536) (bd : Z.b.d ≤ 65536) (br : s.reached.length ≤ 65536) (bo : s.ot.length ≤ 65536) (h : Z.b.n ≤ s.nodes) :
  Calls Try.prog 42 #[.agg (scl Z V s).toArray, .agg #[.int .i64 x.node, .int .i64 x.state, .int .i64 x.turn]] W (RGives N W Z (comeP Z.b s x)) := by
 obtain ⟨w1, b2, b3, b4, b5, hw1, cb⟩ := CB.start W (scl Z V s) x
 rw [comeP_n h]
 have hnn : (Z.b.n : Int) ≤ (s.nodes : Int) := by omega
 replace hw1 := Lib.hid hw1
 replace cb := Lib.hid cb
 have e2 := Lib.hid cb.out.e2
 have e3 := Lib.hid cb.out.e3
 have e4 := Lib.hid cb.out.e4
 have e5 := Lib.hid cb.out.e5
 replace HV := Lib.hid HV
 replace HC := Lib.hid HC
 replace HN := Lib.hid HN
 replace bn := Lib.hid bn
 replace bd := Lib.hid bd
 replace br := Lib.hid br
 replace bo := Lib.hid bo
 go_enter Try.func42, Try.ntmps42
 go_upto_region 1 with (fail)
 change Code.wp _ _ _ _ ((((W.alloc (.cells (scl Z V s).toArray TRS)).alloc (.cells #[.int .i64 x.node, .int .i64 x.state, .int .i64 x.turn] TRq)).alloc (.cells zsc.toArray TRS)).alloc (.cells zfc.toArray TRF))
 rw [← hw1.out, ← e5.out, ← e4.out, ← e3.out, ← e2.out]
 clear hw1 e2 e3 e4 e5
 have c7 : w1.cell? ⟨b2, 7, none⟩ = some (.int .i64 (Z.b.n : Int)) := cb.out.r2.cell 7
 have c9 : w1.cell? ⟨b2, 9, none⟩ = some (.int .i64 (s.nodes : Int)) := cb.out.r2.cell 9
 go_upto_region 2 with (fail)
 refine wp_region_list ?_
 have HO := rover_i w1 Z V s 1 1 rfl
 replace HO := Lib.hid HO
 refine list_load undS infoS1 cb.out.r2 rfl rfl 2 rfl rfl ?_
 refine wpList_plain rfl (fun K hK => ?_)
 go_simp
 refine HO.out.mono ?_
 rintro e wv ⟨rfl, hbv⟩
 have cbv := Lib.hid (cb.out.below hbv)
 replace hbv := Lib.hid hbv
 clear HO
 refine hK _ _ ?_
 clear hK K
 refine wpList_plain rfl (fun K hK => ?_)
 go_simp
 refine hK _ _ ?_
 clear hK K
 refine wpList_plain rfl (fun K hK => ?_)
 go_simp
 refine hK _ _ ?_
 clear hK K
 refine wpList_plain rfl (fun K hK => ?_)
 go_simp
 refine hK _ _ ?_
 clear hK K
 refine list_store (l := scl Z V s) infoS1 cbv.out.r4 rfl rfl (scl_one _ _ _) rfl 4 15 rfl rfl rfl ?_
 intro wa qa ka
 refine list_store (l := fcl (overP s 1) none 0 none 0) infoF1 (cbv.out.r5.keeps ka (by have := cbv.out.e4; have := cbv.out.e5; omega)) rfl rfl (fcl_one _ _ _ _ _) rfl 5 16 rfl rfl rfl ?_
 intro wb qb kb
 refine wpList_plain rfl (fun K hK => ?_)
 go_simp
 refine hK _ _ ?_
 clear hK K
 refine wpList_nil ?_
 obtain ⟨z1, z2, z3, z4⟩ := cbv.out.out qa ka qb kb
 go_wp2
 refine bodyPost_ret (v := .tuple #[.agg (scl Z V s).toArray, .agg (fcl (overP s 1) none 0 none 0).toArray, .bool true]) (results3 (a := 4) (b := 5) (c := 6) (by kernel_rfl) rfl rfl rfl (loadVar_whole undS infoS1 z1 rfl) (loadVar_whole undF infoF1 z2 rfl)) rfl ?_
 refine ⟨V, fcl (overP s 1) none 0 none 0, rfl, rfl, fcl_one _ _ _ _ _, z3, HV.out.into z3 (fun _ _ h => h), HC.out, fun f hf => ?_⟩
 cases hf
 exact ⟨none, 0, none, 0, rfl, fun _ _ => ⟨PpsAt.none_ _ _, PpsAt.none_ _ _⟩⟩
set_option maxRecDepth 20000 in
set_option maxHeartbeats 8000000 in
theorem rcome_d (N : Nat → Prop) (W : World) (Z : RZ) (V : RV) (s : NS) (x : PP) (HV : Hd N W (RSm V s)) (HC : RSc V s) (HN : ∀ j, N j → j < W.heap.size) (bn : Z.b.n ≤ 65536) (bd : Z.b.d ≤ 65536) (br : s.reached.length ≤ 65536) (bo : s.ot.length ≤ 65536) (h : ¬ Z.b.n ≤ s.nodes) (h2 : Z.b.d < s.ot.length + 1) :
  Calls Try.prog 42 #[.agg (scl Z V s).toArray, .agg #[.int .i64 x.node, .int .i64 x.state, .int .i64 x.turn]] W (RGives N W Z (comeP Z.b s x)) := by
 obtain ⟨w1, b2, b3, b4, b5, hw1, cb⟩ := CB.start W (scl Z V s) x
 rw [comeP_d h h2]
 have hnn : (s.nodes : Int) < (Z.b.n : Int) := by omega
 have hw9 : IntKind.i64.wrap ((s.nodes : Int) + 1) = (s.nodes : Int) + 1 := IntWalk.i64_in _ (by omega)
 have hdd : (Z.b.d : Int) < (s.ot.length : Int) + 1 := by omega
 replace hw1 := Lib.hid hw1
 replace cb := Lib.hid cb
 have e2 := Lib.hid cb.out.e2
 have e3 := Lib.hid cb.out.e3
 have e4 := Lib.hid cb.out.e4
 have e5 := Lib.hid cb.out.e5
 replace HV := Lib.hid HV
 replace HC := Lib.hid HC
 replace HN := Lib.hid HN
 replace bn := Lib.hid bn
 replace bd := Lib.hid bd
 replace br := Lib.hid br
 replace bo := Lib.hid bo
 go_enter Try.func42, Try.ntmps42
 go_upto_region 1 with (fail)
 change Code.wp _ _ _ _ ((((W.alloc (.cells (scl Z V s).toArray TRS)).alloc (.cells #[.int .i64 x.node, .int .i64 x.state, .int .i64 x.turn] TRq)).alloc (.cells zsc.toArray TRS)).alloc (.cells zfc.toArray TRF))
 rw [← hw1.out, ← e5.out, ← e4.out, ← e3.out, ← e2.out]
 clear hw1 e2 e3 e4 e5
 have c7 : w1.cell? ⟨b2, 7, none⟩ = some (.int .i64 (Z.b.n : Int)) := cb.out.r2.cell 7
 have c9 : w1.cell? ⟨b2, 9, none⟩ = some (.int .i64 (s.nodes : Int)) := cb.out.r2.cell 9
 have f9 := cb.out.r2.free 9
 go_upto_region 3 with (fail)
 go_upto_region 4 with (fail)
 clear c7 c9 f9 hw9 hnn
 obtain ⟨w2, hw2⟩ : ∃ w2, w2 = w1.setCell ⟨b2, 9, none⟩ (.int .i64 ((s.nodes : Int) + 1)) := ⟨_, rfl⟩
 rw [← hw2]
 have cb2 : Hid (CB W (scl Z V { s with nodes := s.nodes + 1 }) x b2 b3 b4 b5 w2) := by
  have := cb.out.set 9 (.int .i64 ((s.nodes : Int) + 1))
  rw [← hw2, show (scl Z V s).set 9 (.int .i64 ((s.nodes : Int) + 1)) = scl Z V { s with nodes := s.nodes + 1 } by simp [scl]] at this
  exact this
 have HV2 : Hid (Hd N w2 (RSm V s)) := HV.out.into cb2.out.bw (fun _ _ h => h)
 have PR := Lib.hid (HV2.out.now).r
 have lt2 : Hid (b2 < w2.heap.size) := cb2.out.r2.lt
 replace hw2 := Lib.hid hw2
 refine wp_region_dyn (by kernel_rfl) 8 (fun w' => Below w2.heap.size w2 w') (fun i => ([none, some (.pointer (some ⟨b2, 12, none⟩)), some (.slice V.ra s.reached.length V.rc), none, some (.agg #[.int .i64 x.node, .int .i64 x.state, .int .i64 x.turn]), none, none, some (.pointer (some ⟨b2, 12, none⟩))] : List (Option Value)).getD i none) (fun i => ([true, false, false, true, false, true, true, false] : List Bool).getD i false) (Ap3 w2.heap.size TRq 3 (s.reached.length) (s.reached.length + 1) (qcells (s.reached)) (qcells (s.reached) ++ [.int .i64 x.node, .int .i64 x.state, .int .i64 x.turn]) [.int .i64 x.node, .int .i64 x.state, .int .i64 x.turn] 0 3 6 5) (by kernel_rfl) (by kernel_rfl) (by kernel_rfl) (Below.refl _ _).drew (fun rho => Ap3.start rho _) ?_ ?_ ?_
 ·intro i hi hdy
  match i, hi, hdy with
  | 0, _, hdy => exact znF hdy
  | 1, _, _ =>
   refine ⟨_, rfl, fun L rho w h => h.pass (by decide) (by decide) (by decide) (by decide), ?_⟩
   intro o ho ac w' hR hF hX
   simp only [zqA, zqZ, zqS, zqI] at ho
   subst ho
   refine ⟨fun h => (by cases h), fun K hK => ?_⟩
   have e2 : ac.tmps.getD 2 undef = .pointer (some ⟨b2, 0, none⟩) := hF 2 (znd (by kernel_rfl))
   have d2 := zgD e2
   clear hX hF
   go_simp
   exact hK
  | 2, _, _ =>
   refine ⟨_, rfl, fun L rho w h => h.pass (by decide) (by decide) (by decide) (by decide), ?_⟩
   intro o ho ac w' hR hF hX
   simp only [zqA, zqZ, zqS, zqI] at ho
   subst ho
   refine ⟨fun h => (by cases h), fun K hK => ?_⟩
   have e25 : ac.tmps.getD 25 undef = .pointer (some ⟨b2, 12, none⟩) := hX 1 (zdp (by kernel_rfl)) _ rfl
   have d25 := zgD e25
   have c0 : w'.cell? ⟨b2, 12, none⟩ = some (.slice V.ra s.reached.length V.rc) := (cb2.out.r2.below hR).cell 12
   clear hX hF
   go_simp
   exact hK
  | 3, _, hdy => exact znF hdy
  | 4, _, _ =>
   refine ⟨_, rfl, fun L rho w h => h.pass (by decide) (by decide) (by decide) (by decide), ?_⟩
   intro o ho ac w' hR hF hX
   simp only [zqA, zqZ, zqS, zqI] at ho
   subst ho
   refine ⟨fun h => (by cases h), fun K hK => ?_⟩
   have e3 : ac.tmps.getD 3 undef = .pointer (some ⟨b3, 0, none⟩) := hF 3 (znd (by kernel_rfl))
   have d3 := zgD e3
   have q0 : w'.cell? ⟨b3, 0, none⟩ = some (.int .i64 x.node) := (cb2.out.r3.below hR).cell 0
   have q1 : w'.cell? ⟨b3, 1, none⟩ = some (.int .i64 x.state) := (cb2.out.r3.below hR).cell 1
   have q2 : w'.cell? ⟨b3, 2, none⟩ = some (.int .i64 x.turn) := (cb2.out.r3.below hR).cell 2
   clear hX hF
   go_simp
   exact hK
  | 5, _, hdy => exact znF hdy
  | 6, _, hdy => exact znF hdy
  | 7, _, _ =>
   refine ⟨_, rfl, fun L rho w h => h.pass (by decide) (by decide) (by decide) (by decide), ?_⟩
   intro o ho ac w' hR hF hX
   simp only [zqA, zqZ, zqS, zqI] at ho
   subst ho
   refine ⟨fun h => (by cases h), fun K hK => ?_⟩
   have e2 : ac.tmps.getD 2 undef = .pointer (some ⟨b2, 0, none⟩) := hF 2 (znd (by kernel_rfl))
   have d2 := zgD e2
   have e25 : ac.tmps.getD 25 undef = .pointer (some ⟨b2, 12, none⟩) := hX 1 (zdp (by kernel_rfl)) _ rfl
   have d25 := zgD e25
   have e26 : ac.tmps.getD 26 undef = .slice V.ra s.reached.length V.rc := hX 2 (zdp (by kernel_rfl)) _ rfl
   have d26 := zgD e26
   have e28 : ac.tmps.getD 28 undef = .agg #[.int .i64 x.node, .int .i64 x.state, .int .i64 x.turn] := hX 4 (zdp (by kernel_rfl)) _ rfl
   have d28 := zgD e28
   clear hX hF
   go_simp
   exact hK
  | k + 8, hk, _ => omega
 ·intro i hi hdy
  match i, hi, hdy with
  | 0, _, _ =>
   intro o ho ac w' L rho hR hD hl hc hdep hX hF K hK
   simp only [zqA, zqZ, zqI] at ho
   subst ho
   go_simp
   refine hK _ _ (balloc hR _) (fun h => by cases h) (fun u h => by cases h) ?_
   exact hD.zero hR.size (by decide) (by decide) (by decide) (fun h => hc 3 h 0 (zdp (by kernel_rfl))) (fun h => hc 6 h 3 (zdp (by kernel_rfl))) hl
  | 1, _, hdy => exact znT hdy
  | 2, _, hdy => exact znT hdy
  | 3, _, _ =>
   intro o ho ac w' L rho hR hD hl hc hdep hX hF K hK
   simp only [zqA, zqZ, zqS, zqI] at ho
   subst ho
   have r24 : ac.tmps.getD 24 undef = rho 0 := (hdep 0 (zdp (by kernel_rfl))).2
   have e26 : ac.tmps.getD 26 undef = .slice V.ra s.reached.length V.rc := hX 2 (zdp (by kernel_rfl)) _ rfl
   have d26 := zgD e26
   have hl0 := (hdep 0 (zdp (by kernel_rfl))).1
   obtain ⟨a0, c0, e1, e2, _⟩ := hD.z hl0 hl
   rw [e1] at r24
   refine step_appG rfl _ _ 52 TRq (.agg #[.int .i64 0, .int .i64 0, .int .i64 0]) 3 24 rfl Try.underlying52 infoRq rfl (by decide) w2.heap.size a0 0 c0 [] r24 e2 V.ra s.reached.length V.rc (qcells (s.reached)) e26 (by rw [qcells_len]) (SrcAt.pps (PR.out.below hR)) (qcells_one _) (by have := br.out; unfold maxLen; omega) (by have := br.out; omega) hR.size ?_
   intro a' c' w2' ho hg hat
   simp only [Nat.zero_add, List.nil_append] at ho hg hat ⊢
   refine hK _ _ (bgrown hR hg (fun j hj => (OwnR.lt e2 hj).1)) (fun h => by cases h) (fun u h => by cases h) ?_
   exact hD.src1 (by decide) (by decide) (by decide) e1 hl0 hl (fun h => hc 6 h 3 (zdp (by kernel_rfl))) ho hg hat
  | 4, _, hdy => exact znT hdy
  | 5, _, _ =>
   intro o ho ac w' L rho hR hD hl hc hdep hX hF K hK
   simp only [zqA, zqZ, zqS, zqI] at ho
   subst ho
   have e28 : ac.tmps.getD 28 undef = .agg #[.int .i64 x.node, .int .i64 x.state, .int .i64 x.turn] := hX 4 (zdp (by kernel_rfl)) _ rfl
   have d28 := zgD e28
   go_simp
   refine hK _ _ (balloc hR _) (fun h => by cases h) (fun u h => by cases h) ?_
   exact hD.elem hR.size (by decide) (by decide) (by decide) #[.int .i64 x.node, .int .i64 x.state, .int .i64 x.turn] rfl
  | 6, _, _ =>
   intro o ho ac w' L rho hR hD hl hc hdep hX hF K hK
   simp only [zqA, zqZ, zqS, zqI] at ho
   subst ho
   have r27 : ac.tmps.getD 27 undef = rho 3 := (hdep 3 (zdp (by kernel_rfl))).2
   have r29 : ac.tmps.getD 29 undef = rho 5 := (hdep 5 (zdp (by kernel_rfl))).2
   have hl1 := (hdep 3 (zdp (by kernel_rfl))).1
   have hl5 := (hdep 5 (zdp (by kernel_rfl))).1
   obtain ⟨a0, c0, e1, e2, _⟩ := hD.y hl1 hl
   obtain ⟨g5, e5, _, rg5⟩ := hD.x hl5
   rw [e1] at r27
   rw [e5] at r29
   refine step_appG rfl _ _ 52 TRq (.agg #[.int .i64 0, .int .i64 0, .int .i64 0]) 3 24 rfl Try.underlying52 infoRq rfl (by decide) w2.heap.size a0 s.reached.length c0 (qcells (s.reached)) r27 e2 (some ⟨g5, 0, none⟩) 1 1 [.int .i64 x.node, .int .i64 x.state, .int .i64 x.turn] r29 rfl (SrcAt.row rg5) (by intro u hu; simp at hu; rcases hu with rfl | rfl | rfl <;> rfl) (by have := br.out; unfold maxLen; omega) (by have := br.out; omega) hR.size ?_
   intro a' c' w2' ho hg hat
   refine hK _ _ (bgrown hR hg (fun j hj => (OwnR.lt e2 hj).1)) (fun h => by cases h) (fun u h => by cases h) ?_
   exact hD.src2 (by decide) (by decide) (by decide) e1 hl1 hl ho hg hat
  | 7, _, hdy => exact znT hdy
  | k + 8, hk, _ => omega
 ·rintro ⟨tm, df⟩ wr rho hdf hsz hF hR hX hV hD
  obtain rfl : df = [] := hdf
  obtain ⟨q, rfl⟩ := frame70 tm hsz
  have hD' := hD (fun i => decide (i < 8)) (fun i hi => decide_eq_true hi) (fun i hi => decide_eq_false (by omega))
  obtain ⟨ar, cr, e6', ow, _⟩ := hD'.u rfl
  have k1 : q 30 = _ := (hV 6 (by decide)).trans e6'
  have k2 : q 31 = .pointer (some ⟨b2, 12, none⟩) := hX 7 _ (by decide) rfl
  rw [k1, k2]
  clear k1 k2
  have kk := zbk hF [0, 1, 2, 3, 4, 5, 6, 7, 8, 9, 10, 11, 12, 13, 14, 15, 16, 17, 18, 19, 20, 21, 22, 23, 32, 33, 34, 35, 36, 37, 38, 39, 40, 41, 42, 43, 44, 45, 46, 47, 48, 49, 50, 51, 52, 53, 54, 55, 56, 57, 58, 59, 60, 61, 62, 63, 64, 65, 66, 67, 68, 69] (by kernel_rfl)
  simp only [Bk, Array.getD_eq_getD_getElem?, zqA, zqS, zqZ, Option.getD_some] at kk
  simp only [kk]
  clear kk
  clear hF hX hV hD hsz hD' e6'
  have cbr := Lib.hid (cb2.out.below hR)
  have t0 : wr.cell? ⟨b2, 12, none⟩ = some (.slice V.ra s.reached.length V.rc) := cbr.out.r2.cell 12
  have t1 := cbr.out.r2.free 12
  replace ow := Lib.hid ow
  replace hR := Lib.hid hR
  change wpAny _ _ _ _ 1 _ _ _
  refine wpAny_ready (rs := [8]) (by kernel_rfl) (by simp) ?_
  refine AllReady.cons (i := 8) rfl (fun K hK => ?_) AllReady.nil
  go_simp
  refine hK _ _ ?_
  clear hK K t0 t1
  refine ⟨by kernel_rfl, ?_⟩
  obtain ⟨w3, hw3⟩ : ∃ w3, w3 = wr.setCell ⟨b2, 12, none⟩ (.slice ar (s.reached.length + 1) cr) := ⟨_, rfl⟩
  rw [← hw3]
  obtain ⟨V3, hV3⟩ : ∃ V3 : RV, V3 = ⟨ar, cr, V.ma, V.mc, V.oa, V.oc, V.ta, V.tc⟩ := ⟨_, rfl⟩
  have cb3 : Hid (CB W (scl Z V3 (reachS s x)) x b2 b3 b4 b5 w3) := by
   have := cbr.out.set 12 (.slice ar (s.reached.length + 1) cr)
   rw [← hw3, show (scl Z V { s with nodes := s.nodes + 1 }).set 12 (.slice ar (s.reached.length + 1) cr) = scl Z V3 (reachS s x) by rw [hV3]; simp [scl, reachS]] at this
   exact this
  have kr : Keeps wr w3 (fun j => j = b2) := by rw [hw3]; exact Keeps.set _ _ _ _ rfl
  have lt2r : Hid (W.heap.size ≤ w2.heap.size) := cb2.out.bw.size
  have HR3 : Hd (NB3 N b2 b4 b5) w3 (fun w => PpsAt w ar (s.reached ++ [x])) := by
   have o1 : OwnR w3 w2.heap.size TRq 3 ar (s.reached.length + 1) cr (qcells (s.reached ++ [x])) := by
    have := OwnR.keeps ow.out kr (fun j hj e => by have := (OwnR.lt ow.out hj).1; have := lt2.out; omega)
    rw [show qcells (s.reached ++ [x]) = qcells s.reached ++ [.int .i64 x.node, .int .i64 x.state, .int .i64 x.turn] by simp [qcells]]
    exact this
   exact Hd.row o1 (by simp) (cb2.out.lt HN.out)
  have HV3 : Hid (Hd (NB3 N b2 b4 b5) w3 (RSm V3 (reachS s x))) := by
   have h1 : Hd (NB3 N b2 b4 b5) w3 (RSm V s) := HV.out.into cb3.out.bw cb3.out.low
   rw [hV3]
   exact (h1.and HR3).imp (fun w h => ⟨h.2, h.1.m, h.1.o, h.1.t⟩)
  have HC3 : Hid (RSc V3 (reachS s x)) := by
   rw [hV3]
   exact ⟨HC.out.o, HC.out.t⟩
  have c8 : w3.cell? ⟨b2, 8, none⟩ = some (.int .i64 (Z.b.d : Int)) := cb3.out.r2.cell 8
  have c14 : w3.cell? ⟨b2, 14, none⟩ = some (.slice V.oa s.ot.length V.oc) := by rw [cb3.out.r2.cell 14, hV3]; rfl
  have hw5 : IntKind.i64.wrap ((s.ot.length : Int) + 1) = (s.ot.length : Int) + 1 := IntWalk.i64_in _ (by have := bo.out; omega)
  have V3o : Hid (V3.oa = V.oa ∧ V3.ta = V.ta) := by rw [hV3]; exact ⟨rfl, rfl⟩
  replace hw3 := Lib.hid hw3
  replace hV3 := Lib.hid hV3
  clear kr HR3 ow lt2r cbr cb2 PR HV2 hw2 cb lt2 hR
  go_upto_region 6 with (fail)
  refine wp_region_list ?_
  have HO := rover_i w3 Z V3 (reachS s x) 2 2 rfl
  replace HO := Lib.hid HO
  refine list_load undS infoS1 cb3.out.r2 rfl rfl 2 rfl rfl ?_
  refine wpList_plain rfl (fun K hK => ?_)
  go_simp
  refine HO.out.mono ?_
  rintro e wv ⟨rfl, hbv⟩
  have cbv := Lib.hid (cb3.out.below hbv)
  replace hbv := Lib.hid hbv
  clear HO
  refine hK _ _ ?_
  clear hK K
  refine wpList_plain rfl (fun K hK => ?_)
  go_simp
  refine hK _ _ ?_
  clear hK K
  refine wpList_plain rfl (fun K hK => ?_)
  go_simp
  refine hK _ _ ?_
  clear hK K
  refine wpList_plain rfl (fun K hK => ?_)
  go_simp
  refine hK _ _ ?_
  clear hK K
  refine list_store (l := scl Z V3 (reachS s x)) infoS1 cbv.out.r4 rfl rfl (scl_one _ _ _) rfl 4 41 rfl rfl rfl ?_
  intro wa qa ka
  refine list_store (l := fcl (overP (reachS s x) 2) none 0 none 0) infoF1 (cbv.out.r5.keeps ka (by have := cbv.out.e4; have := cbv.out.e5; omega)) rfl rfl (fcl_one _ _ _ _ _) rfl 5 42 rfl rfl rfl ?_
  intro wb qb kb
  refine wpList_plain rfl (fun K hK => ?_)
  go_simp
  refine hK _ _ ?_
  clear hK K
  refine wpList_nil ?_
  obtain ⟨z1, z2, z3, z4⟩ := cbv.out.out qa ka qb kb
  go_wp2
  refine bodyPost_ret (v := .tuple #[.agg (scl Z V3 (reachS s x)).toArray, .agg (fcl (overP (reachS s x) 2) none 0 none 0).toArray, .bool true]) (results3 (a := 4) (b := 5) (c := 6) (by kernel_rfl) rfl rfl rfl (loadVar_whole undS infoS1 z1 rfl) (loadVar_whole undF infoF1 z2 rfl)) rfl ?_
  refine ⟨V3, fcl (overP (reachS s x) 2) none 0 none 0, rfl, rfl, fcl_one _ _ _ _ _, z3, CB.done HV3.out hbv.out z4, HC3.out, fun f hf => ?_⟩
  cases hf
  exact ⟨none, 0, none, 0, rfl, fun _ _ => ⟨PpsAt.none_ _ _, PpsAt.none_ _ _⟩⟩
set_option maxRecDepth 20000 in
set_option maxHeartbeats 8000000 in
theorem rcome_ok (N : Nat → Prop) (W : World) (Z : RZ) (V : RV) (s : NS) (x : PP) (HV : Hd N W (RSm V s)) (HC : RSc V s) (HN : ∀ j, N j → j < W.heap.size) (bn : Z.b.n ≤ 65536) (bd : Z.b.d ≤ 65536) (br : s.reached.length ≤ 65536) (bo : s.ot.length ≤ 65536) (h : ¬ Z.b.n ≤ s.nodes) (h2 : ¬ Z.b.d < s.ot.length + 1) :
  Calls Try.prog 42 #[.agg (scl Z V s).toArray, .agg #[.int .i64 x.node, .int .i64 x.state, .int .i64 x.turn]] W (RGives N W Z (comeP Z.b s x)) := by
 obtain ⟨w1, b2, b3, b4, b5, hw1, cb⟩ := CB.start W (scl Z V s) x
 rw [comeP_ok h h2]
 have hnn : (s.nodes : Int) < (Z.b.n : Int) := by omega
 have hw9 : IntKind.i64.wrap ((s.nodes : Int) + 1) = (s.nodes : Int) + 1 := IntWalk.i64_in _ (by omega)
 have hdd : (s.ot.length : Int) + 1 ≤ (Z.b.d : Int) := by omega
 replace hw1 := Lib.hid hw1
 replace cb := Lib.hid cb
 have e2 := Lib.hid cb.out.e2
 have e3 := Lib.hid cb.out.e3
 have e4 := Lib.hid cb.out.e4
 have e5 := Lib.hid cb.out.e5
 replace HV := Lib.hid HV
 replace HC := Lib.hid HC
 replace HN := Lib.hid HN
 replace bn := Lib.hid bn
 replace bd := Lib.hid bd
 replace br := Lib.hid br
 replace bo := Lib.hid bo
 go_enter Try.func42, Try.ntmps42
 go_upto_region 1 with (fail)
 change Code.wp _ _ _ _ ((((W.alloc (.cells (scl Z V s).toArray TRS)).alloc (.cells #[.int .i64 x.node, .int .i64 x.state, .int .i64 x.turn] TRq)).alloc (.cells zsc.toArray TRS)).alloc (.cells zfc.toArray TRF))
 rw [← hw1.out, ← e5.out, ← e4.out, ← e3.out, ← e2.out]
 clear hw1 e2 e3 e4 e5
 have c7 : w1.cell? ⟨b2, 7, none⟩ = some (.int .i64 (Z.b.n : Int)) := cb.out.r2.cell 7
 have c9 : w1.cell? ⟨b2, 9, none⟩ = some (.int .i64 (s.nodes : Int)) := cb.out.r2.cell 9
 have f9 := cb.out.r2.free 9
 go_upto_region 3 with (fail)
 go_upto_region 4 with (fail)
 clear c7 c9 f9 hw9 hnn
 obtain ⟨w2, hw2⟩ : ∃ w2, w2 = w1.setCell ⟨b2, 9, none⟩ (.int .i64 ((s.nodes : Int) + 1)) := ⟨_, rfl⟩
 rw [← hw2]
 have cb2 : Hid (CB W (scl Z V { s with nodes := s.nodes + 1 }) x b2 b3 b4 b5 w2) := by
  have := cb.out.set 9 (.int .i64 ((s.nodes : Int) + 1))
  rw [← hw2, show (scl Z V s).set 9 (.int .i64 ((s.nodes : Int) + 1)) = scl Z V { s with nodes := s.nodes + 1 } by simp [scl]] at this
  exact this
 have HV2 : Hid (Hd N w2 (RSm V s)) := HV.out.into cb2.out.bw (fun _ _ h => h)
 have PR := Lib.hid (HV2.out.now).r
 have lt2 : Hid (b2 < w2.heap.size) := cb2.out.r2.lt
 replace hw2 := Lib.hid hw2
 refine wp_region_dyn (by kernel_rfl) 8 (fun w' => Below w2.heap.size w2 w') (fun i => ([none, some (.pointer (some ⟨b2, 12, none⟩)), some (.slice V.ra s.reached.length V.rc), none, some (.agg #[.int .i64 x.node, .int .i64 x.state, .int .i64 x.turn]), none, none, some (.pointer (some ⟨b2, 12, none⟩))] : List (Option Value)).getD i none) (fun i => ([true, false, false, true, false, true, true, false] : List Bool).getD i false) (Ap3 w2.heap.size TRq 3 (s.reached.length) (s.reached.length + 1) (qcells (s.reached)) (qcells (s.reached) ++ [.int .i64 x.node, .int .i64 x.state, .int .i64 x.turn]) [.int .i64 x.node, .int .i64 x.state, .int .i64 x.turn] 0 3 6 5) (by kernel_rfl) (by kernel_rfl) (by kernel_rfl) (Below.refl _ _).drew (fun rho => Ap3.start rho _) ?_ ?_ ?_
 ·intro i hi hdy
  match i, hi, hdy with
  | 0, _, hdy => exact znF hdy
  | 1, _, _ =>
   refine ⟨_, rfl, fun L rho w h => h.pass (by decide) (by decide) (by decide) (by decide), ?_⟩
   intro o ho ac w' hR hF hX
   simp only [zqA, zqZ, zqS, zqI] at ho
   subst ho
   refine ⟨fun h => (by cases h), fun K hK => ?_⟩
   have e2 : ac.tmps.getD 2 undef = .pointer (some ⟨b2, 0, none⟩) := hF 2 (znd (by kernel_rfl))
   have d2 := zgD e2
   clear hX hF
   go_simp
   exact hK
  | 2, _, _ =>
   refine ⟨_, rfl, fun L rho w h => h.pass (by decide) (by decide) (by decide) (by decide), ?_⟩
   intro o ho ac w' hR hF hX
   simp only [zqA, zqZ, zqS, zqI] at ho
   subst ho
   refine ⟨fun h => (by cases h), fun K hK => ?_⟩
   have e25 : ac.tmps.getD 25 undef = .pointer (some ⟨b2, 12, none⟩) := hX 1 (zdp (by kernel_rfl)) _ rfl
   have d25 := zgD e25
   have c0 : w'.cell? ⟨b2, 12, none⟩ = some (.slice V.ra s.reached.length V.rc) := (cb2.out.r2.below hR).cell 12
   clear hX hF
   go_simp
   exact hK
  | 3, _, hdy => exact znF hdy
  | 4, _, _ =>
   refine ⟨_, rfl, fun L rho w h => h.pass (by decide) (by decide) (by decide) (by decide), ?_⟩
   intro o ho ac w' hR hF hX
   simp only [zqA, zqZ, zqS, zqI] at ho
   subst ho
   refine ⟨fun h => (by cases h), fun K hK => ?_⟩
   have e3 : ac.tmps.getD 3 undef = .pointer (some ⟨b3, 0, none⟩) := hF 3 (znd (by kernel_rfl))
   have d3 := zgD e3
   have q0 : w'.cell? ⟨b3, 0, none⟩ = some (.int .i64 x.node) := (cb2.out.r3.below hR).cell 0
   have q1 : w'.cell? ⟨b3, 1, none⟩ = some (.int .i64 x.state) := (cb2.out.r3.below hR).cell 1
   have q2 : w'.cell? ⟨b3, 2, none⟩ = some (.int .i64 x.turn) := (cb2.out.r3.below hR).cell 2
   clear hX hF
   go_simp
   exact hK
  | 5, _, hdy => exact znF hdy
  | 6, _, hdy => exact znF hdy
  | 7, _, _ =>
   refine ⟨_, rfl, fun L rho w h => h.pass (by decide) (by decide) (by decide) (by decide), ?_⟩
   intro o ho ac w' hR hF hX
   simp only [zqA, zqZ, zqS, zqI] at ho
   subst ho
   refine ⟨fun h => (by cases h), fun K hK => ?_⟩
   have e2 : ac.tmps.getD 2 undef = .pointer (some ⟨b2, 0, none⟩) := hF 2 (znd (by kernel_rfl))
   have d2 := zgD e2
   have e25 : ac.tmps.getD 25 undef = .pointer (some ⟨b2, 12, none⟩) := hX 1 (zdp (by kernel_rfl)) _ rfl
   have d25 := zgD e25
   have e26 : ac.tmps.getD 26 undef = .slice V.ra s.reached.length V.rc := hX 2 (zdp (by kernel_rfl)) _ rfl
   have d26 := zgD e26
   have e28 : ac.tmps.getD 28 undef = .agg #[.int .i64 x.node, .int .i64 x.state, .int .i64 x.turn] := hX 4 (zdp (by kernel_rfl)) _ rfl
   have d28 := zgD e28
   clear hX hF
   go_simp
   exact hK
  | k + 8, hk, _ => omega
 ·intro i hi hdy
  match i, hi, hdy with
  | 0, _, _ =>
   intro o ho ac w' L rho hR hD hl hc hdep hX hF K hK
   simp only [zqA, zqZ, zqI] at ho
   subst ho
   go_simp
   refine hK _ _ (balloc hR _) (fun h => by cases h) (fun u h => by cases h) ?_
   exact hD.zero hR.size (by decide) (by decide) (by decide) (fun h => hc 3 h 0 (zdp (by kernel_rfl))) (fun h => hc 6 h 3 (zdp (by kernel_rfl))) hl
  | 1, _, hdy => exact znT hdy
  | 2, _, hdy => exact znT hdy
  | 3, _, _ =>
   intro o ho ac w' L rho hR hD hl hc hdep hX hF K hK
   simp only [zqA, zqZ, zqS, zqI] at ho
   subst ho
   have r24 : ac.tmps.getD 24 undef = rho 0 := (hdep 0 (zdp (by kernel_rfl))).2
   have e26 : ac.tmps.getD 26 undef = .slice V.ra s.reached.length V.rc := hX 2 (zdp (by kernel_rfl)) _ rfl
   have d26 := zgD e26
   have hl0 := (hdep 0 (zdp (by kernel_rfl))).1
   obtain ⟨a0, c0, e1, e2, _⟩ := hD.z hl0 hl
   rw [e1] at r24
   refine step_appG rfl _ _ 52 TRq (.agg #[.int .i64 0, .int .i64 0, .int .i64 0]) 3 24 rfl Try.underlying52 infoRq rfl (by decide) w2.heap.size a0 0 c0 [] r24 e2 V.ra s.reached.length V.rc (qcells (s.reached)) e26 (by rw [qcells_len]) (SrcAt.pps (PR.out.below hR)) (qcells_one _) (by have := br.out; unfold maxLen; omega) (by have := br.out; omega) hR.size ?_
   intro a' c' w2' ho hg hat
   simp only [Nat.zero_add, List.nil_append] at ho hg hat ⊢
   refine hK _ _ (bgrown hR hg (fun j hj => (OwnR.lt e2 hj).1)) (fun h => by cases h) (fun u h => by cases h) ?_
   exact hD.src1 (by decide) (by decide) (by decide) e1 hl0 hl (fun h => hc 6 h 3 (zdp (by kernel_rfl))) ho hg hat
  | 4, _, hdy => exact znT hdy
  | 5, _, _ =>
   intro o ho ac w' L rho hR hD hl hc hdep hX hF K hK
   simp only [zqA, zqZ, zqS, zqI] at ho
   subst ho
   have e28 : ac.tmps.getD 28 undef = .agg #[.int .i64 x.node, .int .i64 x.state, .int .i64 x.turn] := hX 4 (zdp (by kernel_rfl)) _ rfl
   have d28 := zgD e28
   go_simp
   refine hK _ _ (balloc hR _) (fun h => by cases h) (fun u h => by cases h) ?_
   exact hD.elem hR.size (by decide) (by decide) (by decide) #[.int .i64 x.node, .int .i64 x.state, .int .i64 x.turn] rfl
  | 6, _, _ =>
   intro o ho ac w' L rho hR hD hl hc hdep hX hF K hK
   simp only [zqA, zqZ, zqS, zqI] at ho
   subst ho
   have r27 : ac.tmps.getD 27 undef = rho 3 := (hdep 3 (zdp (by kernel_rfl))).2
   have r29 : ac.tmps.getD 29 undef = rho 5 := (hdep 5 (zdp (by kernel_rfl))).2
   have hl1 := (hdep 3 (zdp (by kernel_rfl))).1
   have hl5 := (hdep 5 (zdp (by kernel_rfl))).1
   obtain ⟨a0, c0, e1, e2, _⟩ := hD.y hl1 hl
   obtain ⟨g5, e5, _, rg5⟩ := hD.x hl5
   rw [e1] at r27
   rw [e5] at r29
   refine step_appG rfl _ _ 52 TRq (.agg #[.int .i64 0, .int .i64 0, .int .i64 0]) 3 24 rfl Try.underlying52 infoRq rfl (by decide) w2.heap.size a0 s.reached.length c0 (qcells (s.reached)) r27 e2 (some ⟨g5, 0, none⟩) 1 1 [.int .i64 x.node, .int .i64 x.state, .int .i64 x.turn] r29 rfl (SrcAt.row rg5) (by intro u hu; simp at hu; rcases hu with rfl | rfl | rfl <;> rfl) (by have := br.out; unfold maxLen; omega) (by have := br.out; omega) hR.size ?_
   intro a' c' w2' ho hg hat
   refine hK _ _ (bgrown hR hg (fun j hj => (OwnR.lt e2 hj).1)) (fun h => by cases h) (fun u h => by cases h) ?_
   exact hD.src2 (by decide) (by decide) (by decide) e1 hl1 hl ho hg hat
  | 7, _, hdy => exact znT hdy
  | k + 8, hk, _ => omega
 ·rintro ⟨tm, df⟩ wr rho hdf hsz hF hR hX hV hD
  obtain rfl : df = [] := hdf
  obtain ⟨q, rfl⟩ := frame70 tm hsz
  have hD' := hD (fun i => decide (i < 8)) (fun i hi => decide_eq_true hi) (fun i hi => decide_eq_false (by omega))
  obtain ⟨ar, cr, e6', ow, _⟩ := hD'.u rfl
  have k1 : q 30 = _ := (hV 6 (by decide)).trans e6'
  have k2 : q 31 = .pointer (some ⟨b2, 12, none⟩) := hX 7 _ (by decide) rfl
  rw [k1, k2]
  clear k1 k2
  have kk := zbk hF [0, 1, 2, 3, 4, 5, 6, 7, 8, 9, 10, 11, 12, 13, 14, 15, 16, 17, 18, 19, 20, 21, 22, 23, 32, 33, 34, 35, 36, 37, 38, 39, 40, 41, 42, 43, 44, 45, 46, 47, 48, 49, 50, 51, 52, 53, 54, 55, 56, 57, 58, 59, 60, 61, 62, 63, 64, 65, 66, 67, 68, 69] (by kernel_rfl)
  simp only [Bk, Array.getD_eq_getD_getElem?, zqA, zqS, zqZ, Option.getD_some] at kk
  simp only [kk]
  clear kk
  clear hF hX hV hD hsz hD' e6'
  have cbr := Lib.hid (cb2.out.below hR)
  have t0 : wr.cell? ⟨b2, 12, none⟩ = some (.slice V.ra s.reached.length V.rc) := cbr.out.r2.cell 12
  have t1 := cbr.out.r2.free 12
  replace ow := Lib.hid ow
  replace hR := Lib.hid hR
  change wpAny _ _ _ _ 1 _ _ _
  refine wpAny_ready (rs := [8]) (by kernel_rfl) (by simp) ?_
  refine AllReady.cons (i := 8) rfl (fun K hK => ?_) AllReady.nil
  go_simp
  refine hK _ _ ?_
  clear hK K t0 t1
  refine ⟨by kernel_rfl, ?_⟩
  obtain ⟨w3, hw3⟩ : ∃ w3, w3 = wr.setCell ⟨b2, 12, none⟩ (.slice ar (s.reached.length + 1) cr) := ⟨_, rfl⟩
  rw [← hw3]
  obtain ⟨V3, hV3⟩ : ∃ V3 : RV, V3 = ⟨ar, cr, V.ma, V.mc, V.oa, V.oc, V.ta, V.tc⟩ := ⟨_, rfl⟩
  have cb3 : Hid (CB W (scl Z V3 (reachS s x)) x b2 b3 b4 b5 w3) := by
   have := cbr.out.set 12 (.slice ar (s.reached.length + 1) cr)
   rw [← hw3, show (scl Z V { s with nodes := s.nodes + 1 }).set 12 (.slice ar (s.reached.length + 1) cr) = scl Z V3 (reachS s x) by rw [hV3]; simp [scl, reachS]] at this
   exact this
  have kr : Keeps wr w3 (fun j => j = b2) := by rw [hw3]; exact Keeps.set _ _ _ _ rfl
  have lt2r : Hid (W.heap.size ≤ w2.heap.size) := cb2.out.bw.size
  have HR3 : Hd (NB3 N b2 b4 b5) w3 (fun w => PpsAt w ar (s.reached ++ [x])) := by
   have o1 : OwnR w3 w2.heap.size TRq 3 ar (s.reached.length + 1) cr (qcells (s.reached ++ [x])) := by
    have := OwnR.keeps ow.out kr (fun j hj e => by have := (OwnR.lt ow.out hj).1; have := lt2.out; omega)
    rw [show qcells (s.reached ++ [x]) = qcells s.reached ++ [.int .i64 x.node, .int .i64 x.state, .int .i64 x.turn] by simp [qcells]]
    exact this
   exact Hd.row o1 (by simp) (cb2.out.lt HN.out)
  have HV3 : Hid (Hd (NB3 N b2 b4 b5) w3 (RSm V3 (reachS s x))) := by
   have h1 : Hd (NB3 N b2 b4 b5) w3 (RSm V s) := HV.out.into cb3.out.bw cb3.out.low
   rw [hV3]
   exact (h1.and HR3).imp (fun w h => ⟨h.2, h.1.m, h.1.o, h.1.t⟩)
  have HC3 : Hid (RSc V3 (reachS s x)) := by
   rw [hV3]
   exact ⟨HC.out.o, HC.out.t⟩
  have c8 : w3.cell? ⟨b2, 8, none⟩ = some (.int .i64 (Z.b.d : Int)) := cb3.out.r2.cell 8
  have c14 : w3.cell? ⟨b2, 14, none⟩ = some (.slice V.oa s.ot.length V.oc) := by rw [cb3.out.r2.cell 14, hV3]; rfl
  have hw5 : IntKind.i64.wrap ((s.ot.length : Int) + 1) = (s.ot.length : Int) + 1 := IntWalk.i64_in _ (by have := bo.out; omega)
  have V3o : Hid (V3.oa = V.oa ∧ V3.ta = V.ta) := by rw [hV3]; exact ⟨rfl, rfl⟩
  replace hw3 := Lib.hid hw3
  replace hV3 := Lib.hid hV3
  clear kr HR3 ow lt2r cbr cb2 PR HV2 hw2 cb lt2 hR
  go_upto_region 7 with (fail)
  have PW := Lib.hid (HV3.out.now).o
  have lt3 : Hid (b2 < w3.heap.size) := cb3.out.r2.lt
  rw [V3o.out.1, show way (reachS s x).ot = way s.ot from rfl] at PW
  clear c8 c14 hw5 hdd
  refine wp_region_dyn (by kernel_rfl) 8 (fun w' => Below w3.heap.size w3 w') (fun i => ([none, some (.pointer (some ⟨b2, 14, none⟩)), some (.slice V.oa s.ot.length V.oc), none, some (.agg #[.int .i64 x.node, .int .i64 x.state, .int .i64 x.turn]), none, none, some (.pointer (some ⟨b2, 14, none⟩))] : List (Option Value)).getD i none) (fun i => ([true, false, false, true, false, true, true, false] : List Bool).getD i false) (Ap3 w3.heap.size TRq 3 (s.ot.length) (s.ot.length + 1) (qcells (way s.ot)) (qcells (way s.ot) ++ [.int .i64 x.node, .int .i64 x.state, .int .i64 x.turn]) [.int .i64 x.node, .int .i64 x.state, .int .i64 x.turn] 0 3 6 5) (by kernel_rfl) (by kernel_rfl) (by kernel_rfl) (Below.refl _ _).drew (fun rho => Ap3.start rho _) ?_ ?_ ?_
  ·intro i hi hdy
   match i, hi, hdy with
   | 0, _, hdy => exact znF hdy
   | 1, _, _ =>
    refine ⟨_, rfl, fun L rho w h => h.pass (by decide) (by decide) (by decide) (by decide), ?_⟩
    intro o ho ac w' hR hF hX
    simp only [zqA, zqZ, zqS, zqI] at ho
    subst ho
    refine ⟨fun h => (by cases h), fun K hK => ?_⟩
    have e2 : ac.tmps.getD 2 undef = .pointer (some ⟨b2, 0, none⟩) := hF 2 (znd (by kernel_rfl))
    have d2 := zgD e2
    clear hX hF
    go_simp
    exact hK
   | 2, _, _ =>
    refine ⟨_, rfl, fun L rho w h => h.pass (by decide) (by decide) (by decide) (by decide), ?_⟩
    intro o ho ac w' hR hF hX
    simp only [zqA, zqZ, zqS, zqI] at ho
    subst ho
    refine ⟨fun h => (by cases h), fun K hK => ?_⟩
    have e45 : ac.tmps.getD 45 undef = .pointer (some ⟨b2, 14, none⟩) := hX 1 (zdp (by kernel_rfl)) _ rfl
    have d45 := zgD e45
    have c0 : w'.cell? ⟨b2, 14, none⟩ = some (.slice V.oa s.ot.length V.oc) := by rw [(cb3.out.r2.below hR).cell 14, hV3.out]; rfl
    clear hX hF
    go_simp
    exact hK
   | 3, _, hdy => exact znF hdy
   | 4, _, _ =>
    refine ⟨_, rfl, fun L rho w h => h.pass (by decide) (by decide) (by decide) (by decide), ?_⟩
    intro o ho ac w' hR hF hX
    simp only [zqA, zqZ, zqS, zqI] at ho
    subst ho
    refine ⟨fun h => (by cases h), fun K hK => ?_⟩
    have e3 : ac.tmps.getD 3 undef = .pointer (some ⟨b3, 0, none⟩) := hF 3 (znd (by kernel_rfl))
    have d3 := zgD e3
    have q0 : w'.cell? ⟨b3, 0, none⟩ = some (.int .i64 x.node) := (cb3.out.r3.below hR).cell 0
    have q1 : w'.cell? ⟨b3, 1, none⟩ = some (.int .i64 x.state) := (cb3.out.r3.below hR).cell 1
    have q2 : w'.cell? ⟨b3, 2, none⟩ = some (.int .i64 x.turn) := (cb3.out.r3.below hR).cell 2
    clear hX hF
    go_simp
    exact hK
   | 5, _, hdy => exact znF hdy
   | 6, _, hdy => exact znF hdy
   | 7, _, _ =>
    refine ⟨_, rfl, fun L rho w h => h.pass (by decide) (by decide) (by decide) (by decide), ?_⟩
    intro o ho ac w' hR hF hX
    simp only [zqA, zqZ, zqS, zqI] at ho
    subst ho
    refine ⟨fun h => (by cases h), fun K hK => ?_⟩
    have e2 : ac.tmps.getD 2 undef = .pointer (some ⟨b2, 0, none⟩) := hF 2 (znd (by kernel_rfl))
    have d2 := zgD e2
    have e45 : ac.tmps.getD 45 undef = .pointer (some ⟨b2, 14, none⟩) := hX 1 (zdp (by kernel_rfl)) _ rfl
    have d45 := zgD e45
    have e46 : ac.tmps.getD 46 undef = .slice V.oa s.ot.length V.oc := hX 2 (zdp (by kernel_rfl)) _ rfl
    have d46 := zgD e46
    have e48 : ac.tmps.getD 48 undef = .agg #[.int .i64 x.node, .int .i64 x.state, .int .i64 x.turn] := hX 4 (zdp (by kernel_rfl)) _ rfl
    have d48 := zgD e48
    clear hX hF
    go_simp
    exact hK
   | k + 8, hk, _ => omega
  ·intro i hi hdy
   match i, hi, hdy with
   | 0, _, _ =>
    intro o ho ac w' L rho hR hD hl hc hdep hX hF K hK
    simp only [zqA, zqZ, zqI] at ho
    subst ho
    go_simp
    refine hK _ _ (balloc hR _) (fun h => by cases h) (fun u h => by cases h) ?_
    exact hD.zero hR.size (by decide) (by decide) (by decide) (fun h => hc 3 h 0 (zdp (by kernel_rfl))) (fun h => hc 6 h 3 (zdp (by kernel_rfl))) hl
   | 1, _, hdy => exact znT hdy
   | 2, _, hdy => exact znT hdy
   | 3, _, _ =>
    intro o ho ac w' L rho hR hD hl hc hdep hX hF K hK
    simp only [zqA, zqZ, zqS, zqI] at ho
    subst ho
    have r44 : ac.tmps.getD 44 undef = rho 0 := (hdep 0 (zdp (by kernel_rfl))).2
    have e46 : ac.tmps.getD 46 undef = .slice V.oa s.ot.length V.oc := hX 2 (zdp (by kernel_rfl)) _ rfl
    have d46 := zgD e46
    have hl0 := (hdep 0 (zdp (by kernel_rfl))).1
    obtain ⟨a0, c0, e1, e2, _⟩ := hD.z hl0 hl
    rw [e1] at r44
    refine step_appG rfl _ _ 52 TRq (.agg #[.int .i64 0, .int .i64 0, .int .i64 0]) 3 24 rfl Try.underlying52 infoRq rfl (by decide) w3.heap.size a0 0 c0 [] r44 e2 V.oa s.ot.length V.oc (qcells (way s.ot)) e46 (by rw [qcells_len, way_len]) (SrcAt.pps (PW.out.below hR)) (qcells_one _) (by have := bo.out; unfold maxLen; omega) (by have := bo.out; omega) hR.size ?_
    intro a' c' w2' ho hg hat
    simp only [Nat.zero_add, List.nil_append] at ho hg hat ⊢
    refine hK _ _ (bgrown hR hg (fun j hj => (OwnR.lt e2 hj).1)) (fun h => by cases h) (fun u h => by cases h) ?_
    exact hD.src1 (by decide) (by decide) (by decide) e1 hl0 hl (fun h => hc 6 h 3 (zdp (by kernel_rfl))) ho hg hat
   | 4, _, hdy => exact znT hdy
   | 5, _, _ =>
    intro o ho ac w' L rho hR hD hl hc hdep hX hF K hK
    simp only [zqA, zqZ, zqS, zqI] at ho
    subst ho
    have e48 : ac.tmps.getD 48 undef = .agg #[.int .i64 x.node, .int .i64 x.state, .int .i64 x.turn] := hX 4 (zdp (by kernel_rfl)) _ rfl
    have d48 := zgD e48
    go_simp
    refine hK _ _ (balloc hR _) (fun h => by cases h) (fun u h => by cases h) ?_
    exact hD.elem hR.size (by decide) (by decide) (by decide) #[.int .i64 x.node, .int .i64 x.state, .int .i64 x.turn] rfl
   | 6, _, _ =>
    intro o ho ac w' L rho hR hD hl hc hdep hX hF K hK
    simp only [zqA, zqZ, zqS, zqI] at ho
    subst ho
    have r47 : ac.tmps.getD 47 undef = rho 3 := (hdep 3 (zdp (by kernel_rfl))).2
    have r49 : ac.tmps.getD 49 undef = rho 5 := (hdep 5 (zdp (by kernel_rfl))).2
    have hl1 := (hdep 3 (zdp (by kernel_rfl))).1
    have hl5 := (hdep 5 (zdp (by kernel_rfl))).1
    obtain ⟨a0, c0, e1, e2, _⟩ := hD.y hl1 hl
    obtain ⟨g5, e5, _, rg5⟩ := hD.x hl5
    rw [e1] at r47
    rw [e5] at r49
    refine step_appG rfl _ _ 52 TRq (.agg #[.int .i64 0, .int .i64 0, .int .i64 0]) 3 24 rfl Try.underlying52 infoRq rfl (by decide) w3.heap.size a0 s.ot.length c0 (qcells (way s.ot)) r47 e2 (some ⟨g5, 0, none⟩) 1 1 [.int .i64 x.node, .int .i64 x.state, .int .i64 x.turn] r49 rfl (SrcAt.row rg5) (by intro u hu; simp at hu; rcases hu with rfl | rfl | rfl <;> rfl) (by have := bo.out; unfold maxLen; omega) (by have := bo.out; omega) hR.size ?_
    intro a' c' w2' ho hg hat
    refine hK _ _ (bgrown hR hg (fun j hj => (OwnR.lt e2 hj).1)) (fun h => by cases h) (fun u h => by cases h) ?_
    exact hD.src2 (by decide) (by decide) (by decide) e1 hl1 hl ho hg hat
   | 7, _, hdy => exact znT hdy
   | k + 8, hk, _ => omega
  ·rintro ⟨tm, df⟩ wq rho hdf hsz hF hR hX hV hD
   obtain rfl : df = [] := hdf
   obtain ⟨q, rfl⟩ := frame70 tm hsz
   have hD' := hD (fun i => decide (i < 8)) (fun i hi => decide_eq_true hi) (fun i hi => decide_eq_false (by omega))
   obtain ⟨ao, co, e6', oq, _⟩ := hD'.u rfl
   have k1 : q 50 = _ := (hV 6 (by decide)).trans e6'
   have k2 : q 51 = .pointer (some ⟨b2, 14, none⟩) := hX 7 _ (by decide) rfl
   rw [k1, k2]
   clear k1 k2
   have kk := zbk hF [0, 1, 2, 3, 4, 5, 6, 7, 8, 9, 10, 11, 12, 13, 14, 15, 16, 17, 18, 19, 20, 21, 22, 23, 24, 25, 26, 27, 28, 29, 30, 31, 32, 33, 34, 35, 36, 37, 38, 39, 40, 41, 42, 43, 52, 53, 54, 55, 56, 57, 58, 59, 60, 61, 62, 63, 64, 65, 66, 67, 68, 69] (by kernel_rfl)
   simp only [Bk, Array.getD_eq_getD_getElem?, zqA, zqS, zqZ, Option.getD_some] at kk
   simp only [kk]
   clear kk
   clear hF hX hV hD hsz hD' e6'
   have cbwq := Lib.hid (cb3.out.below hR)
   have t0 : wq.cell? ⟨b2, 14, none⟩ = some (.slice V.oa s.ot.length V.oc) := by rw [cbwq.out.r2.cell 14, hV3.out]; rfl
   have t1 := cbwq.out.r2.free 14
   replace oq := Lib.hid oq
   replace hR := Lib.hid hR
   change wpAny _ _ _ _ 1 _ _ _
   refine wpAny_ready (rs := [8]) (by kernel_rfl) (by simp) ?_
   refine AllReady.cons (i := 8) rfl (fun K hK => ?_) AllReady.nil
   go_simp
   refine hK _ _ ?_
   clear hK K t0 t1
   refine ⟨by kernel_rfl, ?_⟩
   obtain ⟨w4, hw4⟩ : ∃ w4, w4 = wq.setCell ⟨b2, 14, none⟩ (.slice ao (s.ot.length + 1) co) := ⟨_, rfl⟩
   rw [← hw4]
   have cb4 : Hid (CB W ((scl Z V3 (reachS s x)).set 14 (.slice ao (s.ot.length + 1) co)) x b2 b3 b4 b5 w4) := by
    have := cbwq.out.set 14 (.slice ao (s.ot.length + 1) co)
    rw [← hw4] at this
    exact this
   have kq : Keeps wq w4 (fun j => j = b2) := by rw [hw4]; exact Keeps.set _ _ _ _ rfl
   have HO4 : Hid (Hd (NB3 N b2 b4 b5) w4 (fun w => PpsAt w ao (way s.ot ++ [x]))) := by
    have o1 : OwnR w4 w3.heap.size TRq 3 ao (s.ot.length + 1) co (qcells (way s.ot ++ [x])) := by
     have := OwnR.keeps oq.out kq (fun j hj e => by have := (OwnR.lt oq.out hj).1; have := lt3.out; omega)
     rw [show qcells (way s.ot ++ [x]) = qcells (way s.ot) ++ [.int .i64 x.node, .int .i64 x.state, .int .i64 x.turn] by simp [qcells]]
     exact this
    exact Hd.row o1 (by simp [way_len]) (cb3.out.lt HN.out)
   have HV4 : Hid (Hd (NB3 N b2 b4 b5) w4 (RSm V3 (reachS s x))) := (HV3.out.below hR.out).keeps ⟨kq.os, kq.tape, kq.output, kq.size, fun j hj hn => kq.block j hj (fun e => hn (.inr (.inl e)))⟩
   have NT := Lib.hid (HV4.out.now).t
   rw [V3o.out.2, show ats (reachS s x).ot = ats s.ot from rfl] at NT
   replace hw4 := Lib.hid hw4
   have oqc : Hid (s.ot.length + 1 ≤ co) := (OwnR.caps oq.out).1
   clear kq oq cbwq hR PW
   go_upto_region 8 with (fail)
   refine wp_region_list ?_
   refine wpList_plain rfl (fun K hK => ?_)
   go_simp
   refine hK _ _ ?_
   clear hK K
   have hz := own_zero w4 3 3 1 w4.heap.size rfl (Nat.le_refl _)
   have hb5 : Below w4.heap.size w4 (w4.alloc (.cells #[] 3)) := balloc (Below.refl _ _) _
   generalize w4.alloc (.cells #[] 3) = w5 at hz hb5 ⊢
   have c15 : w5.cell? ⟨b2, 15, none⟩ = some (.slice V.ta s.ot.length V.tc) := by rw [(cb4.out.r2.below hb5).cell 15, hV3.out]; rfl
   replace hz := Lib.hid hz
   replace hb5 := Lib.hid hb5
   refine wpList_plain rfl (fun K hK => ?_)
   go_simp
   refine hK _ _ ?_
   clear hK K
   refine wpList_plain rfl (fun K hK => ?_)
   go_simp
   refine hK _ _ ?_
   clear hK K
   refine wp_appG rfl _ _ 22 3 (.int .i64 0) 1 8 rfl Try.underlying22 (by kernel_rfl) rfl (by decide) w4.heap.size (some ⟨w4.heap.size, 0, none⟩) 0 0 [] rfl hz.out V.ta s.ot.length V.tc ((ats s.ot).map (Value.int .i64)) rfl (by simp [ats_len]) (SrcAt.nums (NT.out.below hb5.out)) (ints_one _ _) (by have := bo.out; unfold maxLen; omega) (by have := bo.out; omega) hb5.out.size ?_
   intro a6 c6 w6 ho6 hg6
   simp only [Nat.zero_add, List.nil_append] at ho6 hg6 ⊢
   have hb6 := Lib.hid (bgrown hb5.out hg6 (fun j hj => (OwnR.lt hz.out hj).1))
   replace ho6 := Lib.hid ho6
   clear c15 hg6
   refine wpList_plain rfl (fun K hK => ?_)
   go_simp
   refine hK _ _ ?_
   clear hK K
   have rx : RowAt (w6.alloc (.cells #[.int .i64 0] 3)) w6.heap.size 3 [.int .i64 0] := RowAt.new #[.int .i64 0] rfl
   have ho7 := OwnR.alloc ho6.out (.cells #[.int .i64 0] 3)
   have hb7 : Below w4.heap.size w4 (w6.alloc (.cells #[.int .i64 0] 3)) := balloc hb6.out _
   generalize w6.alloc (.cells #[.int .i64 0] 3) = w7 at rx ho7 hb7 ⊢
   generalize w6.heap.size = b7 at rx ⊢
   replace rx := Lib.hid rx
   replace ho7 := Lib.hid ho7
   replace hb7 := Lib.hid hb7
   refine wp_appG rfl _ _ 22 3 (.int .i64 0) 1 8 rfl Try.underlying22 (by kernel_rfl) rfl (by decide) w4.heap.size a6 s.ot.length c6 ((ats s.ot).map (Value.int .i64)) rfl ho7.out (some ⟨b7, 0, none⟩) 1 1 [.int .i64 0] rfl rfl (SrcAt.row rx.out) (by intro u hu; simp at hu; rcases hu with rfl; rfl) (by have := bo.out; unfold maxLen; omega) (by have := bo.out; omega) hb7.out.size ?_
   intro a8 c8 w8 ho8 hg8
   have hb8 := Lib.hid (bgrown hb7.out hg8 (fun j hj => (OwnR.lt ho7.out hj).1))
   replace ho8 := Lib.hid ho8
   have cb8 := Lib.hid (cb4.out.below hb8.out)
   have c15 : w8.cell? ⟨b2, 15, none⟩ = some (.slice V.ta s.ot.length V.tc) := by rw [cb8.out.r2.cell 15, hV3.out]; rfl
   have f15 := cb8.out.r2.free 15
   clear hg8 rx ho6 ho7 hz
   refine wpList_plain rfl (fun K hK => ?_)
   go_simp
   refine hK _ _ ?_
   clear hK K
   refine wpList_plain rfl (fun K hK => ?_)
   go_simp
   refine hK _ _ ?_
   clear hK K
   refine wpList_nil ?_
   clear c15 f15
   obtain ⟨w9, hw9⟩ : ∃ w9, w9 = w8.setCell ⟨b2, 15, none⟩ (.slice a8 (s.ot.length + 1) c8) := ⟨_, rfl⟩
   rw [← hw9]
   obtain ⟨V9, hV9⟩ : ∃ V9 : RV, V9 = ⟨ar, cr, V.ma, V.mc, ao, co, a8, c8⟩ := ⟨_, rfl⟩
   obtain ⟨s9, hs9⟩ : ∃ s9 : NS, s9 = { reachS s x with ot := (x, 0) :: s.ot } := ⟨_, rfl⟩
   have cb9 : Hid (CB W (scl Z V9 s9) x b2 b3 b4 b5 w9) := by
    have := cb8.out.set 15 (.slice a8 (s.ot.length + 1) c8)
    rw [← hw9, show ((scl Z V3 (reachS s x)).set 14 (.slice ao (s.ot.length + 1) co)).set 15 (.slice a8 (s.ot.length + 1) c8) = scl Z V9 s9 by rw [hV3.out, hV9, hs9]; simp [scl, reachS]] at this
    exact this
   have k9 : Keeps w8 w9 (fun j => j = b2) := by rw [hw9]; exact Keeps.set _ _ _ _ rfl
   have HT9 : Hd (NB3 N b2 b4 b5) w9 (fun w => NumsAt .i64 w a8 (ats s.ot ++ [0])) := by
    have o1 : OwnR w9 w4.heap.size 3 1 a8 (s.ot.length + 1) c8 ((ats s.ot ++ [0]).map (Value.int .i64)) := by
     have := OwnR.keeps ho8.out k9 (fun j hj e => by have := (OwnR.lt ho8.out hj).1; have := cb4.out.r2.lt; omega)
     rw [List.map_append]
     exact this
    exact Hd.ints o1 (cb4.out.lt HN.out)
   have HV9 : Hid (Hd (NB3 N b2 b4 b5) w9 (RSm V9 s9)) := by
    have kk : Keeps w8 w9 (NB3 N b2 b4 b5) := ⟨k9.os, k9.tape, k9.output, k9.size, fun j hj hn => k9.block j hj (fun e => hn (.inr (.inl e)))⟩
    have h1 := (HV4.out.below hb8.out).keeps kk
    have h2 := (HO4.out.below hb8.out).keeps kk
    rw [hV3.out] at h1
    rw [hV9, hs9]
    refine ((h1.and h2).and HT9).imp (fun w h => ⟨h.1.1.r, h.1.1.m, ?_, ?_⟩)
    ·rw [way_cons]; exact h.1.2
    ·rw [ats_cons]; exact h.2
   have d9 : Hid (pushS (reachS s x) x = { s9 with depth := max s.depth (s.ot.length + 1) }) := by rw [hs9]; rfl
   have HC9 : Hid (RSc V9 s9) := by
    rw [hV9, hs9]
    exact ⟨oqc.out, (OwnR.caps ho8.out).1⟩
   have c11 : w9.cell? ⟨b2, 11, none⟩ = some (.int .i64 (s.depth : Int)) := by rw [cb9.out.r2.cell 11, hs9]; rfl
   have c14 : w9.cell? ⟨b2, 14, none⟩ = some (.slice ao (s.ot.length + 1) co) := by rw [cb9.out.r2.cell 14, hV9, hs9]; rfl
   have f11 := cb9.out.r2.free 11
   clear HT9 k9 HV4 HO4 cb8 hb8
   replace hw9 := Lib.hid hw9
   clear hb5 hb6 hb7
   go_upto_region 9 with (fail)
   refine wp_region_list ?_
   refine wpList_plain rfl (fun K hK => ?_)
   go_simp
   refine hK _ _ ?_
   clear hK K
   refine wpList_plain rfl (fun K hK => ?_)
   go_simp
   refine hK _ _ ?_
   clear hK K
   refine wpList_plain rfl (fun K hK => ?_)
   go_simp
   refine hK _ _ ?_
   clear hK K
   refine wpList_plain rfl (fun K hK => ?_)
   go_simp
   refine hK _ _ ?_
   clear hK K
   refine wpList_plain rfl (fun K hK => ?_)
   go_simp
   refine hK _ _ ?_
   clear hK K
   refine wpList_plain rfl (fun K hK => ?_)
   go_simp
   refine hK _ _ ?_
   clear hK K
   refine list_max rfl 61 64 rfl rfl rfl (show ((max s.depth (s.ot.length + 1) : Nat) : Int) = max (s.depth : Int) ((s.ot.length : Int) + 1) by omega) ?_
   refine wpList_plain rfl (fun K hK => ?_)
   go_simp
   refine hK _ _ ?_
   clear hK K
   refine wpList_plain rfl (fun K hK => ?_)
   go_simp
   refine hK _ _ ?_
   clear hK K
   refine wpList_plain rfl (fun K hK => ?_)
   go_simp
   refine hK _ _ ?_
   clear hK K
   refine wpList_nil ?_
   clear c11 c14 f11
   obtain ⟨wk, hwk⟩ : ∃ wk, wk = w9.setCell ⟨b2, 11, none⟩ (.int .i64 ((max s.depth (s.ot.length + 1) : Nat) : Int)) := ⟨_, rfl⟩
   rw [← hwk]
   have cbk : Hid (CB W (scl Z V9 (pushS (reachS s x) x)) x b2 b3 b4 b5 wk) := by
    have := cb9.out.set 11 (.int .i64 ((max s.depth (s.ot.length + 1) : Nat) : Int))
    rw [← hwk, show (scl Z V9 s9).set 11 (.int .i64 ((max s.depth (s.ot.length + 1) : Nat) : Int)) = scl Z V9 (pushS (reachS s x) x) by rw [d9.out]; rfl] at this
    exact this
   have HVk : Hid (Hd (NB3 N b2 b4 b5) wk (RSm V9 (pushS (reachS s x) x))) := by
    have kk : Keeps w9 wk (NB3 N b2 b4 b5) := by rw [hwk]; exact Keeps.set _ _ _ _ (.inr (.inl rfl))
    rw [d9.out]
    exact (HV9.out.keeps kk).imp (fun w h => ⟨h.r, h.m, h.o, h.t⟩)
   have HCk : Hid (RSc V9 (pushS (reachS s x) x)) := by rw [d9.out]; exact ⟨HC9.out.o, HC9.out.t⟩
   replace hwk := Lib.hid hwk
   replace hV9 := Lib.hid hV9
   replace hs9 := Lib.hid hs9
   clear cb9 HV9 HC9
   go_upto_region 10 with (fail)
   refine wp_region_list ?_
   refine list_load undS infoS1 cbk.out.r2 rfl rfl 2 rfl rfl ?_
   refine wpList_plain rfl (fun K hK => ?_)
   go_simp
   refine hK _ _ ?_
   clear hK K
   refine list_store (l := scl Z V9 (pushS (reachS s x) x)) infoS1 cbk.out.r4 rfl rfl (scl_one _ _ _) rfl 4 68 rfl rfl rfl ?_
   intro wa qa ka
   refine list_store (l := zfc) infoF1 (cbk.out.r5.keeps ka (by have := cbk.out.e4; have := cbk.out.e5; omega)) rfl rfl (by intro v hv; simp [zfc] at hv; rcases hv with rfl | rfl <;> rfl) rfl 5 69 rfl rfl rfl ?_
   intro wb qb kb
   refine wpList_plain rfl (fun K hK => ?_)
   go_simp
   refine hK _ _ ?_
   clear hK K
   refine wpList_nil ?_
   obtain ⟨z1, z2, z3, z4⟩ := cbk.out.out qa ka qb kb
   go_wp2
   refine bodyPost_ret (v := .tuple #[.agg (scl Z V9 (pushS (reachS s x) x)).toArray, .agg (zfc).toArray, .bool false]) (results3 (a := 4) (b := 5) (c := 6) (by kernel_rfl) rfl rfl rfl (loadVar_whole undS infoS1 z1 rfl) (loadVar_whole undF infoF1 z2 rfl)) rfl ?_
   exact ⟨V9, zfc, rfl, rfl, by intro v hv; simp [zfc] at hv; rcases hv with rfl | rfl <;> rfl, z3, CB.done HVk.out (Below.refl _ _) z4, HCk.out, fun f hf => by cases hf⟩
theorem rcome_any (N : Nat → Prop) (W : World) (Z : RZ) (V : RV) (s : NS) (x : PP) (HV : Hd N W (RSm V s)) (HC : RSc V s) (HN : ∀ j, N j → j < W.heap.size) (bn : Z.b.n ≤ 65536) (bd : Z.b.d ≤ 65536) (br : s.reached.length ≤ 65536) (bo : s.ot.length ≤ 65536) :
  Calls Try.prog 42 #[.agg (scl Z V s).toArray, .agg #[.int .i64 x.node, .int .i64 x.state, .int .i64 x.turn]] W (RGives N W Z (comeP Z.b s x)) := by
 by_cases h : Z.b.n ≤ s.nodes
 ·exact rcome_n N W Z V s x HV HC HN bn bd br bo h
 ·by_cases h2 : Z.b.d < s.ot.length + 1
  ·exact rcome_d N W Z V s x HV HC HN bn bd br bo h h2
  ·exact rcome_ok N W Z V s x HV HC HN bn bd br bo h h2
end Go.Proofs.Ytfcpfcgcfaacnaa
