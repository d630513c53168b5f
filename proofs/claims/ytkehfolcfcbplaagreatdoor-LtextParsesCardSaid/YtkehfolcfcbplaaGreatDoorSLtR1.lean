/- The reader of formulas in memory, and its small steps (is, take, put), walked. Conditions: not too many tokens. -/
import Derived.Test.YtkehfolcfcbplaaGreatDoorSLtW7
namespace Go.Proofs.YtkehfolcfcbplaaGreatDoor
open Go.RowKit
set_option linter.unusedVariables false
set_option linter.unusedSimpArgs false
def TokAt (w : World) (a : Option Addr) (T : List Tk) : Prop := 0 < T.length → ∃ b o, a = some ⟨b, o, none⟩ ∧ b < w.heap.size ∧ ∀ i (hi : i < T.length), w.rangeAt b (o + i * 4) (tkV T[i].kind T[i].n T[i].at_ ⟨T[i].text.toArray⟩)
theorem TokAt.below {w w' : World} {a : Option Addr} {T : List Tk} (h : TokAt w a T) (hb : Below w.heap.size w w') : TokAt w' a T := fun h0 => by
 obtain ⟨b, o, h1, h2, h3⟩ := h h0
 refine ⟨b, o, h1, Nat.lt_of_lt_of_le h2 hb.size, fun i hi j v hj => ?_⟩
 rw [hb.cell h2]
 exact h3 i hi j v hj
theorem tcells_at : ∀ (T : List Tk) (i : Nat) (hi : i < T.length) (j : Nat) (v : Value), (tkV T[i].kind T[i].n T[i].at_ ⟨T[i].text.toArray⟩)[j]? = some v → (tcells T)[i * 4 + j]? = some v
 | t :: T, 0, hi, j, v, h => by
  change (tkV t.kind t.n t.at_ ⟨t.text.toArray⟩)[j]? = some v at h
  have hj := (List.getElem?_eq_some_iff.1 h).1
  show (tkV t.kind t.n t.at_ ⟨t.text.toArray⟩ ++ tcells T)[0 * 4 + j]? = some v
  rw [Nat.zero_mul, Nat.zero_add, List.getElem?_append_left hj]
  exact h
 | t :: T, i + 1, hi, j, v, h => by
  have ih := tcells_at T i (by simpa using hi) j v h
  show (tkV t.kind t.n t.at_ ⟨t.text.toArray⟩ ++ tcells T)[(i + 1) * 4 + j]? = some v
  have hl : (tkV t.kind t.n t.at_ ⟨t.text.toArray⟩).length = 4 := rfl
  rw [List.getElem?_append_right (by rw [hl]; omega), hl, show (i + 1) * 4 + j - 4 = i * 4 + j by omega]
  exact ih
theorem TokAt.of_own {w : World} {base : Nat} {a : Option Addr} {c : Nat} {T : List Tk} (h : OwnT w base a T.length c T) : TokAt w a T := fun h0 => by
 obtain ⟨g, e, _, hl⟩ := OwnR.addr h h0
 subst e
 refine ⟨g, 0, rfl, hl, fun i hi j v hj => ?_⟩
 have hj4 : j < 4 := (List.getElem?_eq_some_iff.1 hj).1
 rw [Nat.zero_add, OwnR.cell h (i * 4 + j) (by omega)]
 exact tcells_at T i hi j v hj
abbrev TRd : Nat := 40
structure RdX where
 W : World
 g : Nat
 la : Option Addr
 lc : Nat
 T : List Tk
 na : Option Addr
 nc : Nat
 N : List (List UInt8)
 en : Nat
def rdV (X : RdX) (a on : Nat) (oa : Option Addr) (oc : Nat) (pl wy : Int) : List Value := [.slice X.la X.T.length X.lc, .int .i64 (a : Int), .slice X.na X.N.length X.nc, .int .i64 (X.en : Int), .int .i64 pl, .int .i64 wy, .slice oa on oc]
structure RdOk (X : RdX) : Prop where
 toks : TokAt X.W X.la X.T
 names : StrsAt X.W X.na X.N
 door : Door X.W
 gB : X.W.heap.size ≤ X.g
 nl : X.N.length ≤ 1000
 nc : X.N.length ≤ X.nc
 ns : ∀ x ∈ X.N, x.length ≤ 281474976710656
 tl : X.T.length ≤ 6000
 ti : ∀ t ∈ X.T, t.kind = 1 → headB isLet t.text = true
structure RdS (X : RdX) (w : World) (a : Nat) (O : List Nd) (oa : Option Addr) (oc : Nat) (pl wy : Int) : Prop where
 box : RowAt w X.g TRd (rdV X a O.length oa oc pl wy)
 own : OwnR w X.W.heap.size TNd 2 oa O.length oc (pcells O)
 ap : ∀ j, (Value.slice oa O.length oc).ownBlock = some j → j ≠ X.g
 bel : Below X.W.heap.size X.W w
 le : O.length ≤ a ∧ a ≤ X.T.length
structure RdG (g : Nat) (w w' : World) (s s' : Option Nat) : Prop where
 keep : Keeps w w' (fun j => j = g ∨ s = some j)
 new : ∀ j, s' = some j → s = some j ∨ w.heap.size ≤ j
theorem RdG.refl (g : Nat) (w : World) (s : Option Nat) : RdG g w w s s := ⟨Keeps.refl _ _, fun j h => .inl h⟩
theorem RdG.below {g : Nat} {w w' : World} {s : Option Nat} (h : Below w.heap.size w w') : RdG g w w' s s := ⟨Keeps.of_below h, fun j h => .inl h⟩
theorem RdG.trans {g : Nat} {w w1 w2 : World} {s s1 s2 : Option Nat} (h : RdG g w w1 s s1) (k : RdG g w1 w2 s1 s2) : RdG g w w2 s s2 :=
 ⟨h.keep.trans k.keep (fun j hj e => by
  rcases e with e | e
  ·exact .inl e
  ·rcases h.new j e with h1 | h1
   ·exact .inr h1
   ·omega), fun j hj => by
  rcases k.new j hj with h1 | h1
  ·exact h.new j h1
  ·exact .inr (Nat.le_trans h.keep.size h1)⟩
theorem RdG.row {g : Nat} {w w' : World} {s s' : Option Nat} (h : RdG g w w' s s') {B T : Nat} {l : List Value} (r : RowAt w B T l) (h1 : B ≠ g) (h2 : s ≠ some B) : RowAt w' B T l := r.keeps h.keep (fun e => by
 rcases e with e | e
 ·exact h1 e
 ·exact h2 e)
theorem RdS.below {X : RdX} {w w' : World} {a : Nat} {O : List Nd} {oa : Option Addr} {oc : Nat} {pl wy : Int} (h : RdS X w a O oa oc pl wy) (hb : Below w.heap.size w w') : RdS X w' a O oa oc pl wy :=
 ⟨h.box.below hb, OwnR.keeps (S := fun _ => False) h.own (Keeps.of_below hb) (fun _ _ e => e), h.ap, h.bel.trans (hb.mono h.bel.size), h.le⟩
def isB (T : List Tk) (a : Nat) (s : List UInt8) : Bool := match T[a]? with
 | some t => decide (t.kind ≠ 2) && decide (t.text = s)
 | none => false
set_option maxRecDepth 8000 in
set_option maxHeartbeats 4000000 in
theorem is_any (X : RdX) (hX : RdOk X) (w : World) (a : Nat) (O : List Nd) (oa : Option Addr) (oc : Nat) (pl wy : Int) (h : RdS X w a O oa oc pl wy) (s : ByteArray) :
  Calls Tryz.prog 73 #[.pointer (some ⟨X.g, 0, none⟩), .string s] w fun e w' => e = .returned (.bool (isB X.T a s.data.toList)) ∧ Quiet w w' := by
 have c0 : w.cell? ⟨X.g, 0, none⟩ = some (.slice X.la X.T.length X.lc) := h.box.cell 0
 have c1 : w.cell? ⟨X.g, 1, none⟩ = some (.int .i64 (a : Int)) := h.box.cell 1
 have htk := hX.toks.below h.bel
 have hal := h.le.2
 have htl := hX.tl
 obtain ⟨res, hres⟩ : ∃ res, res = isB X.T a s.data.toList := ⟨_, rfl⟩
 rw [← hres]
 unfold isB at hres
 obtain ⟨n, hn⟩ : ∃ n, n = X.T.length := ⟨_, rfl⟩
 have hnI : (n : Int) ≤ 6000 := by omega
 rw [← hn] at c0
 by_cases hl : a < X.T.length
 ·have hlI : (a : Int) < (n : Int) := by omega
  obtain ⟨b, off, ea, hbl, hc⟩ := htk (by omega)
  have SG := hc a hl
  rw [List.getElem?_eq_getElem hl] at hres
  generalize X.T[a] = t at SG hres
  obtain ⟨tk, tn, ta, tt⟩ := t
  dsimp only at SG hres
  have d0 : w.cell? ⟨b, off + a * 4, none⟩ = some (.int .i64 (tk : Int)) := SG 0 _ rfl
  have d3 : w.cell? ⟨b, off + a * 4 + 3, none⟩ = some (.string ⟨tt.toArray⟩) := SG 3 _ rfl
  rw [ea] at c0
  by_cases hk : tk = 2
  ·have hkB : ((tk : Int) != 2) = false := by rw [hk]; rfl
   have hkN : (tk != 2) = false := by rw [hk]; rfl
   have hr : res = false := by rw [hres, decide_eq_false (not_not_intro hk), Bool.false_and]
   subst hr
   clear hres SG hc hl hk htk hal htl hn h hX
   go_enter Tryz.func73, Tryz.ntmps73
   go_wp2
   go_quiet (fail)
   go_wp2
   go_ret
   exact ⟨rfl, Quiet.one _ _⟩
  ·have hkB : ((tk : Int) != 2) = true := by rw [bne_iff_ne]; omega
   have hkN : (tk != 2) = true := by rw [bne_iff_ne]; exact hk
   rw [decide_eq_true hk, Bool.true_and] at hres
   by_cases ht : tt = s.data.toList
   ·have hs : (⟨tt.toArray⟩ : ByteArray) = s := (str_eq _ _).2 ht
    rw [hs] at d3
    have hr : res = true := by rw [hres, decide_eq_true ht]
    subst hr
    clear hres SG hc hl hk htk hal htl hn h hX ht hs
    go_enter Tryz.func73, Tryz.ntmps73
    go_wp2
    go_quiet (fail)
    go_wp2
    go_ret
    exact ⟨rfl, Quiet.one _ _⟩
   ·have hs : ¬ (⟨tt.toArray⟩ : ByteArray) = s := fun e => ht ((str_eq _ _).1 e)
    have hq := str_no hs
    have hr : res = false := by rw [hres, decide_eq_false ht]
    subst hr
    generalize (⟨tt.toArray⟩ : ByteArray) = q at d3 hq
    clear hres SG hc hl hk htk hal htl hn h hX ht hs
    go_enter Tryz.func73, Tryz.ntmps73
    go_wp2
    go_quiet (fail)
    go_wp2
    go_ret
    exact ⟨rfl, Quiet.one _ _⟩
 ·have hlI : ¬ (a : Int) < (n : Int) := by omega
  have hlB : decide (a < n) = false := decide_eq_false (by omega)
  have hlB2 : decide ((a : Int) < (n : Int)) = false := decide_eq_false hlI
  rw [List.getElem?_eq_none (by omega)] at hres
  subst hres
  clear hl htk hal htl hn h hX
  go_enter Tryz.func73, Tryz.ntmps73
  go_wp2
  go_quiet (fail)
  go_wp2
  go_ret
  exact ⟨rfl, Quiet.one _ _⟩
def TakeV (X : RdX) (w : World) (a : Nat) (O : List Nd) (oa : Option Addr) (oc : Nat) (pl wy : Int) (b : Bool) (e : Ending) (w' : World) : Prop :=
 e = .returned (.bool b) ∧ RdS X w' (if b = true then a + 1 else a) O oa oc pl wy ∧ RdG X.g w w' (Value.slice oa O.length oc).ownBlock (Value.slice oa O.length oc).ownBlock
theorem isB_lt {T : List Tk} {a : Nat} {s : List UInt8} (h : isB T a s = true) : a < T.length := by
 unfold isB at h
 split at h
 ·rename_i t ht
  exact (List.getElem?_eq_some_iff.1 ht).1
 ·cases h
set_option maxRecDepth 8000 in
set_option maxHeartbeats 4000000 in
theorem take_any (X : RdX) (hX : RdOk X) (w : World) (a : Nat) (O : List Nd) (oa : Option Addr) (oc : Nat) (pl wy : Int) (h : RdS X w a O oa oc pl wy) (s : ByteArray) :
  Calls Tryz.prog 53 #[.pointer (some ⟨X.g, 0, none⟩), .string s] w fun e w' => TakeV X w a O oa oc pl wy (isB X.T a s.data.toList) e w' := by
 have IS := is_any X hX w a O oa oc pl wy h s
 have hlt := isB_lt (T := X.T) (a := a) (s := s.data.toList)
 generalize isB X.T a s.data.toList = bv at IS hlt ⊢
 replace IS := Lib.hid IS
 cases bv with
 | false =>
  have fin : Hid (∀ v, Quiet w v → TakeV X w a O oa oc pl wy false (.returned (.bool false)) v) := fun v hq => ⟨rfl, by rw [if_neg (by decide)]; exact h.below (hq.below _), RdG.below (hq.below _)⟩
  clear h hX hlt
  go_enter Tryz.func53, Tryz.ntmps53
  go_wp2_with fail
  refine IS.out.mono ?_
  rintro e w1 ⟨rfl, hq⟩
  have hf := Lib.hid (fin.out w1 hq)
  clear hq fin IS
  go_wp2
  go_ret
  exact hf.out
 | true =>
  have hlt := hlt rfl
  have htl := hX.tl
  have haI : (a : Int) ≤ 6000 := by omega
  have fin : Hid (∀ v, Quiet w v → v.cell? ⟨X.g, 1, none⟩ = some (.int .i64 (a : Int)) ∧ v.frozen? ⟨X.g, 1, none⟩ = false ∧ TakeV X w a O oa oc pl wy true (.returned (.bool true)) (v.setCell ⟨X.g, 1, none⟩ (.int .i64 ((a : Int) + 1)))) := fun v hq => by
   have h1 := h.below (hq.below _)
   have k1 : Keeps v (v.setCell ⟨X.g, 1, none⟩ (.int .i64 ((a : Int) + 1))) (fun j => j = X.g) := Keeps.set _ _ _ _ rfl
   refine ⟨h1.box.cell 1, h1.box.free 1, rfl, ?_, (RdG.below (hq.below _)).trans ⟨(Keeps.refl _ _).trans k1 (fun j _ e => .inl e), fun j e => .inl e⟩⟩
   rw [if_pos rfl]
   refine ⟨h1.box.set 1 _, OwnR.keeps h1.own k1 (fun j hj e => h1.ap j hj e), h1.ap, k1.below h1.bel (fun j e => by rw [e]; exact hX.gB), by have := h.le; omega, hlt⟩
  clear h hX hlt htl
  go_enter Tryz.func53, Tryz.ntmps53
  go_wp2_with fail
  refine IS.out.mono ?_
  rintro e w1 ⟨rfl, hq⟩
  obtain ⟨c1, f1, hf⟩ := fin.out w1 hq
  replace hf := Lib.hid hf
  clear hq fin IS
  go_wp2
  go_ret
  exact hf.out
end Go.Proofs.YtkehfolcfcbplaaGreatDoor
