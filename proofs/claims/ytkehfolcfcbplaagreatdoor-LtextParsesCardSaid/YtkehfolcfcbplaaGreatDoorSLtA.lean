/- The law's helpers (nodes, heavy), walked. Conditions: not too many nodes or names. -/
import Derived.Test.YtkehfolcfcbplaaGreatDoorSLtR9
namespace Go.Proofs.YtkehfolcfcbplaaGreatDoor
open Go.RowKit
set_option linter.unusedVariables false
set_option linter.unusedSimpArgs false
theorem take_succ_eq {f g : List Nd} {k : Nat} (h : f.take k = g.take k) (h1 : k < f.length) (h2 : k < g.length) (e : f[k] = g[k]) : f.take (k + 1) = g.take (k + 1) := by
 rw [List.take_succ_eq_append_getElem h1, List.take_succ_eq_append_getElem h2, h, e]
set_option maxRecDepth 8000 in
set_option maxHeartbeats 8000000 in
theorem nodes_any (w : World) (a b : Option Addr) (c d : Nat) (f g : List Nd) (hf : NdAt w a f) (hg : NdAt w b g) (hl : f.length ≤ 100000) (hl2 : g.length ≤ 100000) :
  Calls Tryz.prog 8 #[.slice a f.length c, .slice b g.length d] w fun e w' => e = .returned (.bool (decide (f = g))) ∧ Quiet w w' := by
 obtain ⟨res, hres⟩ : ∃ res, res = decide (f = g) := ⟨_, rfl⟩
 rw [← hres]
 by_cases hn : f.length = g.length
 ·obtain ⟨n, hnf⟩ : ∃ n, n = f.length := ⟨_, rfl⟩
  have hng : n = g.length := by omega
  rw [← hnf, ← hng]
  have hnI : (n : Int) ≤ 100000 := by omega
  have hz : ((n : Int) != (n : Int)) = false := by simp
  have T0 : Hid (f.take 0 = g.take 0) := by show _ = _; rw [List.take_zero, List.take_zero]
  replace hf := Lib.hid hf
  replace hg := Lib.hid hg
  replace hnf := Lib.hid hnf
  replace hng := Lib.hid hng
  replace hres := Lib.hid hres
  clear hl hl2 hn
  go_enter Tryz.func8, Tryz.ntmps8
  go_wp2
  go_loopw [4, 5] (fun bv iv wr => ∃ k m : Nat, bv = .bool false ∧ k ≤ n ∧ iv = .int .i64 (k : Int) ∧ wr = w.drewN m ∧ Hid (f.take k = g.take k)) (fun _ iv _ => n - (intOf iv).toNat)
  case atStart => exact ⟨0, 0, rfl, Nat.zero_le _, rfl, rfl, T0⟩
  case round =>
   obtain ⟨k, m, rfl, hk, rfl, rfl, ht⟩ := hrel
   clear T0
   by_cases hlt : k < n
   ·have hkI : (k : Int) < (n : Int) := by omega
    have k1 : k < f.length := by have := hnf.out; omega
    have k2 : k < g.length := by have := hng.out; omega
    obtain ⟨b1, o1, rfl, h1⟩ := hf.out (by omega)
    obtain ⟨b2, o2, rfl, h2⟩ := hg.out (by omega)
    obtain ⟨f0, f1⟩ := h1 k k1
    obtain ⟨g0, g1⟩ := h2 k k2
    have EQ : Hid (f[k] = g[k] → f.take (k + 1) = g.take (k + 1)) := fun e => take_succ_eq ht.out k1 k2 e
    have NE : Hid (¬ f[k] = g[k] → res = false) := fun e => by
     show _ = _
     rw [hres.out]
     refine decide_eq_false fun h => e ?_
     subst h
     rfl
    clear h1 h2
    generalize f[k] = x at f0 f1 EQ NE
    generalize g[k] = y at g0 g1 EQ NE
    obtain ⟨x1, x2⟩ := x
    obtain ⟨y1, y2⟩ := y
    simp only at f0 f1 g0 g1
    clear k1 k2
    by_cases e1 : x1 = y1
    ·subst e1
     have q1 : (decide (x1 = x1)) = true := by simp
     have q2 : (decide (¬ x1 = x1)) = false := by simp
     by_cases e2 : x2 = y2
     ·subst e2
      have q3 : (decide (x2 = x2)) = true := by simp
      have q4 : (decide (¬ x2 = x2)) = false := by simp
      have ht2 := Lib.hid (EQ.out rfl)
      clear EQ NE ht
      go_wp2
      go_quiet (fail)
      go_wp2
      go_roundw
      case rel => exact ⟨k + 1, _, rfl, by omega, by go_num, by first | rfl | exact World.drewN_drewN _ _ _, ht2⟩
      case measure => simp [intOf]; omega
     ·have q3 : (decide (x2 = y2)) = false := decide_eq_false e2
      have q4 : (decide (¬ x2 = y2)) = true := decide_eq_true e2
      have hr := Lib.hid (NE.out (fun e => e2 (congrArg Prod.snd e)))
      clear EQ NE ht
      go_wp2
      go_quiet (fail)
      go_wp2
      go_ret
      exact ⟨congrArg (fun b => Ending.returned (Value.bool b)) hr.out.symm, Quiet.two _ _ _⟩
    ·have q1 : (decide (x1 = y1)) = false := decide_eq_false e1
     have q2 : (decide (¬ x1 = y1)) = true := decide_eq_true e1
     have hr := Lib.hid (NE.out (fun e => e1 (congrArg Prod.fst e)))
     clear EQ NE ht
     go_wp2
     go_quiet (fail)
     go_wp2
     go_ret
     exact ⟨congrArg (fun b => Ending.returned (Value.bool b)) hr.out.symm, Quiet.two _ _ _⟩
   ·have hkI : ¬ (k : Int) < (n : Int) := by omega
    obtain rfl : k = n := by omega
    have hr : Hid (res = true) := by
     show _ = _
     rw [hres.out]
     refine decide_eq_true ?_
     have := ht.out
     rw [List.take_of_length_le (by rw [← hnf.out]; exact Nat.le_refl _), List.take_of_length_le (by rw [← hng.out]; exact Nat.le_refl _)] at this
     exact this
    clear ht
    go_wp2
    go_ret
    exact ⟨congrArg (fun b => Ending.returned (Value.bool b)) hr.out.symm, Quiet.one _ _⟩
 ·have hz : ((f.length : Int) != (g.length : Int)) = true := by rw [bne_iff_ne]; omega
  have hzN : (f.length != g.length) = true := by rw [bne_iff_ne]; exact hn
  have hr : res = false := by rw [hres]; exact decide_eq_false fun h => hn (by rw [h])
  subst hr
  generalize f.length = n1 at *
  generalize g.length = n2 at *
  clear hf hg hres hn
  go_enter Tryz.func8, Tryz.ntmps8
  go_wp2
  go_ret
  exact ⟨rfl, Quiet.refl _⟩
def heavyP (n : Nat) (N : List (List UInt8)) : Bool := N.any (fun x => decide (40 < x.length)) || decide (60 < n) || decide (20 < N.length)
theorem heavy_not {n : Nat} {N : List (List UInt8)} (h : heavyP n N = false) : (∀ x ∈ N, x.length ≤ 40) ∧ n ≤ 60 ∧ N.length ≤ 20 := by
 unfold heavyP at h
 simp only [Bool.or_eq_false_iff, decide_eq_false_iff_not, List.any_eq_false, decide_eq_true_eq] at h
 exact ⟨fun x hx => by have := h.1.1 x hx; omega, by omega, by omega⟩
set_option maxRecDepth 8000 in
set_option maxHeartbeats 8000000 in
theorem heavy_any (w : World) (a : Option Addr) (n c : Nat) (na : Option Addr) (nc : Nat) (N : List (List UInt8)) (hN : StrsAt w na N) (hNl : N.length ≤ 281474976710656) (hn : n ≤ 281474976710656) :
  Calls Tryz.prog 4 #[.slice a n c, .slice na N.length nc] w fun e w' => e = .returned (.bool (heavyP n N)) ∧ w = w' := by
 obtain ⟨res, hres⟩ : ∃ res, res = heavyP n N := ⟨_, rfl⟩
 rw [← hres]
 unfold heavyP at hres
 obtain ⟨m, hm⟩ : ∃ m, m = N.length := ⟨_, rfl⟩
 rw [← hm]
 have hmI : (m : Int) ≤ 281474976710656 := by omega
 have hnI : (n : Int) ≤ 281474976710656 := by omega
 have T0 : Hid (∀ j (h : j < N.length), j < 0 → N[j].length ≤ 40) := fun j h h0 => absurd h0 (Nat.not_lt_zero _)
 replace hN := Lib.hid hN
 replace hm := Lib.hid hm
 replace hres := Lib.hid hres
 clear hNl hn
 go_enter Tryz.func4, Tryz.ntmps4
 go_wp2
 go_loop [4, 5] (fun bv iv => ∃ k : Nat, bv = .bool false ∧ iv = .int .i64 (k : Int) ∧ k ≤ m ∧ Hid (∀ j (h : j < N.length), j < k → N[j].length ≤ 40)) (fun _ iv => m - (intOf iv).toNat)
 case atStart => exact ⟨0, rfl, rfl, Nat.zero_le _, T0⟩
 case round =>
  obtain ⟨k, rfl, rfl, hk, hall⟩ := hrel
  clear T0
  by_cases hlt : k < m
  ·have hkI : (k : Int) < (m : Int) := by omega
   have k1 : Hid (k < N.length) := by show _ < _; have := hm.out; omega
   obtain ⟨b, o, rfl, hc⟩ := hN.out (by have := k1.out; omega)
   have c0 := hc k k1.out
   have hsz : (⟨(N[k]'k1.out).toArray⟩ : ByteArray).size = (N[k]'k1.out).length := str_sz _
   obtain ⟨q, hq⟩ : ∃ q : ByteArray, q = ⟨(N[k]'k1.out).toArray⟩ := ⟨_, rfl⟩
   rw [← hq] at c0 hsz
   clear hc hq
   by_cases h40 : q.size ≤ 40
   ·have h40I : ¬ (40 : Int) < (q.size : Int) := by omega
    have hall2 : Hid (∀ j (h : j < N.length), j < k + 1 → N[j].length ≤ 40) := fun j h hj => by
     by_cases e : j = k
     ·subst e; omega
     ·exact hall.out j h (by omega)
    clear hsz h40 hall
    go_wp2
    go_round
    case rel => exact ⟨k + 1, rfl, by go_num, by omega, hall2⟩
    case measure => simp [intOf]; omega
   ·have h40I : (40 : Int) < (q.size : Int) := by omega
    have hr : Hid (res = true) := by
     show _ = _
     have : N.any (fun x => decide (40 < x.length)) = true := List.any_eq_true.2 ⟨_, List.getElem_mem k1.out, decide_eq_true (by omega)⟩
     rw [hres.out, this, Bool.true_or, Bool.true_or]
    clear hsz h40 hall
    go_wp2
    go_ret
    exact ⟨congrArg (fun b => Ending.returned (Value.bool b)) hr.out.symm, rfl⟩
  ·have hkI : ¬ (k : Int) < (m : Int) := by omega
   have ha : N.any (fun x => decide (40 < x.length)) = false := by
    rw [List.any_eq_false]
    intro x hx
    obtain ⟨j, hj, e⟩ := List.mem_iff_getElem.1 hx
    have := hall.out j hj (by have := hm.out; omega)
    rw [e] at this
    rw [decide_eq_true_eq]
    omega
   have hr : Hid (res = (decide (60 < n) || decide (20 < m))) := by
    show _ = _
    rw [hres.out, ha, Bool.false_or, hm.out]
   clear ha hall
   by_cases h60 : 60 < n
   ·have h60I : (60 : Int) < (n : Int) := by omega
    have hr2 : Hid (res = true) := by show _ = _; rw [hr.out, decide_eq_true h60, Bool.true_or]
    clear h60 hr
    go_wp2
    go_ret
    exact ⟨congrArg (fun b => Ending.returned (Value.bool b)) hr2.out.symm, rfl⟩
   ·have h60I : ¬ (60 : Int) < (n : Int) := by omega
    by_cases h20 : 20 < m
    ·have h20I : (20 : Int) < (m : Int) := by omega
     have hr2 : Hid (res = true) := by show _ = _; rw [hr.out, decide_eq_true h20, Bool.or_true]
     clear h60 h20 hr
     go_wp2
     go_ret
     exact ⟨congrArg (fun b => Ending.returned (Value.bool b)) hr2.out.symm, rfl⟩
    ·have h20I : ¬ (20 : Int) < (m : Int) := by omega
     have hr2 : Hid (res = false) := by show _ = _; rw [hr.out, decide_eq_false h60, decide_eq_false h20]; rfl
     clear h60 h20 hr
     go_wp2
     go_ret
     exact ⟨congrArg (fun b => Ending.returned (Value.bool b)) hr2.out.symm, rfl⟩
end Go.Proofs.YtkehfolcfcbplaaGreatDoor
