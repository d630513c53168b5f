/- What Parse needs of the tokens, plain; differ, walked. Conditions: no text over 2^48 bytes. -/
import Derived.Test.YtkehfolcfcbplaaGreatDoorSLtR7
namespace Go.Proofs.YtkehfolcfcbplaaGreatDoor
open Go.RowKit
set_option linter.unusedVariables false
set_option linter.unusedSimpArgs false
theorem scan_le6 (L : List UInt8) : ∀ (f a : Nat) (acc : List Tk), acc.length ≤ 6000 → (scanF L f a acc).toks.length ≤ 6000
 | 0, a, acc, h => h
 | f + 1, a, acc, h => by
  rw [scanF]
  split
  ·split
   ·exact Nat.zero_le _
   ·split
    ·exact Nat.zero_le _
    ·refine scan_le6 L f _ _ ?_
     rw [List.length_append]
     simp only [List.length_cons, List.length_nil]
     omega
  ·exact h
theorem scan_len (L : List UInt8) : (scanLex L).toks.length ≤ 6000 := by
 unfold scanLex
 split
 ·exact Nat.zero_le _
 ·exact scan_le6 L _ _ [] (Nat.zero_le _)
theorem one_let {l : List UInt8} {n : Int} {k : Nat} (h : oneP l = .tok 1 n k) : headB isLet l = true := by
 unfold oneP at h
 split at h
 ·assumption
 ·split at h
  ·split at h
   ·injection h with h; cases h
   ·cases h
  ·split at h
   ·injection h with h; cases h
   ·cases h
theorem scan_let (L : List UInt8) : ∀ t ∈ (scanLex L).toks, t.kind = 1 → headB isLet t.text = true := by
 have hg : ∀ t ∈ (scanLex L).toks, GoodT t := by
  unfold scanLex
  split
  ·intro t ht; cases ht
  ·exact scan_good L _ _ [] (fun t ht => by cases ht)
 intro t ht hk
 have h1 := (hg t ht).2 [] (.inl rfl)
 rw [hk, List.append_nil] at h1
 exact one_let h1
theorem errC_ne (N : List (List UInt8)) (k : Nat) (s : List UInt8) : errC (clsP N k s) ≠ 0 := by
 unfold clsP
 repeat' split
 all_goals exact fun e => by cases e
theorem stop_same (X : RdX) {L : List UInt8} (hL : X.en = L.length) {a : Nat} {r : List Cls} (hr : r = (clsL X.N X.T).drop a) (ha : a ≤ X.T.length) : stopAt X a = (((stopP L X.N X.T r).1 : Int), ((stopP L X.N X.T r).2 : Int)) ∧ (stopP L X.N X.T r).2 ≠ 0 := by
 have hCl := cls_len X.N X.T
 by_cases hl : a < X.T.length
 ·have hd : r = (clsL X.N X.T)[a]'(by omega) :: (clsL X.N X.T).drop (a + 1) := by rw [hr]; exact List.drop_eq_getElem_cons (by omega)
  have hc : (clsL X.N X.T)[a]'(by omega) = clsP X.N X.T[a].kind X.T[a].text := by unfold clsL; rw [List.getElem_map]
  rw [hd, hc]
  unfold stopAt stopP
  rw [List.getElem?_eq_getElem hl]
  dsimp only
  rw [List.length_drop, hCl, show X.T.length - (X.T.length - (a + 1) + 1) = a by omega]
  refine ⟨?_, errC_ne _ _ _⟩
  congr 2
  simp [List.getD, List.getElem?_eq_getElem hl]
 ·have hd : r = [] := by rw [hr]; exact List.drop_of_length_le (by omega)
  rw [hd]
  unfold stopAt stopP
  rw [List.getElem?_eq_none (by omega), hL]
  exact ⟨rfl, fun e => by cases e⟩
theorem differ_step {la lb : List UInt8} {i : Nat} (h1 : i < la.length) (h2 : i < lb.length) : differP (la.drop i) (lb.drop i) = if la[i] = lb[i] then differP (la.drop (i + 1)) (lb.drop (i + 1)) + 1 else 0 := by
 rw [List.drop_eq_getElem_cons h1, List.drop_eq_getElem_cons h2, differP]
theorem differ_fin {la lb : List UInt8} {i : Nat} (h : la.length ≤ i ∨ lb.length ≤ i) : differP (la.drop i) (lb.drop i) = 0 := by
 rcases h with h | h
 ·rw [List.drop_of_length_le h]
  cases lb.drop i <;> rfl
 ·rw [List.drop_of_length_le h]
  cases la.drop i <;> rfl
set_option maxRecDepth 8000 in
set_option maxHeartbeats 4000000 in
theorem differ_any (w : World) (s q : ByteArray) (hs : s.size ≤ 281474976710656) :
  Calls Tryz.prog 14 #[.string s, .string q] w fun e w' => e = .returned (.int .i64 (differP s.data.toList q.data.toList : Int)) ∧ Below w.heap.size w w' := by
 obtain ⟨la, hla⟩ : ∃ la, la = s.data.toList := ⟨_, rfl⟩
 obtain ⟨lb, hlb⟩ : ∃ lb, lb = q.data.toList := ⟨_, rfl⟩
 have hA : s.size = la.length := by rw [hla, Array.length_toList]; rfl
 have hB : q.size = lb.length := by rw [hlb, Array.length_toList]; rfl
 have AT : Hid (∀ i (h : i < s.size) (h2 : i < la.length), s[i] = la[i]) := fun i h h2 => by
  subst hla
  exact data_at s i h _
 have BT : Hid (∀ i (h : i < q.size) (h2 : i < lb.length), q[i] = lb[i]) := fun i h h2 => by
  subst hlb
  exact data_at q i h _
 rw [← hla, ← hlb]
 obtain ⟨res, hres⟩ : ∃ res, res = differP la lb := ⟨_, rfl⟩
 rw [← hres]
 have ST : Hid (0 + differP (la.drop 0) (lb.drop 0) = res) := by
  show _ = _
  rw [List.drop_zero, List.drop_zero, hres, Nat.zero_add]
 replace hA := Lib.hid hA
 replace hB := Lib.hid hB
 clear hres hla hlb
 have hsI : (s.size : Int) ≤ 281474976710656 := by omega
 clear hs
 go_enter Tryz.func14, Tryz.ntmps14
 go_wp2
 go_loopw [5] (fun iv wr => ∃ i : Nat, iv = .int .i64 (i : Int) ∧ i ≤ s.size ∧ Hid (i + differP (la.drop i) (lb.drop i) = res) ∧ Hid (Below w.heap.size w wr)) (fun iv _ => s.size - (intOf iv).toNat)
 case atStart => exact ⟨0, rfl, Nat.zero_le _, ST, Below.refl _ _⟩
 case round =>
  obtain ⟨i, rfl, hi, hd, hb⟩ := hrel
  clear ST
  by_cases h1 : i < s.size
  ·have h1I : (i : Int) < (s.size : Int) := by omega
   by_cases h2 : i < q.size
   ·have h2I : (i : Int) < (q.size : Int) := by omega
    have k1 : i < la.length := by have := hA.out; omega
    have k2 : i < lb.length := by have := hB.out; omega
    have hst := differ_step k1 k2
    have e1 := AT.out i h1 k1
    have e2 := BT.out i h2 k2
    rw [← e1, ← e2] at hst
    by_cases he : s[i] = q[i]
    ·have heB : ((s[i].toNat : Int) == (q[i].toNat : Int)) = true := by rw [he]; exact beq_self_eq_true _
     have heN : (s[i].toNat == q[i].toNat) = true := by rw [he]; exact beq_self_eq_true _
     have hd2 : Hid ((i + 1) + differP (la.drop (i + 1)) (lb.drop (i + 1)) = res) := by
      show _ = _
      have := hd.out
      rw [hst, if_pos he] at this
      omega
     clear hst e1 e2 he k1 k2
     go_wp2_with fail
     go_quiet (fail)
     have hbq := Lib.hid (btrans hb.out (bdrewN (n := nq) (Below.refl wr.heap.size wr)))
     go_wp2
     go_roundw
     case rel => exact ⟨i + 1, by go_num, by omega, hd2, hbq⟩
     case measure => simp [intOf]; omega
    ·have heB : ((s[i].toNat : Int) == (q[i].toNat : Int)) = false := by
      rw [beq_eq_false_iff_ne]
      exact fun e => he (UInt8.toNat_inj.1 (by omega))
     have heN : (s[i].toNat == q[i].toNat) = false := by
      rw [beq_eq_false_iff_ne]
      exact fun e => he (UInt8.toNat_inj.1 e)
     have hr : Hid (i = res) := by
      show _ = _
      have := hd.out
      rw [hst, if_neg he] at this
      omega
     clear hst e1 e2 he k1 k2
     go_wp2_with fail
     go_quiet (fail)
     have hbq := Lib.hid (btrans hb.out (bdrewN (n := nq) (Below.refl wr.heap.size wr)))
     go_wp2
     go_ret
     exact ⟨by rw [← hr.out]; rfl, hbq.out⟩
   ·have h2I : ¬ (i : Int) < (q.size : Int) := by omega
    have h2B : decide ((i : Int) < (q.size : Int)) = false := decide_eq_false h2I
    have h2N : decide (i < q.size) = false := decide_eq_false h2
    have hr : Hid (i = res) := by
     show _ = _
     have := hd.out
     rw [differ_fin (.inr (by have := hB.out; omega))] at this
     omega
    clear h2
    go_wp2_with fail
    go_quiet (fail)
    have hbq := Lib.hid (btrans hb.out (bdrewN (n := nq) (Below.refl wr.heap.size wr)))
    go_wp2
    go_ret
    exact ⟨by rw [← hr.out]; rfl, hbq.out⟩
  ·have h1I : ¬ (i : Int) < (s.size : Int) := by omega
   have h1B : decide ((i : Int) < (s.size : Int)) = false := decide_eq_false h1I
   have h1N : decide (i < s.size) = false := decide_eq_false h1
   have hr : Hid (i = res) := by
    show _ = _
    have := hd.out
    rw [differ_fin (.inl (by have := hA.out; omega))] at this
    omega
   clear h1
   go_wp2_with fail
   go_quiet (fail)
   have hbq := Lib.hid (btrans hb.out (bdrewN (n := nq) (Below.refl wr.heap.size wr)))
   go_wp2
   go_ret
   exact ⟨by rw [← hr.out]; rfl, hbq.out⟩
end Go.Proofs.YtkehfolcfcbplaaGreatDoor
