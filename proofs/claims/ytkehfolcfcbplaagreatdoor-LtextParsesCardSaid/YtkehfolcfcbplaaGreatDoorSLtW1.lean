/- Words of formulas, names among names, and whether a name may be, walked. Conditions: what the listed variables hold; short texts. -/
import Derived.Test.YtkehfolcfcbplaaGreatDoorSLtP
import Derived.Test.YtkehfolcfcbplaaGreatDoorSLexM
namespace Go.Proofs.YtkehfolcfcbplaaGreatDoor
open Go.RowKit
set_option linter.unusedVariables false
def StrsAt (w : World) (a : Option Addr) (N : List (List UInt8)) : Prop := 0 < N.length → ∃ b off, a = some ⟨b, off, none⟩ ∧ ∀ i (hi : i < N.length), w.cell? ⟨b, off + i, none⟩ = some (.string ⟨N[i].toArray⟩)
theorem StrsAt.below {w w' : World} {a : Option Addr} {N : List (List UInt8)} (h : StrsAt w a N) (hb : Below w.heap.size w w') : StrsAt w' a N := fun h0 => by
 obtain ⟨b, off, ha, hc⟩ := h h0
 exact ⟨b, off, ha, fun i hi => bcell hb (hc i hi)⟩
theorem StrsAt.take {w : World} {a : Option Addr} {N : List (List UInt8)} (h : StrsAt w a N) (k : Nat) : StrsAt w a (N.take k) := fun h0 => by
 rw [List.length_take] at h0
 obtain ⟨b, off, ha, hc⟩ := h (by omega)
 refine ⟨b, off, ha, fun i hi => ?_⟩
 rw [List.length_take] at hi
 rw [List.getElem_take]
 exact hc i (by omega)
abbrev THow : Nat := 61
theorem undHow : ∃ d, Tryz.prog.underlying THow = some d ∧ d.isRow = true := und_row (by kernel_rfl)
theorem own_rows (l : List UInt8) : (waysL.drop 1).any (fun r => decide (r.1 ≠ []) && decide (r.1 = l)) = ownF.contains l := by
 rw [Bool.eq_iff_iff, List.any_eq_true, List.contains_iff_mem]
 constructor
 ·rintro ⟨r, hr, h⟩
  rw [Bool.and_eq_true, decide_eq_true_eq, decide_eq_true_eq] at h
  obtain ⟨h1, rfl⟩ := h
  have h2 : ∀ r ∈ waysL.drop 1, r.1 ≠ [] → r.1 ∈ ownF := by decide
  exact h2 r hr h1
 ·intro h
  have h2 : ∀ x ∈ ownF, ∃ r ∈ waysL.drop 1, r.1 ≠ [] ∧ r.1 = x := by decide
  obtain ⟨r, h3, h4, h5⟩ := h2 l h
  exact ⟨r, h3, by rw [decide_eq_true h4, decide_eq_true h5]; rfl⟩
theorem own1_any (w : World) (z : ByteArray) (b l r : Int) (g : Nat) (s : ByteArray) (hc : w.cell? ⟨g, 0, none⟩ = some (.string s)) :
  Calls Tryz.prog 55 #[.agg #[.string z, .int .i64 b, .int .i64 l, .int .i64 r], .pointer (some ⟨g, 0, none⟩)] w fun e w' => e = .returned (.bool (decide (z.data.toList ≠ []) && decide (z = s))) ∧ Below w.heap.size w w' := by
 have hb1 : Hid (Below w.heap.size w (w.alloc (.cells #[.string z, .int .i64 b, .int .i64 l, .int .i64 r] THow))) := balloc (Below.refl _ _) _
 have hc1 : ∀ o, (w.alloc o).cell? ⟨g, 0, none⟩ = some (.string s) := fun o => bcell (balloc (Below.refl _ _) o) hc
 clear hc
 by_cases h0 : z.data.toList = []
 ·have hz : z = ⟨#[]⟩ := take_eta h0
  rw [decide_eq_false (not_not_intro h0), Bool.false_and]
  subst hz
  clear h0
  go_enter Tryz.func55, Tryz.ntmps55
  go_wp2
  go_ret
  exact ⟨rfl, hb1.out⟩
 ·have hnl : ¬ z.toList = [] := by rw [ByteArray.toList_eq]; exact h0
  have hne : z.toList.isEmpty = false := by
   cases h : z.toList with
   | nil => exact absurd h hnl
   | cons a b => rfl
  rw [decide_eq_true h0, Bool.true_and]
  clear h0
  by_cases hs : z = s
  ·rw [decide_eq_true hs]
   subst hs
   go_enter Tryz.func55, Tryz.ntmps55
   go_wp2
   go_ret
   exact ⟨rfl, hb1.out⟩
  ·rw [decide_eq_false hs]
   have hq := str_no hs
   clear hs
   go_enter Tryz.func55, Tryz.ntmps55
   go_wp2
   go_ret
   exact ⟨rfl, hb1.out⟩
def IdxV (r : Bool) (e : Ending) : Prop := ∃ k : Int, e = .returned (.int .i64 k) ∧ decide (0 ≤ k) = r
set_option maxRecDepth 8000 in
set_option maxHeartbeats 4000000 in
theorem idxhow_any (w : World) (hd : Door w) (g : Nat) (s : ByteArray) (hc : w.cell? ⟨g, 0, none⟩ = some (.string s)) :
  Calls Tryz.prog 74 #[.slice (some ⟨0, 4, none⟩) 12 12, .func (.func 55) #[] #[.pointer (some ⟨g, 0, none⟩)]] w fun e w' => IdxV (ownF.contains s.data.toList) e ∧ Below w.heap.size w w' := by
 obtain ⟨rr, hrr⟩ : ∃ rr, rr = ownF.contains s.data.toList := ⟨_, rfl⟩
 rw [← hrr]
 have W0 : Hid (∀ v, Below w.heap.size w v → ∀ i (hi : i < 12), v.rangeAt 0 (4 + i * 4) (wayV (waysL[i + 1]'(Nat.succ_lt_succ hi)))) := fun v hb i hi j u hj => by
  have hj4 : j < 4 := (List.getElem?_eq_some_iff.1 hj).1
  have h1 := hd.ways ((i + 1) * 4 + j) (by omega)
  rw [wayVals_at waysL (i + 1) j (Nat.succ_lt_succ hi) hj4, hj] at h1
  have h2 : 4 + i * 4 + j = (i + 1) * 4 + j := by omega
  rw [h2]
  exact bcell hb h1
 have C : Hid (∀ v, Below w.heap.size w v → ∀ i (hi : i < 12), Calls Tryz.prog 55 #[.agg (wayV (waysL[i + 1]'(Nat.succ_lt_succ hi))).toArray, .pointer (some ⟨g, 0, none⟩)] v fun e w' => e = .returned (.bool (decide ((waysL[i + 1]'(Nat.succ_lt_succ hi)).1 ≠ []) && decide ((waysL[i + 1]'(Nat.succ_lt_succ hi)).1 = s.data.toList))) ∧ Below v.heap.size v w') := fun v hb i hi => by
  have h := own1_any v ⟨(waysL[i + 1]'(Nat.succ_lt_succ hi)).1.toArray⟩ (waysL[i + 1]'(Nat.succ_lt_succ hi)).2.1 (waysL[i + 1]'(Nat.succ_lt_succ hi)).2.2.1 (waysL[i + 1]'(Nat.succ_lt_succ hi)).2.2.2 g s (bcell hb hc)
  have e : decide ((⟨(waysL[i + 1]'(Nat.succ_lt_succ hi)).1.toArray⟩ : ByteArray) = s) = decide ((waysL[i + 1]'(Nat.succ_lt_succ hi)).1 = s.data.toList) := by
   rw [decide_eq_decide]; exact str_eq _ _
  rw [e] at h
  exact h
 have FIN : Hid (∀ k, k ≤ 12 → ((waysL.drop 1).take k).any (fun r => decide (r.1 ≠ []) && decide (r.1 = s.data.toList)) = false → k = 12 → rr = false) := fun k _ h e => by
  subst e
  rw [hrr, ← own_rows]
  exact h
 have ST : Hid (∀ i (hi : i < 12), ((waysL.drop 1).take i).any (fun r => decide (r.1 ≠ []) && decide (r.1 = s.data.toList)) = false → ((waysL.drop 1).take (i + 1)).any (fun r => decide (r.1 ≠ []) && decide (r.1 = s.data.toList)) = (decide ((waysL[i + 1]'(Nat.succ_lt_succ hi)).1 ≠ []) && decide ((waysL[i + 1]'(Nat.succ_lt_succ hi)).1 = s.data.toList)) ∧ ((decide ((waysL[i + 1]'(Nat.succ_lt_succ hi)).1 ≠ []) && decide ((waysL[i + 1]'(Nat.succ_lt_succ hi)).1 = s.data.toList)) = true → rr = true)) := fun i hi h => by
  have hl : i < (waysL.drop 1).length := hi
  have e : (waysL.drop 1)[i] = waysL[i + 1]'(Nat.succ_lt_succ hi) := by
   rw [List.getElem_drop]
   congr 1
   omega
  refine ⟨?_, fun ht => ?_⟩
  ·rw [List.take_succ_eq_append_getElem hl, List.any_append, h, e]
   simp
  ·rw [hrr, ← own_rows, List.any_eq_true]
   exact ⟨_, List.getElem_mem hl, by rw [e]; exact ht⟩
 have H0 : Hid (((waysL.drop 1).take 0).any (fun r => decide (r.1 ≠ []) && decide (r.1 = s.data.toList)) = false) := rfl
 have hb0 : Hid (Below w.heap.size w w) := Below.refl _ _
 clear hc hd hrr
 go_enter Tryz.func74, Tryz.ntmps74
 go_wp2
 go_loopw [4, 8] (fun rv iv wr => ∃ i : Nat, rv = .int .i64 0 ∧ iv = .int .i64 (i : Int) ∧ i ≤ 12 ∧ Hid (((waysL.drop 1).take i).any (fun r => decide (r.1 ≠ []) && decide (r.1 = s.data.toList)) = false) ∧ Hid (Below w.heap.size w wr)) (fun _ iv _ => 12 - (intOf iv).toNat)
 case atStart => exact ⟨0, rfl, rfl, Nat.zero_le _, H0, hb0⟩
 case round =>
  obtain ⟨i, rfl, rfl, hi, hno, zr⟩ := hrel
  clear H0 hb0
  by_cases hl : i < 12
  ·have hlI : (i : Int) < 12 := by omega
   have R1 := Lib.hid (W0.out wr zr.out i hl)
   have C1 := Lib.hid (C.out wr zr.out i hl)
   obtain ⟨s1, s2⟩ := ST.out i hl hno.out
   generalize (decide ((waysL[i + 1]'(Nat.succ_lt_succ hl)).1 ≠ []) && decide ((waysL[i + 1]'(Nat.succ_lt_succ hl)).1 = s.data.toList)) = res at C1 s1 s2
   have HROW : Hid ((wayV (waysL[i + 1]'(Nat.succ_lt_succ hl))).length = 4) := rfl
   generalize wayV (waysL[i + 1]'(Nat.succ_lt_succ hl)) = row at R1 C1 HROW
   replace s1 := Lib.hid s1
   replace s2 := Lib.hid s2
   clear W0 C ST FIN hno
   go_upto_region 4 with (fail)
   refine wp_region_list ?_
   refine wpList_plain rfl (fun K hK => ?_)
   go_simp
   refine hK _ _ ?_
   clear hK K
   refine wpList_plain rfl (fun K hK => ?_)
   go_simp
   refine hK _ _ ?_
   clear hK K
   refine wpList_plain rfl (fun K hK => ?_)
   go_simp
   refine hK _ _ ?_
   clear hK K
   refine wpList_plain rfl (fun K hK => ?_)
   go_simp
   refine hK _ _ ?_
   clear hK K
   refine wpList_load_mid rfl THow (.tmp 14) rfl 0 (4 + i * 4) rfl row _ R1.out undHow.choose_spec.1 undHow.choose_spec.2 (by rw [HROW.out]; kernel_rfl) ?_
   refine wpList_plain rfl (fun K hK => ?_)
   go_simp
   refine C1.out.mono ?_
   rintro e w2 ⟨rfl, hb2⟩
   refine hK _ _ ?_
   clear hK K
   refine wpList_nil ?_
   have z2 := Lib.hid (btrans zr.out hb2)
   clear hb2 C1 R1
   cases res with
   | true =>
    have hr := Lib.hid (s2.out rfl)
    clear s1 s2
    go_wp2
    go_ret
    refine ⟨⟨_, rfl, ?_⟩, z2.out⟩
    rw [hr.out, decide_eq_true (by omega)]
   | false =>
    go_wp2
    go_roundw
    case rel => exact ⟨i + 1, rfl, by go_num, by omega, s1, z2⟩
    case measure => simp [intOf]; omega
  ·have hlI : ¬ (i : Int) < 12 := by omega
   have hr := Lib.hid (FIN.out i hi hno.out (by omega))
   clear hno FIN
   go_wp2
   go_ret
   refine ⟨⟨_, rfl, ?_⟩, zr.out⟩
   rw [hr.out]
   rfl
theorem hashow_any (w : World) (hd : Door w) (g : Nat) (s : ByteArray) (hc : w.cell? ⟨g, 0, none⟩ = some (.string s)) :
  Calls Tryz.prog 54 #[.slice (some ⟨0, 4, none⟩) 12 12, .func (.func 55) #[] #[.pointer (some ⟨g, 0, none⟩)]] w fun e w' => e = .returned (.bool (ownF.contains s.data.toList)) ∧ Below w.heap.size w w' := by
 have C := Lib.hid (idxhow_any w hd g s hc)
 generalize ownF.contains s.data.toList = r at C
 clear hd hc
 go_enter Tryz.func54, Tryz.ntmps54
 go_wp2_with fail
 refine C.out.mono ?_
 rintro e w1 ⟨⟨k, rfl, hk⟩, hb⟩
 replace hk := Lib.hid hk
 go_wp2
 go_ret
 exact ⟨ret_bool hk.out, hb⟩
theorem own_word (w : World) (hd : Door w) (s : ByteArray) :
  Calls Tryz.prog 29 #[.string s] w fun e w' => e = .returned (.bool (ownF.contains s.data.toList)) ∧ Below w.heap.size w w' := by
 have hb1 : Below w.heap.size w (w.alloc (.cells #[.string s] 9)) := balloc (Below.refl _ _) _
 have hc : (w.alloc (.cells #[.string s] 9)).cell? ⟨w.heap.size, 0, none⟩ = some (.string s) := by rw [World.cell?_alloc_at _ _ _ _ rfl]; rfl
 have C := Lib.hid (hashow_any _ (hd.below hb1) w.heap.size s hc)
 replace hb1 := Lib.hid hb1
 generalize ownF.contains s.data.toList = r at C
 clear hd hc
 go_enter Tryz.func29, Tryz.ntmps29
 go_wp2_with fail
 refine C.out.mono ?_
 rintro e w1 ⟨rfl, hb⟩
 have z := Lib.hid (btrans hb1.out hb)
 go_wp2
 go_ret
 exact ⟨rfl, z.out⟩
def idxP (s : List UInt8) : List (List UInt8) → Nat → Int
 | [], _ => -1
 | x :: r, k => if x = s then (k : Int) else idxP s r (k + 1)
theorem idxP_at (s : List UInt8) : ∀ (N : List (List UInt8)) (i k : Nat) (hi : i < N.length), (∀ j (h : j < N.length), j < i → N[j] ≠ s) → idxP s N k = if N[i] = s then ((i + k : Nat) : Int) else idxP s (N.drop (i + 1)) (i + k + 1)
 | x :: N, 0, k, hi, h => by rw [idxP]; simp
 | x :: N, i + 1, k, hi, h => by
  have h0 : ¬ x = s := h 0 (by simp) (by omega)
  rw [idxP, if_neg h0, idxP_at s N i (k + 1) (by simpa using hi) (fun j hj hji => h (j + 1) (by simpa using hj) (by omega))]
  simp only [List.getElem_cons_succ, List.drop_succ_cons]
  rw [show i + (k + 1) = i + 1 + k by omega]
theorem idxP_no (s : List UInt8) : ∀ (N : List (List UInt8)) (k : Nat), (∀ j (h : j < N.length), N[j] ≠ s) → idxP s N k = -1
 | [], k, h => rfl
 | x :: N, k, h => by
  have h0 : ¬ x = s := h 0 (by simp)
  rw [idxP, if_neg h0, idxP_no s N (k + 1) (fun j hj => h (j + 1) (by simpa using hj))]
theorem index_any (w : World) (a : Option Addr) (c : Nat) (N : List (List UInt8)) (hN : StrsAt w a N) (hl : N.length ≤ 1000) (s : ByteArray) :
  Calls Tryz.prog 56 #[.slice a N.length c, .string s] w fun e w' => e = .returned (.int .i64 (idxP s.data.toList N 0)) ∧ w = w' := by
 obtain ⟨res, hres⟩ : ∃ res, res = idxP s.data.toList N 0 := ⟨_, rfl⟩
 rw [← hres]
 have ST : Hid (∀ i (hi : i < N.length), (∀ j (h : j < N.length), j < i → N[j] ≠ s.data.toList) → N[i] = s.data.toList → res = (i : Int)) := fun i hi h e => by
  rw [hres, idxP_at s.data.toList N i 0 hi h, if_pos e]
  rfl
 have FIN : Hid ((∀ j (h : j < N.length), N[j] ≠ s.data.toList) → res = -1) := fun h => by rw [hres, idxP_no _ _ _ h]
 obtain ⟨n, hn⟩ : ∃ n, n = N.length := ⟨_, rfl⟩
 rw [← hn]
 have hnI : (n : Int) ≤ 1000 := by omega
 have H0 : Hid (∀ j (h : j < N.length), j < 0 → N[j] ≠ s.data.toList) := fun j h h0 => by omega
 replace hN := Lib.hid hN
 replace hn := Lib.hid hn
 clear hres hl
 go_enter Tryz.func56, Tryz.ntmps56
 go_wp2
 go_loop [4, 8] (fun rv iv => ∃ i : Nat, rv = .int .i64 0 ∧ iv = .int .i64 (i : Int) ∧ i ≤ n ∧ Hid (∀ j (h : j < N.length), j < i → N[j] ≠ s.data.toList)) (fun _ iv => n - (intOf iv).toNat)
 case atStart => exact ⟨0, rfl, rfl, Nat.zero_le _, H0⟩
 case round =>
  obtain ⟨i, rfl, rfl, hi, hno⟩ := hrel
  clear H0
  by_cases hlt : i < n
  ·have hlI : (i : Int) < (n : Int) := by omega
   have hiN : i < N.length := by have := hn.out; omega
   obtain ⟨b, off, ea, hc⟩ := hN.out (by omega)
   have c1 := hc i hiN
   subst ea
   by_cases he : N[i] = s.data.toList
   ·have hr := Lib.hid (ST.out i hiN hno.out he)
    have hes : (⟨N[i].toArray⟩ : ByteArray) = s := (str_eq _ _).2 he
    rw [hes] at c1
    clear he hes hc ST FIN hno hiN
    go_wp2
    go_ret
    exact ⟨ret_int (by rw [hr.out]), rfl⟩
   ·have hes : ¬ s = (⟨N[i].toArray⟩ : ByteArray) := fun e => he ((str_eq _ _).1 e.symm)
    have hq := str_no hes
    have hno2 : Hid (∀ j (h : j < N.length), j < i + 1 → N[j] ≠ s.data.toList) := fun j h hj => by
     by_cases e : j = i
     ·subst e; exact he
     ·exact hno.out j h (by omega)
    generalize (⟨N[i].toArray⟩ : ByteArray) = q at c1 hq
    clear he hes hc ST FIN hno hiN
    go_wp2
    go_round
    case rel => exact ⟨i + 1, rfl, by go_num, by omega, hno2⟩
    case measure => simp [intOf]; omega
  ·have hlI : ¬ (i : Int) < (n : Int) := by omega
   have hr := Lib.hid (FIN.out (fun j h => hno.out j h (by have := hn.out; omega)))
   clear hno FIN ST
   go_wp2
   go_ret
   exact ⟨ret_int (by rw [hr.out]), rfl⟩
theorem idx_has (s : List UInt8) : ∀ (N : List (List UInt8)) (k : Nat), decide (0 ≤ idxP s N k) = N.contains s
 | [], k => rfl
 | x :: N, k => by
  rw [idxP, List.contains_cons]
  by_cases h : x = s
  ·rw [if_pos h, decide_eq_true (by omega), beq_iff_eq.2 h.symm]
   rfl
  ·have h2 : (s == x) = false := by rw [beq_eq_false_iff_ne]; exact fun e => h e.symm
   rw [if_neg h, idx_has s N (k + 1), h2, Bool.false_or]
theorem contains_any (w : World) (a : Option Addr) (c : Nat) (N : List (List UInt8)) (hN : StrsAt w a N) (hl : N.length ≤ 1000) (s : ByteArray) :
  Calls Tryz.prog 45 #[.slice a N.length c, .string s] w fun e w' => e = .returned (.bool (N.contains s.data.toList)) ∧ w = w' := by
 have C := Lib.hid (index_any w a c N hN hl s)
 have hr := Lib.hid (idx_has s.data.toList N 0)
 generalize idxP s.data.toList N 0 = k at C hr
 generalize N.contains s.data.toList = r at hr
 clear hN hl
 go_enter Tryz.func45, Tryz.ntmps45
 go_wp2_with fail
 refine C.out.mono ?_
 rintro e w1 ⟨rfl, rfl⟩
 go_wp2
 go_ret
 exact ⟨ret_bool hr.out, rfl⟩
end Go.Proofs.YtkehfolcfcbplaaGreatDoor
