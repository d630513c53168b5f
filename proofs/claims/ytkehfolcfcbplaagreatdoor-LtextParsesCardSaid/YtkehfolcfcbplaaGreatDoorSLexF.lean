/- The document's skip, walked. Conditions: short texts. -/
import Derived.Test.YtkehfolcfcbplaaGreatDoorSLexB
namespace Go.Proofs.YtkehfolcfcbplaaGreatDoor
open Go.RowKit
set_option linter.unusedVariables false
def SkI (b : Bool) (L : List UInt8) (k t : Nat) : Prop := k ≤ L.length ∧ k + skipG b (L.drop k) = t
theorem SkI.blank {L : List UInt8} {k t : Nat} (h : SkI false L k t) (hl : k < L.length) (hc : L[k].toNat = 32 ∨ L[k].toNat = 10) : SkI false L (k + 1) t := by
 refine ⟨hl, ?_⟩
 rw [← h.2, List.drop_eq_getElem_cons hl, skipG, if_pos hc]
 omega
theorem SkI.hash {L : List UInt8} {k t : Nat} (h : SkI false L k t) (hl : k < L.length) (hc : L[k].toNat = 35) : SkI true L k t := by
 refine ⟨h.1, ?_⟩
 rw [← h.2, List.drop_eq_getElem_cons hl, skipG, skipG, if_neg (by omega), if_neg (by omega), if_pos hc]
theorem SkI.line {L : List UInt8} {k t : Nat} (h : SkI true L k t) (hl : k < L.length) (hc : ¬ L[k].toNat = 10) : SkI true L (k + 1) t := by
 refine ⟨hl, ?_⟩
 rw [← h.2, List.drop_eq_getElem_cons hl, skipG, if_neg hc]
 omega
theorem SkI.nl {L : List UInt8} {k t : Nat} (h : SkI true L k t) (hc : ∀ hl : k < L.length, L[k].toNat = 10) : SkI false L k t := by
 refine ⟨h.1, ?_⟩
 rw [← h.2]
 by_cases hl : k < L.length
 ·rw [List.drop_eq_getElem_cons hl, skipG, skipG, if_pos (.inr (hc hl)), if_pos (hc hl)]
 ·rw [List.drop_of_length_le (by omega)]
  rfl
theorem SkI.stop {L : List UInt8} {k t : Nat} (h : SkI false L k t) (hc : ∀ hl : k < L.length, ¬ L[k].toNat = 32 ∧ ¬ L[k].toNat = 10 ∧ ¬ L[k].toNat = 35) : k = t := by
 rw [← h.2]
 by_cases hl : k < L.length
 ·obtain ⟨h1, h2, h3⟩ := hc hl
  rw [List.drop_eq_getElem_cons hl, skipG, if_neg (by omega), if_neg h3]
  rfl
 ·rw [List.drop_of_length_le (by omega)]
  rfl
set_option maxRecDepth 8000 in
set_option maxHeartbeats 4000000 in
theorem rskip_any (w : World) (s : ByteArray) (hs : (s.size : Int) ≤ 281474976710656) (a : Nat) (ha : a ≤ s.size) :
  Calls Tryz.prog 32 #[.string s, .int .i64 (a : Int)] w fun e w' => e = .returned (.int .i64 ((a + skipL (s.data.toList.drop a) : Nat) : Int)) ∧ Below w.heap.size w w' := by
 obtain ⟨L, hL⟩ : ∃ L, L = s.data.toList := ⟨_, rfl⟩
 have hLn : s.size = L.length := by rw [hL, Array.length_toList]; rfl
 rw [← hL]
 obtain ⟨t, ht⟩ : ∃ t, t = a + skipL (L.drop a) := ⟨_, rfl⟩
 rw [← ht]
 have ST : Hid (SkI false L a t) := ⟨by omega, ht.symm⟩
 have hat : ∀ k (h : k < s.size), ∃ h' : k < L.length, s[k] = L[k]'h' := fun k h => by
  have h1 : k < s.data.toList.length := by rw [Array.length_toList]; exact h
  refine ⟨by omega, ?_⟩
  rw [data_at s k h h1]
  congr 1
  exact hL.symm
 replace hat := Lib.hid hat
 clear ht
 replace hL := Lib.hid hL
 replace hLn := Lib.hid hLn
 go_enter Tryz.func32, Tryz.ntmps32
 go_wp2
 go_loopw [1] (fun iv wr => ∃ k : Nat, iv = .int .i64 (k : Int) ∧ k ≤ s.size ∧ Hid (SkI false L k t) ∧ Hid (Below w.heap.size w wr)) (fun iv _ => s.size - (intOf iv).toNat)
 case atStart => exact ⟨a, rfl, ha, ST, Below.refl _ _⟩
 case round =>
  obtain ⟨k, rfl, hk, sk, zr⟩ := hrel
  clear ST
  by_cases hl : k < s.size
  ·have hlI : (k : Int) < (s.size : Int) := by omega
   obtain ⟨hl', he⟩ := hat.out k hl
   by_cases h32 : s[k].toNat = 32
   ·have hb32 : ((s[k].toNat : Int) == 32) = true := by rw [h32]; rfl
    have hb35 : ((s[k].toNat : Int) == 35) = false := by rw [h32]; rfl
    have sk2 := Lib.hid (sk.out.blank hl' (.inl (by rw [← he]; exact h32)))
    clear h32 he
    go_wp2
    go_roundw
    case rel => exact ⟨k + 1, rfl, by omega, sk2, zr⟩
    case measure => simp [intOf]; omega
   ·have hb32 : ((s[k].toNat : Int) == 32) = false := by rw [beq_eq_false_iff_ne]; omega
    by_cases h10 : s[k].toNat = 10
    ·have hb10 : ((s[k].toNat : Int) == 10) = true := by rw [h10]; rfl
     have hb35 : ((s[k].toNat : Int) == 35) = false := by rw [h10]; rfl
     have sk2 := Lib.hid (sk.out.blank hl' (.inr (by rw [← he]; exact h10)))
     clear h32 h10 he
     go_wp2
     go_roundw
     case rel => exact ⟨k + 1, rfl, by omega, sk2, zr⟩
     case measure => simp [intOf]; omega
    ·have hb10 : ((s[k].toNat : Int) == 10) = false := by rw [beq_eq_false_iff_ne]; omega
     by_cases h35 : s[k].toNat = 35
     ·have hb35 : ((s[k].toNat : Int) == 35) = true := by rw [h35]; rfl
      have sk2 := Lib.hid (sk.out.hash hl' (by rw [← he]; exact h35))
      have h10' : Hid (¬ L[k].toNat = 10) := by rw [← he]; exact h10
      clear h32 h10 h35 he sk
      go_wp2
      go_loopw [1] (fun iv wr => ∃ m : Nat, iv = .int .i64 (m : Int) ∧ k ≤ m ∧ m ≤ s.size ∧ Hid (SkI true L m t) ∧ Hid (Below w.heap.size w wr)) (fun iv _ => s.size - (intOf iv).toNat)
      case atStart => exact ⟨k, rfl, Nat.le_refl _, hk, sk2, zr⟩
      case round =>
       obtain ⟨m, rfl, hkm, hm, sm, zm⟩ := hrel
       clear zr sk2
       by_cases hml : m < s.size
       ·have hmI : (m : Int) < (s.size : Int) := by omega
        obtain ⟨hm', hme⟩ := hat.out m hml
        by_cases hm10 : s[m].toNat = 10
        ·have hbm : ((s[m].toNat : Int) == 10) = true := by rw [hm10]; rfl
         have sn := Lib.hid (sm.out.nl (fun h => by rw [← hme]; exact hm10))
         have hlt : k < m := by
          rcases Nat.lt_or_ge k m with h | h
          ·exact h
          ·obtain rfl : k = m := by omega
           exact absurd (by rw [← hme]; exact hm10) h10'.out
         clear hm10 hme
         go_wp2
         go_roundw
         case rel => exact ⟨m, rfl, hm, sn, zm⟩
         case measure => simp [intOf]; omega
        ·have hbm : ((s[m].toNat : Int) == 10) = false := by rw [beq_eq_false_iff_ne]; omega
         have sn := Lib.hid (sm.out.line hm' (by rw [← hme]; exact hm10))
         clear hm10 hme
         go_wp2
         go_roundw
         case rel => exact ⟨m + 1, rfl, by omega, by omega, sn, zm⟩
         case measure => simp [intOf]; omega
       ·have hmI : ¬ (m : Int) < (s.size : Int) := by omega
        have sn := Lib.hid (sm.out.nl (fun h => by have := hLn.out; omega))
        have hlt : k < m := by omega
        go_wp2
        go_roundw
        case rel => exact ⟨m, rfl, hm, sn, zm⟩
        case measure => simp [intOf]; omega
     ·have hb35 : ((s[k].toNat : Int) == 35) = false := by rw [beq_eq_false_iff_ne]; omega
      have hr := Lib.hid (sk.out.stop (fun h => by rw [← he]; exact ⟨h32, h10, h35⟩))
      clear h32 h10 h35 he
      go_wp2
      go_ret
      exact ⟨by rw [← hr.out]; rfl, zr.out⟩
  ·have hlI : ¬ (k : Int) < (s.size : Int) := by omega
   have hr := Lib.hid (sk.out.stop (fun h => by have := hLn.out; omega))
   go_wp2
   go_ret
   exact ⟨by rw [← hr.out]; rfl, zr.out⟩
end Go.Proofs.YtkehfolcfcbplaaGreatDoor
