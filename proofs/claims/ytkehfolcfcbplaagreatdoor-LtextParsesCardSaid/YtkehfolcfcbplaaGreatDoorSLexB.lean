/- What stands between tokens, walked. Conditions: short texts. -/
import Derived.Test.YtkehfolcfcbplaaGreatDoorSLexR
namespace Go.Proofs.YtkehfolcfcbplaaGreatDoor
open Go.RowKit
set_option linter.unusedVariables false
theorem skip_line : ∀ l : List UInt8, skipG true l = runB notNl l + skipG false (l.drop (runB notNl l))
 | [] => rfl
 | c :: r => by
  rw [skipG]
  by_cases h : c.toNat = 10
  ·rw [if_pos h, runB, if_neg (by unfold notNl; simp [h]), List.drop_zero, Nat.zero_add, skipG, if_pos (.inr h)]
  ·rw [if_neg h, runB, if_pos (by unfold notNl; simp [h]), List.drop_succ_cons, skip_line r]
   omega
def BeI (L : List UInt8) (a : Nat) : Prop := a ≤ L.length ∧ skipL L = a + skipL (L.drop a)
theorem BeI.blank {L : List UInt8} {a : Nat} (h : BeI L a) (hl : a < L.length) (hc : L[a].toNat = 32 ∨ L[a].toNat = 10) : BeI L (a + 1) := by
 refine ⟨hl, ?_⟩
 rw [h.2, List.drop_eq_getElem_cons hl]
 unfold skipL
 rw [skipG, if_pos hc]
 omega
theorem BeI.line {L : List UInt8} {a : Nat} (h : BeI L a) (hl : a < L.length) (hc : L[a].toNat = 35) : BeI L (a + runB notNl (L.drop a)) ∧ 0 < runB notNl (L.drop a) := by
 have h1 := runB_le notNl (L.drop a)
 rw [List.length_drop] at h1
 have e := h.2
 have hp : runB notNl (L.drop a) = runB notNl (L.drop (a + 1)) + 1 := by
  rw [List.drop_eq_getElem_cons hl, runB, if_pos (by unfold notNl; simp [hc])]
 have h5 : L.drop (a + (runB notNl (L.drop (a + 1)) + 1)) = (L.drop (a + 1)).drop (runB notNl (L.drop (a + 1))) := by
  rw [List.drop_drop]
  congr 1
  omega
 have h6 : skipL (L.drop a) = skipG true (L.drop (a + 1)) + 1 := by
  rw [List.drop_eq_getElem_cons hl]
  unfold skipL
  rw [skipG, if_neg (by omega), if_pos hc]
 have h7 := skip_line (L.drop (a + 1))
 refine ⟨⟨by omega, ?_⟩, by omega⟩
 rw [e, hp, h5, h6, h7]
 unfold skipL
 omega
theorem BeI.stop {L : List UInt8} {a : Nat} (h : BeI L a) (hl : a < L.length) (h1 : ¬ L[a].toNat = 32) (h2 : ¬ L[a].toNat = 10) (h3 : ¬ L[a].toNat = 35) : skipL L = a := by
 rw [h.2, List.drop_eq_getElem_cons hl]
 unfold skipL
 rw [skipG, if_neg (by omega), if_neg h3]
 omega
theorem BeI.fin {L : List UInt8} {a : Nat} (h : BeI L a) (hl : ¬ a < L.length) : skipL L = a := by
 have e := h.2
 rw [List.drop_of_length_le (by omega)] at e
 exact e
theorem drop_str (s : ByteArray) (a : Nat) : (s.extract a s.size).data.toList = s.data.toList.drop a := by
 rw [ByteArray.data_extract, Array.toList_extract, List.extract_eq_take_drop]
 show (s.data.toList.drop a).take (s.data.size - a) = _
 rw [List.take_of_length_le (by rw [List.length_drop, Array.length_toList]; exact Nat.le_refl _)]
theorem drop_size (s : ByteArray) (a : Nat) : (s.extract a s.size).size ≤ s.size := by
 rw [ByteArray.size_extract]; omega
theorem line_enters (args : Array Value) (v : World) : (callFunc 47 args).run Tryz.prog v = .ok (.enter 47 args) v := (enters_of Tryz.func47 (by kernel_rfl) rfl) args v
set_option maxHeartbeats 4000000 in
theorem between_any (w : World) (s : ByteArray) (hs : s.size ≤ 281474976710656) :
  Calls Tryz.prog 22 #[.string s] w fun e w' => e = .returned (.int .i64 (skipL s.data.toList : Int)) ∧ Below w.heap.size w w' := by
 obtain ⟨L, hL⟩ : ∃ L, L = s.data.toList := ⟨_, rfl⟩
 have hLn : s.size = L.length := by rw [hL, Array.length_toList]; rfl
 rw [← hL]
 obtain ⟨res, hres⟩ : ∃ res : Int, res = (skipL L : Int) := ⟨_, rfl⟩
 rw [← hres]
 have RU := Lib.hid (fun w a => run_any w (s.extract a s.size) (Nat.le_trans (drop_size s a) hs) 47 _ notNl true ofLine line_any line_enters _ rfl)
 have ST : Hid (BeI L 0) := ⟨Nat.zero_le _, by rw [List.drop_zero, Nat.zero_add]⟩
 replace hres := Lib.hid hres
 replace hL := Lib.hid hL
 replace hLn := Lib.hid hLn
 go_enter Tryz.func22, Tryz.ntmps22
 go_wp2
 go_loopw [2, 3] (fun rv iv wr => ∃ a : Nat, rv = .int .i64 0 ∧ iv = .int .i64 (a : Int) ∧ a ≤ s.size ∧ Hid (BeI L a) ∧ Hid (Below w.heap.size w wr)) (fun _ iv _ => s.size - (intOf iv).toNat)
 case atStart => exact ⟨0, rfl, rfl, Nat.zero_le _, ST, Below.refl _ _⟩
 case round =>
  obtain ⟨a, rfl, rfl, ha, be, hb⟩ := hrel
  clear ST
  by_cases hl : a < s.size
  ·have hlI : (a : Int) < (s.size : Int) := by omega
   have hlL : Hid (a < L.length) := by show _ < _; have := hLn.out; omega
   have hat : Hid (s[a] = L[a]'hlL.out) := by
    have h0 : s[a] = s.data.toList[a]'(by rw [← hL.out]; exact hlL.out) := data_at s a hl _
    show _ = _
    rw [h0]
    congr 1
    exact hL.out.symm
   by_cases h32 : s[a].toNat = 32
   ·have hb32 : ((s[a].toNat : Int) == 32) = true := by rw [h32]; rfl
    have be2 := Lib.hid (be.out.blank hlL.out (.inl (by rw [← hat.out]; exact h32)))
    clear h32
    go_wp2
    go_roundw
    case rel => exact ⟨a + 1, rfl, rfl, by omega, be2, hb⟩
    case measure => simp [intOf]; omega
   ·have hb32 : ((s[a].toNat : Int) == 32) = false := by rw [beq_eq_false_iff_ne]; omega
    by_cases h10 : s[a].toNat = 10
    ·have hb10 : ((s[a].toNat : Int) == 10) = true := by rw [h10]; rfl
     have be2 := Lib.hid (be.out.blank hlL.out (.inr (by rw [← hat.out]; exact h10)))
     clear h32 h10
     go_wp2
     go_roundw
     case rel => exact ⟨a + 1, rfl, rfl, by omega, be2, hb⟩
     case measure => simp [intOf]; omega
    ·have hb10 : ((s[a].toNat : Int) == 10) = false := by rw [beq_eq_false_iff_ne]; omega
     by_cases h35 : s[a].toNat = 35
     ·have hb35 : ((s[a].toNat : Int) == 35) = true := by rw [h35]; rfl
      obtain ⟨be2, hpos⟩ := be.out.line hlL.out (by rw [← hat.out]; exact h35)
      have hle := be2.1
      rw [← hLn.out] at hle
      have R1 := fun w => RU.out w a
      rw [drop_str, ← hL.out] at R1
      generalize runB notNl (L.drop a) = k at be2 hpos hle R1
      replace R1 := Lib.hid R1
      replace be2 := Lib.hid be2
      clear h32 h10 h35
      go_wp2_with fail
      refine (R1.out wr).mono ?_
      rintro e w1 ⟨rfl, hb1⟩
      have hb2 := Lib.hid (btrans hb.out hb1)
      clear hb1
      go_wp2
      go_roundw
      case rel => exact ⟨a + k, rfl, rfl, hle, be2, hb2⟩
      case measure => simp [intOf]; omega
     ·have hb35 : ((s[a].toNat : Int) == 35) = false := by rw [beq_eq_false_iff_ne]; omega
      have hr := Lib.hid (be.out.stop hlL.out (by rw [← hat.out]; exact h32) (by rw [← hat.out]; exact h10) (by rw [← hat.out]; exact h35))
      clear h32 h10 h35
      go_wp2
      go_ret
      exact ⟨by rw [hres.out, hr.out]; rfl, hb.out⟩
  ·have hr := Lib.hid (be.out.fin (by have := hLn.out; omega))
   have hlI : ¬ (a : Int) < (s.size : Int) := by omega
   go_wp2
   go_ret
   exact ⟨by rw [hres.out, hr.out]; rfl, hb.out⟩
end Go.Proofs.YtkehfolcfcbplaaGreatDoor
