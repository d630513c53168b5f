/- The document's signs and begins, walked. Conditions: short texts. -/
import Derived.Test.YtkehfolcfcbplaaGreatDoorSLexG
import Derived.Test.YtkehfolcfcbplaaGreatDoorSLexT
namespace Go.Proofs.YtkehfolcfcbplaaGreatDoor
open Go.RowKit
set_option linter.unusedVariables false
set_option maxRecDepth 8000 in
theorem rsigns_any (w : World) :
  Calls Tryz.prog 59 #[] w fun e w' => ∃ b, e = .returned (.slice (some ⟨b, 0, none⟩) 25 25) ∧ w'.rangeAt b 0 (strVals signsL) ∧ Below w.heap.size w w' := by
 go_enter Tryz.func59, Tryz.ntmps59
 go_wp2
 go_ret
 refine ⟨w.heap.size, rfl, fun j v hj => ?_, balloc (Below.refl _ _) _⟩
 have := (RowAt.new (w := w) (n := w.heap.size) (strVals signsL).toArray rfl (T := 9)).cell j
 rw [Nat.zero_add, ← hj]
 exact this
def begP (l : List UInt8) : Nat × Nat :=
 if headB isLet l = true then (runB isPart l, 1)
 else if headB isDig l = true then (runB isDig l, 2)
 else match signsL.find? (fun x => x.isPrefixOf l) with
  | some x => (x.length, 3)
  | none => (0, 0)
def begS : Option (List UInt8) → Nat × Nat
 | some x => (x.length, 3)
 | none => (0, 0)
theorem beg_sign {L : List UInt8} (h1 : ¬ headB isLet L = true) (h2 : ¬ headB isDig L = true) : begP L = begS (signsL.find? (fun x => x.isPrefixOf L)) := by
 unfold begP
 rw [if_neg h1, if_neg h2]
 cases signsL.find? (fun x => x.isPrefixOf L) <;> rfl
theorem head_drop {s : ByteArray} {a : Nat} (ha : a < s.size) (p : UInt8 → Bool) : headB p (s.data.toList.drop a) = p s[a] := by
 have h1 : a < s.data.toList.length := by rw [Array.length_toList]; exact ha
 rw [List.drop_eq_getElem_cons h1, data_at s a ha h1]
 rfl
def RuI (p : UInt8 → Bool) (s : ByteArray) (k t : Nat) : Prop := k ≤ s.size ∧ k + runB p (s.data.toList.drop k) = t
theorem RuI.go {p : UInt8 → Bool} {s : ByteArray} {k t : Nat} (h : RuI p s k t) (hl : k < s.size) (hc : p s[k] = true) : RuI p s (k + 1) t := by
 refine ⟨hl, ?_⟩
 have h1 : k < s.data.toList.length := by rw [Array.length_toList]; exact hl
 rw [← h.2, List.drop_eq_getElem_cons h1, runB, ← data_at s k hl h1, if_pos hc]
 omega
theorem RuI.no {p : UInt8 → Bool} {s : ByteArray} {k t : Nat} (h : RuI p s k t) (hl : k < s.size) (hc : p s[k] = false) : k = t := by
 have h1 : k < s.data.toList.length := by rw [Array.length_toList]; exact hl
 rw [← h.2, List.drop_eq_getElem_cons h1, runB, ← data_at s k hl h1, hc, if_neg (by decide)]
 omega
theorem RuI.fin {p : UInt8 → Bool} {s : ByteArray} {k t : Nat} (h : RuI p s k t) (hl : ¬ k < s.size) : k = t := by
 rw [← h.2, List.drop_of_length_le (by rw [Array.length_toList]; exact Nat.le_of_not_lt hl)]
 rfl
theorem RuI.lt {p : UInt8 → Bool} {s : ByteArray} {k t : Nat} (h : RuI p s k t) : k ≤ t ∧ t ≤ s.size := by
 have := runB_le p (s.data.toList.drop k)
 rw [List.length_drop, Array.length_toList] at this
 have h2 := h.1
 have h3 := h.2
 have h4 : s.size = s.data.size := rfl
 omega
theorem pre_ext {s x : ByteArray} {a : Nat} (hx : x.size ≤ s.size - a) (ha : a ≤ s.size) : x.data.toList.isPrefixOf (s.data.toList.drop a) = decide (s.extract a (a + x.size) = x) := by
 have h1 : (s.extract a (a + x.size)).data.toList = (s.data.toList.drop a).take x.size := by
  rw [ByteArray.data_extract, Array.toList_extract, List.extract_eq_take_drop, Nat.add_sub_cancel_left]
 have hxl : x.data.toList.length = x.size := by rw [Array.length_toList]; rfl
 cases h : x.data.toList.isPrefixOf (s.data.toList.drop a) with
 | true =>
  have h2 := (prefix_take h).2
  rw [hxl] at h2
  rw [decide_eq_true]
  exact ByteArray.ext (Array.toList_inj.1 (h1.trans h2))
 | false =>
  rw [eq_comm, decide_eq_false_iff_not]
  intro e
  have h3 : x.data.toList = (s.data.toList.drop a).take x.size := by rw [← h1, e]
  have h4 : x.data.toList.isPrefixOf (s.data.toList.drop a) = true := by
   rw [h3, List.isPrefixOf_iff_prefix]
   exact List.take_prefix _ _
  rw [h] at h4
  cases h4
set_option maxRecDepth 8000 in
set_option maxHeartbeats 8000000 in
theorem rbegins_any (w : World) (s : ByteArray) (hs : (s.size : Int) ≤ 281474976710656) (a : Nat) (ha : a < s.size) :
  Calls Tryz.prog 33 #[.string s, .int .i64 (a : Int)] w fun e w' => e = .returned (.tuple #[.int .i64 ((begP (s.data.toList.drop a)).1 : Int), .int .i64 ((begP (s.data.toList.drop a)).2 : Int)]) ∧ Below w.heap.size w w' := by
 obtain ⟨L, hL⟩ : ∃ L, L = s.data.toList.drop a := ⟨_, rfl⟩
 rw [← hL]
 obtain ⟨res, hres⟩ : ∃ res, res = begP L := ⟨_, rfl⟩
 rw [← hres]
 have haI : (a : Int) < (s.size : Int) := by omega
 have h0 : Hid (Below w.heap.size w w) := Below.refl _ _
 have LT := Lib.hid (rletter_any w s[a])
 have DT := Lib.hid (rdigit_any w s[a])
 rw [letB] at LT
 by_cases hlet : headB isLet L = true
 ·have hl : isLet s[a] = true := by rw [← head_drop ha isLet, ← hL]; exact hlet
  rw [hl] at LT
  obtain ⟨t, ht⟩ : ∃ t, t = a + runB isPart L := ⟨_, rfl⟩
  have hr : Hid (res = (t - a, 1)) := by
   show _ = _
   rw [hres, ht, Nat.add_sub_cancel_left]; unfold begP; rw [if_pos hlet]
  have ST : Hid (RuI isPart s a t) := ⟨by omega, by rw [ht, hL]⟩
  clear hres hlet hl ht hL DT
  go_enter Tryz.func33, Tryz.ntmps33
  go_wp2_with fail
  refine LT.out.mono ?_
  rintro e w1 ⟨rfl, rfl⟩
  clear LT
  go_wp2
  go_loopw [6] (fun iv wr => ∃ k : Nat, iv = .int .i64 (k : Int) ∧ a ≤ k ∧ k ≤ s.size ∧ Hid (RuI isPart s k t) ∧ Hid (Below w1.heap.size w1 wr)) (fun iv _ => s.size - (intOf iv).toNat)
  case atStart => exact ⟨a, rfl, Nat.le_refl _, by omega, ST, h0⟩
  case round =>
   obtain ⟨k, rfl, hak, hk, sk, zr⟩ := hrel
   clear ST h0
   by_cases hl : k < s.size
   ·have hlI : (k : Int) < (s.size : Int) := by omega
    have LK := Lib.hid (rletter_any wr s[k])
    have DK := Lib.hid (rdigit_any wr s[k])
    rw [letB] at LK
    cases hpl : isLet s[k] with
    | true =>
     rw [hpl] at LK
     have sk2 := Lib.hid (sk.out.go hl (by unfold isPart; rw [hpl]; rfl))
     clear hpl DK
     go_wp2_with fail
     refine LK.out.mono ?_
     rintro e w2 ⟨rfl, rfl⟩
     clear LK
     go_wp2
     go_roundw
     case rel => exact ⟨k + 1, rfl, by omega, by omega, sk2, zr⟩
     case measure => simp [intOf]; omega
    | false =>
     rw [hpl] at LK
     cases hpd : isDig s[k] with
     | true =>
      rw [hpd] at DK
      have sk2 := Lib.hid (sk.out.go hl (by unfold isPart; rw [hpl, hpd]; rfl))
      clear hpl hpd
      go_wp2_with fail
      refine LK.out.mono ?_
      rintro e w2 ⟨rfl, rfl⟩
      clear LK
      go_wp2_with fail
      refine DK.out.mono ?_
      rintro e w3 ⟨rfl, rfl⟩
      clear DK
      go_wp2
      go_roundw
      case rel => exact ⟨k + 1, rfl, by omega, by omega, sk2, zr⟩
      case measure => simp [intOf]; omega
     | false =>
      rw [hpd] at DK
      by_cases h95 : s[k].toNat = 95
      ·have hb : ((s[k].toNat : Int) == 95) = true := by rw [h95]; rfl
       have sk2 := Lib.hid (sk.out.go hl (by unfold isPart; rw [hpl, hpd, decide_eq_true h95]; rfl))
       clear hpl hpd h95
       go_wp2_with fail
       refine LK.out.mono ?_
       rintro e w2 ⟨rfl, rfl⟩
       clear LK
       go_wp2_with fail
       refine DK.out.mono ?_
       rintro e w3 ⟨rfl, rfl⟩
       clear DK
       go_wp2
       go_roundw
       case rel => exact ⟨k + 1, rfl, by omega, by omega, sk2, zr⟩
       case measure => simp [intOf]; omega
      ·have hb : ((s[k].toNat : Int) == 95) = false := by rw [beq_eq_false_iff_ne]; omega
       obtain rfl := sk.out.no hl (by unfold isPart; rw [hpl, hpd, decide_eq_false h95]; rfl)
       have hrr : Hid (res = (k - a, 1)) := hr
       clear hpl hpd h95 hr sk
       go_wp2_with fail
       refine LK.out.mono ?_
       rintro e w2 ⟨rfl, rfl⟩
       clear LK
       go_wp2_with fail
       refine DK.out.mono ?_
       rintro e w3 ⟨rfl, rfl⟩
       clear DK
       go_wp2
       refine bodyPost_ret (v := .tuple #[.int .i64 ((k : Int) - (a : Int)), .int .i64 1]) (by simp [results, Tryz.results33]) rfl ⟨?_, zr.out⟩
       rw [hrr.out]
       have : ((k - a : Nat) : Int) = (k : Int) - (a : Int) := by omega
       rw [this]
       rfl
   ·have hlI : ¬ (k : Int) < (s.size : Int) := by omega
    obtain rfl := sk.out.fin hl
    have hrr : Hid (res = (k - a, 1)) := hr
    clear hr sk
    go_wp2
    refine bodyPost_ret (v := .tuple #[.int .i64 ((k : Int) - (a : Int)), .int .i64 1]) (by simp [results, Tryz.results33]) rfl ⟨?_, zr.out⟩
    rw [hrr.out]
    have : ((k - a : Nat) : Int) = (k : Int) - (a : Int) := by omega
    rw [this]
    rfl
 ·have hl : isLet s[a] = false := by
   have h := head_drop ha isLet
   rw [← hL] at h
   rw [← h]
   simpa using hlet
  rw [hl] at LT
  clear hl
  by_cases hdig : headB isDig L = true
  ·have hd : isDig s[a] = true := by rw [← head_drop ha isDig, ← hL]; exact hdig
   rw [hd] at DT
   obtain ⟨t, ht⟩ : ∃ t, t = a + runB isDig L := ⟨_, rfl⟩
   have hr : Hid (res = (t - a, 2)) := by
    show _ = _
    rw [hres, ht, Nat.add_sub_cancel_left]; unfold begP; rw [if_neg hlet, if_pos hdig]
   have ST : Hid (RuI isDig s a t) := ⟨by omega, by rw [ht, hL]⟩
   clear hres hlet hdig hd ht hL
   go_enter Tryz.func33, Tryz.ntmps33
   go_wp2_with fail
   refine LT.out.mono ?_
   rintro e w1 ⟨rfl, rfl⟩
   clear LT
   go_wp2_with fail
   refine DT.out.mono ?_
   rintro e w1 ⟨rfl, rfl⟩
   clear DT
   go_wp2
   go_loopw [6] (fun iv wr => ∃ k : Nat, iv = .int .i64 (k : Int) ∧ a ≤ k ∧ k ≤ s.size ∧ Hid (RuI isDig s k t) ∧ Hid (Below w1.heap.size w1 wr)) (fun iv _ => s.size - (intOf iv).toNat)
   case atStart => exact ⟨a, rfl, Nat.le_refl _, by omega, ST, h0⟩
   case round =>
    obtain ⟨k, rfl, hak, hk, sk, zr⟩ := hrel
    clear ST h0
    by_cases hl : k < s.size
    ·have hlI : (k : Int) < (s.size : Int) := by omega
     have DK := Lib.hid (rdigit_any wr s[k])
     cases hpd : isDig s[k] with
     | true =>
      rw [hpd] at DK
      have sk2 := Lib.hid (sk.out.go hl hpd)
      clear hpd
      go_wp2_with fail
      refine DK.out.mono ?_
      rintro e w2 ⟨rfl, rfl⟩
      clear DK
      go_wp2
      go_roundw
      case rel => exact ⟨k + 1, rfl, by omega, by omega, sk2, zr⟩
      case measure => simp [intOf]; omega
     | false =>
      rw [hpd] at DK
      obtain rfl := sk.out.no hl hpd
      have hrr : Hid (res = (k - a, 2)) := hr
      clear hpd hr sk
      go_wp2_with fail
      refine DK.out.mono ?_
      rintro e w2 ⟨rfl, rfl⟩
      clear DK
      go_wp2
      refine bodyPost_ret (v := .tuple #[.int .i64 ((k : Int) - (a : Int)), .int .i64 2]) (by simp [results, Tryz.results33]) rfl ⟨?_, zr.out⟩
      rw [hrr.out]
      have : ((k - a : Nat) : Int) = (k : Int) - (a : Int) := by omega
      rw [this]
      rfl
    ·have hlI : ¬ (k : Int) < (s.size : Int) := by omega
     obtain rfl := sk.out.fin hl
     have hrr : Hid (res = (k - a, 2)) := hr
     clear hr sk
     go_wp2
     refine bodyPost_ret (v := .tuple #[.int .i64 ((k : Int) - (a : Int)), .int .i64 2]) (by simp [results, Tryz.results33]) rfl ⟨?_, zr.out⟩
     rw [hrr.out]
     have : ((k - a : Nat) : Int) = (k : Int) - (a : Int) := by omega
     rw [this]
     rfl
  ·have hd : isDig s[a] = false := by
    have h := head_drop ha isDig
    rw [← hL] at h
    rw [← h]
    simpa using hdig
   rw [hd] at DT
   have hr : Hid (res = begS (signsL.find? (fun x => x.isPrefixOf L))) := by
    show _ = _
    rw [hres, beg_sign hlet hdig]
   have SI := Lib.hid (rsigns_any w)
   clear hres hlet hdig hd
   replace hL := Lib.hid hL
   go_enter Tryz.func33, Tryz.ntmps33
   go_wp2_with fail
   refine LT.out.mono ?_
   rintro e w1 ⟨rfl, rfl⟩
   clear LT
   go_wp2_with fail
   refine DT.out.mono ?_
   rintro e w1 ⟨rfl, rfl⟩
   clear DT
   go_wp2_with fail
   refine SI.out.mono ?_
   rintro e w2 ⟨g, rfl, hrow, hb2⟩
   clear SI h0
   have z2 := Lib.hid hb2
   replace hrow := Lib.hid hrow
   clear hb2
   go_wp2
   go_loopw [4, 5, 8] (fun r4 r5 iv wr => ∃ i m : Nat, r4 = .int .i64 0 ∧ r5 = .int .i64 0 ∧ iv = .int .i64 (i : Int) ∧ i ≤ 25 ∧ wr = w2.drewN m ∧ Hid (∀ j, j < i → ∀ x, signsL[j]? = some x → x.isPrefixOf L = false)) (fun _ _ iv _ => 25 - (intOf iv).toNat)
   case atStart => exact ⟨0, 0, rfl, rfl, rfl, Nat.zero_le _, rfl, fun j hj => by omega⟩
   case round =>
    obtain ⟨i, m, rfl, rfl, rfl, hi, rfl, hno⟩ := hrel
    by_cases hl : i < 25
    ·have hlI : (i : Int) < 25 := by omega
     have hsl : i < signsL.length := hl
     obtain ⟨x, hx⟩ : ∃ x, signsL[i]? = some x := ⟨_, List.getElem?_eq_getElem hsl⟩
     have hx2 : x.length ≤ 2 := (sign_pos x (List.mem_of_getElem? hx)).2
     obtain ⟨xb, hxb⟩ : ∃ xb : ByteArray, xb = ⟨x.toArray⟩ := ⟨_, rfl⟩
     have hxs : xb.size = x.length := by rw [hxb]; rfl
     have hc : w2.cell? ⟨g, i, none⟩ = some (.string xb) := by
      have := hrow.out i (.string xb) (by rw [hxb]; simp [strVals, hx])
      rw [Nat.zero_add] at this
      exact this
     have hxl : xb.data.toList = x := by rw [hxb]
     have PE := pre_ext (s := s) (x := xb) (a := a)
     rw [← hL.out, hxl] at PE
     have hxI : (xb.size : Int) ≤ 2 := by omega
     have hcell : ∀ j, w2.drewN j = w2.drewN j := fun _ => rfl
     clear hcell
     replace hx := Lib.hid hx
     replace hsl := Lib.hid hsl
     clear hxb hxl hx2
     by_cases hfit : xb.size ≤ s.size - a
     ·have hfitI : (xb.size : Int) ≤ (s.size : Int) - (a : Int) := by omega
      have PE2 := PE hfit (by omega)
      have hext : s.extract a (a + xb.size) = s.extract a (a + xb.size) := rfl
      clear hext PE hfit
      cases hpx : x.isPrefixOf L with
      | true =>
       have hres : Hid (res = (xb.size, 3)) := by
        show _ = _
        rw [hr.out, find_at hx.out hpx hno.out, hxs]; rfl
       have heq : s.extract a (a + xb.size) = xb := by rw [hpx] at PE2; exact of_decide_eq_true PE2.symm
       clear hpx PE2 hno hr hxs hrow
       go_wp2
       go_quiet (fail)
       go_wp2
       refine bodyPost_ret (v := .tuple #[.int .i64 (xb.size : Int), .int .i64 3]) (by simp [results, Tryz.results33]) rfl ⟨?_, bdrewN z2.out _⟩
       rw [hres.out]
       rfl
      | false =>
       have hno2 : Hid (∀ j, j < i + 1 → ∀ x, signsL[j]? = some x → x.isPrefixOf L = false) := fun j hj y hy => by
        by_cases hji : j = i
        ·subst hji
         rw [hx.out] at hy
         cases hy
         exact hpx
        ·exact hno.out j (by omega) y hy
       have hne := str_no (u := s.extract a (a + xb.size)) (s := xb) (fun e => by
        rw [hpx] at PE2
        exact of_decide_eq_false PE2.symm e)
       clear hpx PE2 hno hxs hrow
       go_wp2
       go_quiet (fail)
       go_wp2
       go_roundw
       case rel => exact ⟨i + 1, _, rfl, rfl, rfl, by omega, by first | rfl | exact World.drewN_drewN _ _ _, hno2⟩
       case measure => simp [intOf]; omega
     ·have hfitI : ¬ (xb.size : Int) ≤ (s.size : Int) - (a : Int) := by omega
      have hpx : x.isPrefixOf L = false := by
       cases hp : x.isPrefixOf L with
       | false => rfl
       | true =>
        have := (prefix_take hp).1
        rw [hL.out, List.length_drop] at this
        have h4 : s.data.toList.length = s.size := Array.length_toList
        omega
      have hno2 : Hid (∀ j, j < i + 1 → ∀ x, signsL[j]? = some x → x.isPrefixOf L = false) := fun j hj y hy => by
       by_cases hji : j = i
       ·subst hji
        rw [hx.out] at hy
        cases hy
        exact hpx
       ·exact hno.out j (by omega) y hy
      have hfB : decide ((xb.size : Int) ≤ (s.size : Int) - (a : Int)) = false := decide_eq_false hfitI
      clear hpx PE hno hxs hrow hfit
      go_wp2
      go_quiet (fail)
      go_wp2
      go_roundw
      case rel => exact ⟨i + 1, _, rfl, rfl, rfl, by omega, by first | rfl | exact World.drewN_drewN _ _ _, hno2⟩
      case measure => simp [intOf]; omega
    ·have hlI : ¬ (i : Int) < 25 := by omega
     have hres : Hid (res = (0, 0)) := by
      show _ = _
      rw [hr.out, find_none (fun j hj y hy => hno.out j (by have : signsL.length = 25 := rfl; omega) y hy)]; rfl
     clear hno hr hrow
     go_wp2
     refine bodyPost_ret (v := .tuple #[.int .i64 0, .int .i64 0]) (by simp [results, Tryz.results33]) rfl ⟨?_, bdrewN z2.out _⟩
     rw [hres.out]
     rfl
end Go.Proofs.YtkehfolcfcbplaaGreatDoor
