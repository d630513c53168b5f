/- Whether a text is a name, walked. Conditions: what the listed variables hold; short texts. -/
import Derived.Test.YtkehfolcfcbplaaGreatDoorSLexS
namespace Go.Proofs.YtkehfolcfcbplaaGreatDoor
open Go.RowKit
set_option linter.unusedVariables false
set_option maxRecDepth 8000 in
set_option maxHeartbeats 8000000 in
theorem name_any (w : World) (hd : Door w) (s : ByteArray) (hs : s.size ≤ 281474976710656) :
  Calls Tryz.prog 44 #[.string s] w fun e w' => e = .returned (.bool (nameP s.data.toList)) ∧ Below w.heap.size w w' := by
 obtain ⟨L, hL⟩ : ∃ L, L = s.data.toList := ⟨_, rfl⟩
 have hLn : s.size = L.length := by rw [hL, Array.length_toList]; rfl
 have RP := Lib.hid (fun w => run_any w s hs 48 _ isPart false ofPart part_any part_enters _ rfl)
 rw [← hL] at RP ⊢
 clear hs
 obtain ⟨res, hres⟩ : ∃ res, res = nameP L := ⟨_, rfl⟩
 rw [← hres]
 unfold nameP at hres
 by_cases h0 : s.size = 0
 ·have hse : s = ⟨#[]⟩ := by
   cases s with
   | mk d =>
    have : d.size = 0 := h0
    congr 1
    exact Array.eq_empty_of_size_eq_zero this
  have hr : res = false := by
   have : L = [] := List.length_eq_zero_iff.1 (by omega)
   rw [hres, this]; rfl
  subst hr
  subst hse
  clear hres RP hd hL hLn h0
  go_enter Tryz.func44, Tryz.ntmps44
  go_wp2
  go_ret
  exact ⟨rfl, Below.refl _ _⟩
 ·have hnl : ¬ s.toList = [] := fun e => h0 (by
   rw [ByteArray.toList_eq] at e
   have : s.data.toList.length = 0 := by rw [e]; rfl
   rw [Array.length_toList] at this
   exact this)
  have hne : s.toList.isEmpty = false := by
   cases h : s.toList with
   | nil => exact absurd h hnl
   | cons a b => rfl
  have hs0 : 0 < s.size := by omega
  by_cases h16 : s.size ≤ 16
  ·have h16I : ¬ (16 : Int) < (s.size : Int) := by omega
   have LT := Lib.hid (letter_at s hs0)
   cases hl : isLet s[0] with
   | false =>
    rw [hl] at LT
    have hr : res = false := by rw [hres, head_eq hL hs0, hl]; rfl
    subst hr
    clear hres RP hd hL hLn h0
    go_enter Tryz.func44, Tryz.ntmps44
    go_wp2_with fail
    refine (LT.out _).mono ?_
    rintro e w1 ⟨rfl, rfl⟩
    go_wp2
    go_ret
    exact ⟨rfl, Below.refl _ _⟩
   | true =>
    rw [hl] at LT
    have hkl := runB_le isPart L
    by_cases hrun : runB isPart L = L.length
    ·have hltI : ¬ (s.size : Int) < (s.size : Int) := by omega
     have hke : (runB isPart L : Int) = (s.size : Int) := by omega
     rw [hke] at RP
     have hr : Hid (res = !(ownW.contains L)) := by
      show _ = _
      rw [hres, head_eq hL hs0, hl, decide_eq_true (show L.length ≤ 16 by omega), decide_eq_true hrun]
      simp
     clear hres hke hrun hkl hLn h0
     replace hL := Lib.hid hL
     go_enter Tryz.func44, Tryz.ntmps44
     go_wp2_with fail
     refine (LT.out _).mono ?_
     rintro e w1 ⟨rfl, rfl⟩
     go_wp2_with fail
     refine (RP.out _).mono ?_
     rintro e w2 ⟨rfl, hb2⟩
     have z2 := Lib.hid hb2
     have SG : w2.rangeAt 2 0 (strVals ownW) := fun j v hj => by
      rw [Nat.zero_add, ((hd.below hb2).own j (by
       have := (List.getElem?_eq_some_iff.1 hj).1
       simpa [strVals, ownW] using this))]
      exact hj
     replace SG := Lib.hid SG
     clear hb2 RP LT hd
     go_upto_region 3 with (fail)
     refine wp_region_list ?_
     refine wpList_load_mid rfl 95 (.global 2) rfl 2 0 rfl (strVals ownW) _ SG.out Tryz.underlying95 rfl (by kernel_rfl) ?_
     obtain ⟨av, hav⟩ : ∃ av, av = (strVals ownW).toArray := ⟨_, rfl⟩
     rw [← hav]
     replace hav := Lib.hid hav
     refine wpList_plain rfl (fun K hK => ?_)
     go_simp
     refine hK _ _ ?_
     clear hK K SG
     refine wpList_nil ?_
     go_wp2
     go_loop [2, 27] (fun ev iv => ∃ i : Nat, ev = .bool false ∧ iv = .int .i64 (i : Int) ∧ i ≤ 4 ∧ Hid (∀ j, j < i → ∀ x, ownW[j]? = some x → x ≠ L)) (fun _ iv => 4 - (intOf iv).toNat)
     case atStart => exact ⟨0, rfl, rfl, Nat.zero_le _, fun j hj => by omega⟩
     case round =>
      obtain ⟨i, rfl, rfl, hi, hno⟩ := hrel
      by_cases hl4 : i < 4
      ·have hlI : (i : Int) < 4 := by omega
       obtain ⟨x, hx⟩ : ∃ x, ownW[i]? = some x := ⟨_, List.getElem?_eq_getElem hl4⟩
       have hix := run_index_strs w2 95 4 Tryz.underlying95 av i hl4 ⟨x.toArray⟩ (by rw [hav.out]; simp [strVals, hx])
       obtain ⟨xb, hxb⟩ : ∃ xb : ByteArray, xb = ⟨x.toArray⟩ := ⟨_, rfl⟩
       rw [← hxb] at hix
       by_cases hxL : x = L
       ·have hxs : xb = s := by rw [hxb, hxL, hL.out]
        have hr2 : Hid (res = false) := by
         show _ = _
         rw [hr.out, ← hxL]
         have : ownW.contains x = true := List.contains_iff_mem.2 (List.mem_of_getElem? hx)
         rw [this]
         rfl
        subst hxs
        clear hx hxb hno hxL hr hav
        go_wp2
        go_ret
        exact ⟨by rw [hr2.out]; rfl, z2.out⟩
       ·have hqb := str_no (u := xb) (s := s) (fun e => hxL (by rw [hL.out, ← e, hxb]))
        have hno2 : Hid (∀ j, j < i + 1 → ∀ x, ownW[j]? = some x → x ≠ L) := fun j hj y hy => by
         by_cases hji : j = i
         ·subst hji
          rw [hx] at hy
          cases hy
          exact hxL
         ·exact hno.out j (by omega) y hy
        clear hx hxb hno hxL hav
        go_wp2
        go_round
        case rel => exact ⟨i + 1, rfl, rfl, by omega, hno2⟩
        case measure => simp [intOf]; omega
      ·have hlI : ¬ (i : Int) < 4 := by omega
       have hr2 : Hid (res = true) := by
        show _ = _
        rw [hr.out]
        have : ownW.contains L = false := by
         cases hc : ownW.contains L with
         | false => rfl
         | true =>
          obtain ⟨j, hj, e⟩ := List.mem_iff_getElem.1 (List.contains_iff_mem.1 hc)
          exact absurd e (hno.out j (by have : ownW.length = 4 := rfl; omega) _ (List.getElem?_eq_getElem hj))
        rw [this]
        rfl
       clear hno hr
       go_wp2
       go_ret
       exact ⟨by rw [hr2.out]; rfl, z2.out⟩
    ·have hr : res = false := by rw [hres, decide_eq_false hrun]; simp
     subst hr
     have hltI : (runB isPart L : Int) < (s.size : Int) := by omega
     generalize runB isPart L = kp at RP hltI
     clear hres hd hrun hkl hL hLn h0
     go_enter Tryz.func44, Tryz.ntmps44
     go_wp2_with fail
     refine (LT.out _).mono ?_
     rintro e w1 ⟨rfl, rfl⟩
     go_wp2_with fail
     refine (RP.out _).mono ?_
     rintro e w2 ⟨rfl, hb2⟩
     go_wp2
     go_ret
     exact ⟨rfl, hb2⟩
  ·have h16I : (16 : Int) < (s.size : Int) := by omega
   have hr : res = false := by rw [hres, decide_eq_false (show ¬ L.length ≤ 16 by omega)]; simp
   subst hr
   clear hres RP hd hL hLn h0
   go_enter Tryz.func44, Tryz.ntmps44
   go_wp2
   go_ret
   exact ⟨rfl, Below.refl _ _⟩
end Go.Proofs.YtkehfolcfcbplaaGreatDoor
