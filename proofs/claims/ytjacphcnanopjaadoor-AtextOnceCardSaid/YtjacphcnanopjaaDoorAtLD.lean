/- The walk of a law of chapter 35. Conditions: what the listed variables hold; the bounds that an argument brings along. -/
import Derived.Test.YtjacphcnanopjaaDoorAtLA
namespace Go.Proofs.YtjacphcnanopjaaDoor
open Go.Shelf Go.RowKit
set_option linter.unusedVariables false
set_option linter.unusedSimpArgs false

set_option maxHeartbeats 4000000 in
theorem once_walk (W : World) (hd : Door W) (s : ByteArray) (hz : s.size ≤ Go.reachBytes) :
    Calls Tryd.prog 6 #[.string s] W fun e w' => e = .returned (.bool true) ∧ Below W.heap.size W w' := by
  have hs : s.size ≤ 9223372036854775807 := Nat.le_trans hz (by decide)
  clear hz
  replace hd := Lib.hid hd
  by_cases hl : 3000 < s.size
  · have hc : decide ((3000 : Int) < (s.size : Int)) = true := by simp; omega
    have hb0 := Lib.hid (Below.refl W.heap.size W)
    go_enter Tryd.func6, Tryd.ntmps6
    go_wp2_with fail
    refine (works_true _ (hd.out.below hb0.out)).mono ?_
    rintro e wz ⟨rfl, hbz⟩
    replace hbz := Lib.hid (btrans hb0.out hbz)
    go_wp2
    go_ret
    exact ⟨rfl, hbz.out⟩
  · have hc : decide ((3000 : Int) < (s.size : Int)) = false := by simp; omega
    have PA := fun v (hb : Below W.heap.size W v) => parse_any v (hd.out.below hb) s (by omega)
    obtain ⟨okp, fewp⟩ := parse_ok s.data.toList
    unfold ParsV at PA
    have onc := fun (A : AU) (n : Nat) => parse_once (s := s.data.toList) (a := A) (n := n)
    have non := parse_none (s := s.data.toList)
    generalize parseP s.data.toList = o at PA okp fewp onc non
    obtain ⟨A, n, cde⟩ := o
    simp only at PA okp fewp non
    by_cases hz : cde = 0
    · subst hz
      obtain ⟨o1, o2, o3, o4, o5⟩ := onc A n rfl
      have hT : textP A = (s.data.toList, 0) := by
        unfold textP
        rw [if_neg (by rw [o2]; exact fun h => h rfl), if_neg (by rw [o1]; omega), o1]
      have TX := fun w' ai an ci cn (hb : Below W.heap.size W w') (hA : AuAt w' ai A.init.length an A.nodes.length A) => text_any w' (hd.out.below hb) ai an ci cn A hA okp fewp
      unfold TextV at TX
      rw [hT] at TX
      have TX2 : ∀ w' ai an ci cn, Below W.heap.size W w' → AuAt w' ai A.init.length an A.nodes.length A → Calls Tryd.prog 10 #[.agg #[.int .i64 A.sets, .slice ai A.init.length ci, .slice an A.nodes.length cn]] w' fun e w2 => e = .returned (.tuple #[.string s, .int .i64 0]) ∧ Below w'.heap.size w' w2 := TX
      have CK := fun w' ai an ci cn (hA : AuAt w' ai A.init.length an A.nodes.length A) => rcheck_any w' ai an ci cn A hA okp
      rw [o2] at CK
      clear onc non o1 o2 o3 o4 o5 hT TX okp fewp
      obtain ⟨sets, init, nodes⟩ := A
      simp only at PA TX2 CK
      replace PA := Lib.hid PA
      replace TX2 := Lib.hid TX2
      replace CK := Lib.hid CK
      go_enter Tryd.func6, Tryd.ntmps6
      go_wp2_with fail
      refine (PA.out _ (Below.refl _ _)).mono ?_
      rintro e w1 ⟨i1, c1, n1, d1, rfl, h1, b1⟩
      obtain ⟨g, hg⟩ : ∃ g, g = w1.heap.size := ⟨_, rfl⟩
      have r2 : RowAt (w1.alloc (.cells #[.int .i64 sets, .slice i1 init.length c1, .slice n1 nodes.length d1] AUT)) g AUT [.int .i64 sets, .slice i1 init.length c1, .slice n1 nodes.length d1] := RowAt.new #[.int .i64 sets, .slice i1 init.length c1, .slice n1 nodes.length d1] hg
      have b2 := balloc b1 (.cells #[.int .i64 sets, .slice i1 init.length c1, .slice n1 nodes.length d1] AUT)
      have h2 := h1.below (balloc (Below.refl _ _) (.cells #[.int .i64 sets, .slice i1 init.length c1, .slice n1 nodes.length d1] AUT))
      have hgg : w1.heap.size = g := hg.symm
      clear hg h1 b1 PA
      replace r2 := Lib.hid r2
      replace b2 := Lib.hid b2
      replace h2 := Lib.hid h2
      replace hgg := Lib.hid hgg
      go_upto_region 4 with (fail)
      rw [hgg.out]
      generalize w1.alloc (.cells #[.int .i64 sets, .slice i1 init.length c1, .slice n1 nodes.length d1] AUT) = w2 at r2 b2 h2 ⊢
      have a0 : w2.cell? ⟨g, 0, none⟩ = some (.int .i64 sets) := r2.out.cell 0
      have a1 : w2.cell? ⟨g, 1, none⟩ = some (.slice i1 init.length c1) := r2.out.cell 1
      have a2 : w2.cell? ⟨g, 2, none⟩ = some (.slice n1 nodes.length d1) := r2.out.cell 2
      clear hgg
      go_wp2_with fail
      refine (TX2.out _ _ _ _ _ b2.out h2.out).mono ?_
      rintro e w3 ⟨rfl, b3⟩
      have r3 := r2.out.below b3
      have h3 := Lib.hid (h2.out.below b3)
      replace b3 := Lib.hid (btrans b2.out b3)
      clear a0 a1 a2 b2 h2 r2 TX2
      have a0 : w3.cell? ⟨g, 0, none⟩ = some (.int .i64 sets) := r3.cell 0
      have a1 : w3.cell? ⟨g, 1, none⟩ = some (.slice i1 init.length c1) := r3.cell 1
      have a2 : w3.cell? ⟨g, 2, none⟩ = some (.slice n1 nodes.length d1) := r3.cell 2
      clear r3
      go_wp2_with fail
      refine (CK.out _ _ _ _ _ h3.out).mono ?_
      rintro e w4 ⟨rfl, b4⟩
      replace b4 := Lib.hid (btrans b3.out b4)
      clear a0 a1 a2 b3 h3 CK
      go_wp2_with fail
      refine (works_true _ (hd.out.below b4.out)).mono ?_
      rintro e wz ⟨rfl, hbz⟩
      replace hbz := Lib.hid (btrans b4.out hbz)
      go_wp2
      go_ret
      exact ⟨rfl, hbz.out⟩
    · have hA0 : A = au0 := non hz
      subst hA0
      have hcd : (cde != 0) = true := by simp [hz]
      have SAM := fun w' a0 c0 ao co (h1 : AuAt w' a0 au0.init.length ao au0.nodes.length au0) => same_any w' a0 ao none none c0 co 0 0 au0 au0 h1 ⟨rfl, rfl, fun h => absurd h (by decide), fun h => absurd h (by decide)⟩ okp okp
      unfold SamV at SAM
      rw [decide_eq_true (rfl : au0 = au0)] at SAM
      clear onc non okp fewp hz
      obtain ⟨sets, hsets⟩ : ∃ n : Int, n = 0 := ⟨_, rfl⟩
      obtain ⟨init, hinit⟩ : ∃ l : List Int, l = [] := ⟨_, rfl⟩
      obtain ⟨nodes, hnodes⟩ : ∃ l : List AN, l = [] := ⟨_, rfl⟩
      have e0 : au0 = ⟨sets, init, nodes⟩ := by rw [hsets, hinit, hnodes]; rfl
      have PA2 : ∀ v, Below W.heap.size W v → Calls Tryd.prog 12 #[.string s] v fun e w' => ∃ ia ic na nc, e = .returned (.tuple #[.agg #[.int .i64 0, .slice ia 0 ic, .slice na 0 nc], .int .i64 (n : Int), .int .i64 cde]) ∧ AuAt w' ia 0 na 0 au0 ∧ Below v.heap.size v w' := PA
      have SAM2 : ∀ w' a0 c0 ao co, AuAt w' a0 0 ao 0 au0 → Calls Tryd.prog 14 #[.agg #[.int .i64 0, .slice a0 0 c0, .slice ao 0 co], .agg #[.int .i64 0, .slice none 0 0, .slice none 0 0]] w' fun e w2 => e = .returned (.bool true) ∧ Below w'.heap.size w' w2 := SAM
      clear PA SAM e0 hsets hinit hnodes sets init nodes
      have PA := Lib.hid PA2
      replace SAM2 := Lib.hid SAM2
      clear PA2
      go_enter Tryd.func6, Tryd.ntmps6
      go_wp2_with fail
      refine (PA.out _ (Below.refl _ _)).mono ?_
      rintro e w1 ⟨i1, c1, n1, d1, rfl, h1, b1⟩
      obtain ⟨g, hg⟩ : ∃ g, g = w1.heap.size := ⟨_, rfl⟩
      have r2 : RowAt (w1.alloc (.cells #[.int .i64 0, .slice i1 0 c1, .slice n1 0 d1] AUT)) g AUT [.int .i64 0, .slice i1 0 c1, .slice n1 0 d1] := RowAt.new #[.int .i64 0, .slice i1 0 c1, .slice n1 0 d1] hg
      have b2 := balloc b1 (.cells #[.int .i64 0, .slice i1 0 c1, .slice n1 0 d1] AUT)
      have h2 := h1.below (balloc (Below.refl _ _) (.cells #[.int .i64 0, .slice i1 0 c1, .slice n1 0 d1] AUT))
      have hgg : w1.heap.size = g := hg.symm
      clear hg h1 b1 PA
      replace r2 := Lib.hid r2
      replace b2 := Lib.hid b2
      replace h2 := Lib.hid h2
      replace hgg := Lib.hid hgg
      go_upto_region 4 with (fail)
      rw [hgg.out]
      generalize w1.alloc (.cells #[.int .i64 0, .slice i1 0 c1, .slice n1 0 d1] AUT) = w2 at r2 b2 h2 ⊢
      have a0 : w2.cell? ⟨g, 0, none⟩ = some (.int .i64 0) := r2.out.cell 0
      have a1 : w2.cell? ⟨g, 1, none⟩ = some (.slice i1 0 c1) := r2.out.cell 1
      have a2 : w2.cell? ⟨g, 2, none⟩ = some (.slice n1 0 d1) := r2.out.cell 2
      clear hgg
      go_wp2_with fail
      clear r2
      refine (SAM2.out _ _ _ _ _ h2.out).mono ?_
      rintro e w3 ⟨rfl, b3⟩
      replace b3 := Lib.hid (btrans b2.out b3)
      clear a0 a1 a2 b2 h2 SAM2
      go_wp2_with fail
      refine (works_true _ (hd.out.below b3.out)).mono ?_
      rintro e wz ⟨rfl, hbz⟩
      replace hbz := Lib.hid (btrans b3.out hbz)
      go_wp2
      go_ret
      exact ⟨rfl, hbz.out⟩
end Go.Proofs.YtjacphcnanopjaaDoor
