/- The walk of layer sim's law on what may not be. No conditions but the form's reach. -/
import Derived.Test.YtnllgigolfakpaaSimWorks
import Derived.Test.YtnllgigolfakpaaSimHeavy
namespace Go.Proofs.Ytnllgigolfakpaa
open Go.RowKit

set_option maxHeartbeats 4000000 in
theorem simEmpty_walk (W : World) (c : Array Value) (A : AU) (h : rAU W c.toList A) (v : Value) (L : List (List Bool)) (hv : rSl 1 24 (rSl 1 1 rBool) W [v] L) :
    Calls Try.prog 7 #[.agg c, v] W fun e w' => e = .returned (.bool true) ∧ Below W.heap.size W w' := by
  obtain ⟨ai, ci, an, cn, hcs, hA, ok, _, _⟩ := AuAt.of_rAU h
  obtain rfl : c = #[.int .i64 A.sets, .slice ai A.init.length ci, .slice an A.nodes.length cn] := by
    cases c; simpa using hcs
  obtain ⟨ar, cr, rfl, hR, hRl⟩ := RowsAt.of_rSl hv
  clear h hcs hv
  have hb0 : Below W.heap.size W (W.alloc (.cells #[.int .i64 A.sets, .slice ai A.init.length ci, .slice an A.nodes.length cn] AUT)) := balloc (Below.refl _ _) _
  have FA := heavy_any _ ai an ci cn A (hA.below hb0) ok
  have r1 := Lib.hid (RowAt.new (w := W) (T := AUT) #[.int .i64 A.sets, .slice ai A.init.length ci, .slice an A.nodes.length cn] rfl)
  cases hf : heavyB A with
  | true =>
    rw [hf] at FA
    replace FA := Lib.hid FA
    clear hf ok hA hR hRl
    go_enter Try.func7, Try.ntmps7
    go_wp2_with fail
    refine FA.out.mono ?_
    rintro e w1 ⟨rfl, hb1⟩
    go_wp2_with fail
    refine (works_true _).mono ?_
    rintro e w2 ⟨rfl, hb2⟩
    go_wp2
    go_ret
    exact ⟨rfl, btrans (btrans hb0 hb1) hb2⟩
  | false =>
    rw [hf] at FA
    replace FA := Lib.hid FA
    by_cases hl : 40 < L.length
    · have hl' : (40 : Int) < (L.length : Int) := by omega
      clear hf ok hA hR hRl hl
      go_enter Try.func7, Try.ntmps7
      go_wp2_with fail
      refine FA.out.mono ?_
      rintro e w1 ⟨rfl, hb1⟩
      go_wp2_with fail
      refine (works_true _).mono ?_
      rintro e w2 ⟨rfl, hb2⟩
      go_wp2
      go_ret
      exact ⟨rfl, btrans (btrans hb0 hb1) hb2⟩
    have hl' : decide ((40 : Int) < (L.length : Int)) = false := by simp; omega
    have CK := Lib.hid (fun w' (hb : Below W.heap.size W w') => rcheck_any w' ai an ci cn A (hA.below hb) ok)
    by_cases hc : chk A = 0
    · rw [hc] at CK
      clear hf ok hA hR hRl hl
      go_enter Try.func7, Try.ntmps7
      go_wp2_with fail
      refine FA.out.mono ?_
      rintro e w1 ⟨rfl, hb1⟩
      have s1 := r1.out.below hb1
      have a0 : w1.cell? ⟨W.heap.size, 0, none⟩ = some (.int .i64 A.sets) := s1.cell 0
      have a1 : w1.cell? ⟨W.heap.size, 1, none⟩ = some (.slice ai A.init.length ci) := s1.cell 1
      have a2 : w1.cell? ⟨W.heap.size, 2, none⟩ = some (.slice an A.nodes.length cn) := s1.cell 2
      have hbw := btrans hb0 hb1
      go_wp2_with fail
      refine (CK.out _ hbw).mono ?_
      rintro e w2 ⟨rfl, hb2⟩
      go_wp2_with fail
      refine (works_true _).mono ?_
      rintro e w3 ⟨rfl, hb3⟩
      go_wp2
      go_ret
      exact ⟨rfl, btrans (btrans hbw hb2) hb3⟩
    · have hcb : (chk A == 0) = false := by simpa using hc
      have DIR := Lib.hid (fun w' (hb : Below W.heap.size W w') => direct_any w' ai an ci cn A (hA.below hb) ok)
      have hno : ∀ M, ¬ IsP A M := fun M hM => hc hM.1
      have ISR := Lib.hid (fun w' (hb : Below W.heap.size W w') => (is_any w' ai an ci cn A (hA.below hb) ok ar cr L (hR.below hb) (by omega) (fun l hl => by have := hRl l hl; omega)).mono (R' := fun e w'' => e = .returned (.bool false) ∧ Below w'.heap.size w' w'') fun e w'' ⟨b, he, hbb, hw⟩ => by
        cases b with
        | true => exact absurd (hbb.1 rfl) (hno L)
        | false => exact ⟨he, hw⟩)
      have ISN := Lib.hid (fun w' (hb : Below W.heap.size W w') => (is_any w' ai an ci cn A (hA.below hb) ok none 0 [] (RowsAt.nil _ _) (by decide) (by intro l hl; simp at hl)).mono (R' := fun e w'' => e = .returned (.bool false) ∧ Below w'.heap.size w' w'') fun e w'' ⟨b, he, hbb, hw⟩ => by
        cases b with
        | true => exact absurd (hbb.1 rfl) (hno [])
        | false => exact ⟨he, hw⟩)
      have hnil : Hid (∀ M, DirOf A M → M = []) := fun M hM => by
        rcases hM with ⟨_, h2⟩ | ⟨h1, _⟩
        · exact h2
        · exact absurd h1 hc
      generalize chk A = why at CK hcb
      clear hf ok hA hR hRl hl hc hno
      go_enter Try.func7, Try.ntmps7
      go_wp2_with fail
      refine FA.out.mono ?_
      rintro e w1 ⟨rfl, hb1⟩
      have s1 := r1.out.below hb1
      have a0 : w1.cell? ⟨W.heap.size, 0, none⟩ = some (.int .i64 A.sets) := s1.cell 0
      have a1 : w1.cell? ⟨W.heap.size, 1, none⟩ = some (.slice ai A.init.length ci) := s1.cell 1
      have a2 : w1.cell? ⟨W.heap.size, 2, none⟩ = some (.slice an A.nodes.length cn) := s1.cell 2
      have hbw := btrans hb0 hb1
      go_wp2_with fail
      refine (CK.out _ hbw).mono ?_
      rintro e w2 ⟨rfl, hb2⟩
      have s2 := s1.below hb2
      have hbw2 := btrans hbw hb2
      clear a0 a1 a2 FA CK
      have a0 : w2.cell? ⟨W.heap.size, 0, none⟩ = some (.int .i64 A.sets) := s2.cell 0
      have a1 : w2.cell? ⟨W.heap.size, 1, none⟩ = some (.slice ai A.init.length ci) := s2.cell 1
      have a2 : w2.cell? ⟨W.heap.size, 2, none⟩ = some (.slice an A.nodes.length cn) := s2.cell 2
      go_wp2_with fail
      refine (DIR.out _ hbw2).mono ?_
      rintro e w3 ⟨a3, c3, M, rfl, hD, _, hb3⟩
      obtain rfl := hnil.out M hD
      have s3 := s2.below hb3
      have hbw3 := btrans hbw2 hb3
      clear a0 a1 a2 DIR
      have a0 : w3.cell? ⟨W.heap.size, 0, none⟩ = some (.int .i64 A.sets) := s3.cell 0
      have a1 : w3.cell? ⟨W.heap.size, 1, none⟩ = some (.slice ai A.init.length ci) := s3.cell 1
      have a2 : w3.cell? ⟨W.heap.size, 2, none⟩ = some (.slice an A.nodes.length cn) := s3.cell 2
      go_wp2_with fail
      refine (ISR.out _ hbw3).mono ?_
      rintro e w4 ⟨rfl, hb4⟩
      have s4 := s3.below hb4
      have hbw4 := btrans hbw3 hb4
      clear a0 a1 a2 ISR
      have a0 : w4.cell? ⟨W.heap.size, 0, none⟩ = some (.int .i64 A.sets) := s4.cell 0
      have a1 : w4.cell? ⟨W.heap.size, 1, none⟩ = some (.slice ai A.init.length ci) := s4.cell 1
      have a2 : w4.cell? ⟨W.heap.size, 2, none⟩ = some (.slice an A.nodes.length cn) := s4.cell 2
      go_wp2_with fail
      refine (ISN.out _ hbw4).mono ?_
      rintro e w5 ⟨rfl, hb5⟩
      have hbw5 := btrans hbw4 hb5
      clear a0 a1 a2 ISN
      go_wp2_with fail
      refine (works_true _).mono ?_
      rintro e w6 ⟨rfl, hb6⟩
      go_wp2
      go_ret
      exact ⟨rfl, btrans hbw5 hb6⟩
end Go.Proofs.Ytnllgigolfakpaa
