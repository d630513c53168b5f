/- The walk of a law of chapter 35. Conditions: what the listed variables hold; the bounds that an argument brings along. -/
import Derived.Test.YtjacphcnanopjaaDoorAtLA
namespace Go.Proofs.YtjacphcnanopjaaDoor
open Go.Shelf Go.RowKit
set_option linter.unusedVariables false
set_option linter.unusedSimpArgs false

set_option maxHeartbeats 4000000 in
theorem back_walk (W : World) (hd : Door W) (c : Array Value) (A : AU) (h : rAU W c.toList A) :
    Calls Tryd.prog 5 #[.agg c] W fun e w' => e = .returned (.bool true) ∧ Below W.heap.size W w' := by
  obtain ⟨ai, ci, an, cn, hcs, hA, ok, _, _⟩ := AuAt.of_rAU h
  obtain rfl : c = #[.int .i64 A.sets, .slice ai A.init.length ci, .slice an A.nodes.length cn] := by
    cases c; simpa using hcs
  clear h hcs
  have hb0 : Below W.heap.size W (W.alloc (.cells #[.int .i64 A.sets, .slice ai A.init.length ci, .slice an A.nodes.length cn] AUT)) := balloc (Below.refl _ _) _
  have FA := heavy_any _ ai an ci cn A (hA.below hb0) ok
  have r1 := Lib.hid (RowAt.new (w := W) (T := AUT) #[.int .i64 A.sets, .slice ai A.init.length ci, .slice an A.nodes.length cn] rfl)
  replace hd := Lib.hid hd
  replace hb0 := Lib.hid hb0
  cases hf : heavyB A with
  | true =>
    rw [hf] at FA
    replace FA := Lib.hid FA
    clear hf ok hA
    go_enter Tryd.func5, Tryd.ntmps5
    go_wp2_with fail
    refine FA.out.mono ?_
    rintro e w1 ⟨rfl, hb1⟩
    replace hb1 := Lib.hid (btrans hb0.out hb1)
    go_wp2_with fail
    refine (works_true _ (hd.out.below hb1.out)).mono ?_
    rintro e wz ⟨rfl, hbz⟩
    replace hbz := Lib.hid (btrans hb1.out hbz)
    go_wp2
    go_ret
    exact ⟨rfl, hbz.out⟩
  | false =>
    rw [hf] at FA
    have few := few_of hf
    have TX := fun w' (hb : Below W.heap.size W w') => text_any w' (hd.out.below hb) ai an ci cn A (hA.below hb) ok few
    unfold TextV at TX
    by_cases hc : (textP A).2 = 0
    · obtain ⟨e1, e2, e3⟩ := text_yes hc
      have PB := parse_back (tx_of ok e2) e2 e3
      rw [e1, hc] at TX
      have PA := fun v (hb : Below W.heap.size W v) => parse_any v (hd.out.below hb) ⟨(wholeP A).toArray⟩ (by refine Nat.le_trans (Nat.le_of_eq ?_) (Nat.le_trans e3 (by omega)); exact List.size_toArray)
      have e4 : (⟨(wholeP A).toArray⟩ : ByteArray).data.toList = wholeP A := rfl
      rw [e4, PB] at PA
      unfold ParsV at PA
      have SAM := fun w' a0 c0 ao co b0 d0 bo do_ (h1 : AuAt w' a0 A.init.length ao A.nodes.length A) (h2 : AuAt w' b0 A.init.length bo A.nodes.length A) => same_any w' a0 ao b0 bo c0 co d0 do_ A A h1 h2 ok ok
      unfold SamV at SAM
      rw [decide_eq_true (rfl : A = A)] at SAM
      clear e1 e2 e3 e4 PB hc few
      generalize (wholeP A).toArray = q at TX PA
      obtain ⟨s, init, nodes⟩ := A
      simp only at FA TX PA SAM r1 hb0
      replace FA := Lib.hid FA
      replace TX := Lib.hid TX
      replace PA := Lib.hid PA
      replace SAM := Lib.hid SAM
      replace hA := Lib.hid hA
      clear hf ok
      go_enter Tryd.func5, Tryd.ntmps5
      go_wp2_with fail
      refine FA.out.mono ?_
      rintro e w1 ⟨rfl, hb1⟩
      have s1 := r1.out.below hb1
      replace hb1 := Lib.hid (btrans hb0.out hb1)
      have a0 : w1.cell? ⟨W.heap.size, 0, none⟩ = some (.int .i64 s) := s1.cell 0
      have a1 : w1.cell? ⟨W.heap.size, 1, none⟩ = some (.slice ai init.length ci) := s1.cell 1
      have a2 : w1.cell? ⟨W.heap.size, 2, none⟩ = some (.slice an nodes.length cn) := s1.cell 2
      replace s1 := Lib.hid s1
      clear FA r1 hb0
      go_wp2_with fail
      refine (TX.out _ hb1.out).mono ?_
      rintro e w2 ⟨rfl, hb2⟩
      have s2 := s1.out.below hb2
      replace hb2 := Lib.hid (btrans hb1.out hb2)
      clear a0 a1 a2 s1 hb1 TX
      replace s2 := Lib.hid s2
      go_wp2_with fail
      refine (PA.out _ hb2.out).mono ?_
      rintro e w3 ⟨i3, c3, n3, d3, rfl, h3, hb3⟩
      obtain ⟨g3, hg3⟩ : ∃ g3, g3 = w3.heap.size := ⟨_, rfl⟩
      have ra := (s2.out.below hb3).alloc (.cells #[.int .i64 s, .slice i3 init.length c3, .slice n3 nodes.length d3] AUT)
      have rb : RowAt (w3.alloc (.cells #[.int .i64 s, .slice i3 init.length c3, .slice n3 nodes.length d3] AUT)) g3 AUT [.int .i64 s, .slice i3 init.length c3, .slice n3 nodes.length d3] := RowAt.new #[.int .i64 s, .slice i3 init.length c3, .slice n3 nodes.length d3] hg3
      have b4 := balloc (btrans hb2.out hb3) (.cells #[.int .i64 s, .slice i3 init.length c3, .slice n3 nodes.length d3] AUT)
      have h4 := hA.out.below b4
      have h5 := h3.below (balloc (Below.refl _ _) (.cells #[.int .i64 s, .slice i3 init.length c3, .slice n3 nodes.length d3] AUT))
      have hgg : w3.heap.size = g3 := hg3.symm
      clear s2 hb2 h3 PA hg3 hb3
      replace ra := Lib.hid ra
      replace rb := Lib.hid rb
      replace b4 := Lib.hid b4
      replace h4 := Lib.hid h4
      replace h5 := Lib.hid h5
      replace hgg := Lib.hid hgg
      go_upto_region 7 with (fail)
      rw [hgg.out]
      generalize w3.alloc (.cells #[.int .i64 s, .slice i3 init.length c3, .slice n3 nodes.length d3] AUT) = w4 at ra rb b4 h4 h5 ⊢
      have a0 : w4.cell? ⟨W.heap.size, 0, none⟩ = some (.int .i64 s) := ra.out.cell 0
      have a1 : w4.cell? ⟨W.heap.size, 1, none⟩ = some (.slice ai init.length ci) := ra.out.cell 1
      have a2 : w4.cell? ⟨W.heap.size, 2, none⟩ = some (.slice an nodes.length cn) := ra.out.cell 2
      have e0 : w4.cell? ⟨g3, 0, none⟩ = some (.int .i64 s) := rb.out.cell 0
      have e1 : w4.cell? ⟨g3, 1, none⟩ = some (.slice i3 init.length c3) := rb.out.cell 1
      have e2 : w4.cell? ⟨g3, 2, none⟩ = some (.slice n3 nodes.length d3) := rb.out.cell 2
      clear ra rb hgg
      go_wp2_with fail
      refine (SAM.out _ _ _ _ _ _ _ _ _ h4.out h5.out).mono ?_
      rintro e w5 ⟨rfl, b5⟩
      replace b5 := Lib.hid (btrans b4.out b5)
      clear a0 a1 a2 e0 e1 e2 b4 h4 h5
      go_wp2_with fail
      refine (works_true _ (hd.out.below b5.out)).mono ?_
      rintro e wz ⟨rfl, hbz⟩
      replace hbz := Lib.hid (btrans b5.out hbz)
      go_wp2
      go_ret
      exact ⟨rfl, hbz.out⟩
    · rw [text_no hc] at TX
      generalize (textP A).2 = cde at TX hc
      have hcd : (cde != 0) = true := by simp [hc]
      have TX2 : ∀ w', Below W.heap.size W w' → Calls Tryd.prog 10 #[.agg #[.int .i64 A.sets, .slice ai A.init.length ci, .slice an A.nodes.length cn]] w' fun e w2 => e = .returned (.tuple #[.string ⟨#[]⟩, .int .i64 cde]) ∧ Below w'.heap.size w' w2 := fun w' hb => TX w' hb
      obtain ⟨s, init, nodes⟩ := A
      simp only at FA TX2 r1 hb0
      replace FA := Lib.hid FA
      replace TX2 := Lib.hid TX2
      clear hf ok few hA hc TX
      go_enter Tryd.func5, Tryd.ntmps5
      go_wp2_with fail
      refine FA.out.mono ?_
      rintro e w1 ⟨rfl, hb1⟩
      have s1 := r1.out.below hb1
      replace hb1 := Lib.hid (btrans hb0.out hb1)
      have a0 : w1.cell? ⟨W.heap.size, 0, none⟩ = some (.int .i64 s) := s1.cell 0
      have a1 : w1.cell? ⟨W.heap.size, 1, none⟩ = some (.slice ai init.length ci) := s1.cell 1
      have a2 : w1.cell? ⟨W.heap.size, 2, none⟩ = some (.slice an nodes.length cn) := s1.cell 2
      clear FA r1 hb0 s1
      go_wp2_with fail
      refine (TX2.out _ hb1.out).mono ?_
      rintro e w2 ⟨rfl, hb2⟩
      replace hb2 := Lib.hid (btrans hb1.out hb2)
      clear a0 a1 a2 hb1 TX2
      go_wp2_with fail
      refine (works_true _ (hd.out.below hb2.out)).mono ?_
      rintro e wz ⟨rfl, hbz⟩
      replace hbz := Lib.hid (btrans hb2.out hbz)
      go_wp2
      go_ret
      exact ⟨rfl, hbz.out⟩
end Go.Proofs.YtjacphcnanopjaaDoor
