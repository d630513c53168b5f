/- The walk of a law of chapter 35. Conditions: what the listed variables hold; the bounds that an argument brings along. -/
import Derived.Test.YtjacphcnanopjaaDoorAtLA
namespace Go.Proofs.YtjacphcnanopjaaDoor
open Go.Shelf Go.RowKit
set_option linter.unusedVariables false
set_option linter.unusedSimpArgs false

set_option maxHeartbeats 4000000 in
theorem reads_walk (W : World) (hd : Door W) (s : ByteArray) (hz : s.size ≤ Go.reachBytes) :
    Calls Tryd.prog 4 #[.string s] W fun e w' => e = .returned (.bool true) ∧ Below W.heap.size W w' := by
  have hs : s.size ≤ 9223372036854775807 := Nat.le_trans hz (by decide)
  clear hz
  replace hd := Lib.hid hd
  by_cases hl : 21000 < s.size
  · have hc : decide ((21000 : Int) < (s.size : Int)) = true := by simp; omega
    have hb0 := Lib.hid (Below.refl W.heap.size W)
    go_enter Tryd.func4, Tryd.ntmps4
    go_wp2_with fail
    refine (works_true _ (hd.out.below hb0.out)).mono ?_
    rintro e wz ⟨rfl, hbz⟩
    replace hbz := Lib.hid (btrans hb0.out hbz)
    go_wp2
    go_ret
    exact ⟨rfl, hbz.out⟩
  · have hc : decide ((21000 : Int) < (s.size : Int)) = false := by simp; omega
    have PA := fun v (hb : Below W.heap.size W v) => parse_any v (hd.out.below hb) s (by omega)
    have PB := fun v (hb : Below W.heap.size W v) => rparse_any v (hd.out.below hb) s (by omega)
    have okp := (parse_ok s.data.toList).1
    unfold ParsV at PA PB
    generalize parseP s.data.toList = o at PA PB okp
    obtain ⟨A, n, cde⟩ := o
    simp only at PA PB okp
    have hn : ((n : Int) == (n : Int)) = true := by simp
    have hce : (cde == cde) = true := by simp
    have SAM := fun w' a0 c0 ao co b0 d0 bo do_ (h1 : AuAt w' a0 A.init.length ao A.nodes.length A) (h2 : AuAt w' b0 A.init.length bo A.nodes.length A) => same_any w' a0 ao b0 bo c0 co d0 do_ A A h1 h2 okp okp
    unfold SamV at SAM
    rw [decide_eq_true (rfl : A = A)] at SAM
    obtain ⟨sets, init, nodes⟩ := A
    simp only at PA PB SAM
    replace PA := Lib.hid PA
    replace PB := Lib.hid PB
    replace SAM := Lib.hid SAM
    clear okp
    go_enter Tryd.func4, Tryd.ntmps4
    go_wp2_with fail
    refine (PA.out _ (Below.refl _ _)).mono ?_
    rintro e w1 ⟨i1, c1, n1, d1, rfl, h1, b1⟩
    have r1 := Lib.hid (RowAt.new (w := w1) (T := AUT) #[.int .i64 sets, .slice i1 init.length c1, .slice n1 nodes.length d1] rfl)
    have b2 := Lib.hid (balloc b1 (.cells #[.int .i64 sets, .slice i1 init.length c1, .slice n1 nodes.length d1] AUT))
    have h2 := Lib.hid (h1.below (balloc (Below.refl _ _) (.cells #[.int .i64 sets, .slice i1 init.length c1, .slice n1 nodes.length d1] AUT)))
    clear b1 h1 PA
    go_wp2_with fail
    refine (PB.out _ b2.out).mono ?_
    rintro e w3 ⟨i3, c3, n3, d3, rfl, h3, b3⟩
    obtain ⟨g, hg⟩ : ∃ g, g = w1.heap.size := ⟨_, rfl⟩
    obtain ⟨g3, hg3⟩ : ∃ g3, g3 = w3.heap.size := ⟨_, rfl⟩
    have r2 := r1.out
    rw [← hg] at r2
    rw [← hg]
    have ra := (r2.below b3).alloc (.cells #[.int .i64 sets, .slice i3 init.length c3, .slice n3 nodes.length d3] AUT)
    have rb : RowAt (w3.alloc (.cells #[.int .i64 sets, .slice i3 init.length c3, .slice n3 nodes.length d3] AUT)) g3 AUT [.int .i64 sets, .slice i3 init.length c3, .slice n3 nodes.length d3] := RowAt.new #[.int .i64 sets, .slice i3 init.length c3, .slice n3 nodes.length d3] hg3
    have b4 := balloc (btrans b2.out b3) (.cells #[.int .i64 sets, .slice i3 init.length c3, .slice n3 nodes.length d3] AUT)
    have h4 := (h2.out.below b3).below (balloc (Below.refl _ _) (.cells #[.int .i64 sets, .slice i3 init.length c3, .slice n3 nodes.length d3] AUT))
    have h5 := h3.below (balloc (Below.refl _ _) (.cells #[.int .i64 sets, .slice i3 init.length c3, .slice n3 nodes.length d3] AUT))
    have hgg : w3.heap.size = g3 := hg3.symm
    clear r1 r2 b2 h2 h3 PB hg hg3 b3
    replace ra := Lib.hid ra
    replace rb := Lib.hid rb
    replace b4 := Lib.hid b4
    replace h4 := Lib.hid h4
    replace h5 := Lib.hid h5
    replace hgg := Lib.hid hgg
    go_upto_region 5 with (fail)
    rw [hgg.out]
    generalize w3.alloc (.cells #[.int .i64 sets, .slice i3 init.length c3, .slice n3 nodes.length d3] AUT) = w4 at ra rb b4 h4 h5 ⊢
    have a0 : w4.cell? ⟨g, 0, none⟩ = some (.int .i64 sets) := ra.out.cell 0
    have a1 : w4.cell? ⟨g, 1, none⟩ = some (.slice i1 init.length c1) := ra.out.cell 1
    have a2 : w4.cell? ⟨g, 2, none⟩ = some (.slice n1 nodes.length d1) := ra.out.cell 2
    have e0 : w4.cell? ⟨g3, 0, none⟩ = some (.int .i64 sets) := rb.out.cell 0
    have e1 : w4.cell? ⟨g3, 1, none⟩ = some (.slice i3 init.length c3) := rb.out.cell 1
    have e2 : w4.cell? ⟨g3, 2, none⟩ = some (.slice n3 nodes.length d3) := rb.out.cell 2
    clear ra rb hgg
    go_wp2_with fail
    refine (SAM.out _ _ _ _ _ _ _ _ _ h4.out h5.out).mono ?_
    rintro e w5 ⟨rfl, b5⟩
    replace b5 := Lib.hid (btrans b4.out b5)
    clear a0 a1 a2 e0 e1 e2 b4 h4 h5
    go_wp2_with fail
    refine (works_true _ (hd.out.below b5.out)).mono ?_
    rintro e wz ⟨rfl, hbz⟩
    replace hbz := Lib.hid (btrans b5.out hbz)
    go_wp2
    go_ret
    exact ⟨rfl, hbz.out⟩
end Go.Proofs.YtjacphcnanopjaaDoor
