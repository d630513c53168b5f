/- The walk of layer degen's law on what is made, against the document's. No conditions but the form's reach. -/
import Derived.Test.YtefplklkhcpchaaDegROne
import Derived.Test.YtefplklkhcpchaaDegNone
import Derived.Test.YtefplklkhcpchaaDegSame
import Derived.Test.YtefplklkhcpchaaDegAgainPlain
namespace Go.Proofs.Ytefplklkhcpchaa
open Go.RowKit

theorem one_small {A : AU} (ok : AuOk A) : (oneP A).2.init.length ≤ 1000000000 ∧ (∀ x ∈ (oneP A).2.nodes, x.to.length ≤ 1000000000) ∧ (oneP A).2.nodes.length ≤ 1000000000 := by
  by_cases hc : chk A ≠ 0
  · have h : oneP A = (chk A, ⟨0, [], []⟩) := by unfold oneP; rw [if_pos hc]
    rw [h]
    simp
  · cases hl : loopP A 258 0 (rowP 0 A.init ([], [])).1 [] with
    | none =>
      have h : oneP A = (11, ⟨0, [], []⟩) := by unfold oneP; rw [if_neg hc, hl]
      rw [h]
      simp
    | some ns =>
      have h : oneP A = (0, ⟨1, (rowP 0 A.init ([], [])).2, ns⟩) := by unfold oneP; rw [if_neg hc, hl]
      obtain ⟨h1, _, h3, h4⟩ := one_again ok h
      have hcB : chk (⟨1, (rowP 0 A.init ([], [])).2, ns⟩ : AU) = 0 := by
        have := congrArg Prod.fst h1
        unfold oneP at this
        by_cases h : chk (⟨1, (rowP 0 A.init ([], [])).2, ns⟩ : AU) ≠ 0
        · rw [if_pos h] at this; exact this
        · simpa using h
      have h5 := (chk_good hcB).1
      rw [h]
      simp only at h3 h4 h5 ⊢
      exact ⟨by omega, fun x hx => Nat.le_trans (h4 x hx) (by omega), by omega⟩

set_option maxHeartbeats 4000000 in
theorem degenOne_walk (W : World) (c : Array Value) (A : AU) (h : rAU W c.toList A) :
    Calls Try.prog 3 #[.agg c] W fun e w' => e = .returned (.bool true) ∧ Below W.heap.size W w' := by
  obtain ⟨ai, ci, an, cn, hcs, hA, ok, _, _⟩ := AuAt.of_rAU h
  obtain rfl : c = #[.int .i64 A.sets, .slice ai A.init.length ci, .slice an A.nodes.length cn] := by
    cases c; simpa using hcs
  clear h hcs
  have hb0 : Below W.heap.size W (W.alloc (.cells #[.int .i64 A.sets, .slice ai A.init.length ci, .slice an A.nodes.length cn] TA)) := balloc (Below.refl _ _) _
  have FA := far_any _ ai an ci cn A (hA.below hb0) ok
  have r1 := Lib.hid (RowAt.new (w := W) (T := TA) #[.int .i64 A.sets, .slice ai A.init.length ci, .slice an A.nodes.length cn] rfl)
  cases hf : farB A with
  | true =>
    rw [hf] at FA
    replace FA := Lib.hid FA
    clear hf ok hA
    go_enter Try.func3, Try.ntmps3
    go_wp2_with fail
    refine FA.out.mono ?_
    rintro e w1 ⟨rfl, hb1⟩
    go_wp2_with fail
    refine (lives_true _).mono ?_
    rintro e w2 ⟨rfl, hb2⟩
    go_wp2
    go_ret
    exact ⟨rfl, btrans (btrans hb0 hb1) hb2⟩
  | false =>
    rw [hf] at FA
    obtain ⟨f1, f2, f3⟩ := far_no hf
    have ONE := fun w' (hb : Below W.heap.size W w') => one_any w' ai an ci cn A (hA.below hb) ok ⟨by omega, fun x hx => Nat.le_trans (f3 x hx) (by omega)⟩
    have TWO := fun w' (hb : Below W.heap.size W w') => rone_any w' ai an ci cn A (hA.below hb) ok ⟨by omega, fun x hx => Nat.le_trans (f3 x hx) (by omega)⟩
    have hsm := one_small ok
    generalize oneP A = q at ONE TWO hsm
    obtain ⟨why, B⟩ := q
    obtain ⟨s, init, nodes⟩ := A
    simp only at FA ONE TWO r1 f1 f2 hb0 hsm
    have SAM := Lib.hid (fun w' a0 c0 ao co b0 d0 bo do_ (h1 : AuAt w' a0 B.init.length ao B.nodes.length B) (h2 : AuAt w' b0 B.init.length bo B.nodes.length B) => same_yes w' a0 ao b0 bo c0 co d0 do_ B h1 h2 hsm.1 hsm.2.1 hsm.2.2)
    replace FA := Lib.hid FA
    replace ONE := Lib.hid ONE
    replace TWO := Lib.hid TWO
    clear hf ok hA f1 f2 f3 hsm
    obtain ⟨s2, ini, ns⟩ := B
    try simp only at ONE TWO SAM
    go_enter Try.func3, Try.ntmps3
    go_wp2_with fail
    refine FA.out.mono ?_
    rintro e w1 ⟨rfl, hb1⟩
    have s1 := r1.out.below hb1
    have hbw1 := btrans hb0 hb1
    have a0 : w1.cell? ⟨W.heap.size, 0, none⟩ = some (.int .i64 s) := s1.cell 0
    have a1 : w1.cell? ⟨W.heap.size, 1, none⟩ = some (.slice ai init.length ci) := s1.cell 1
    have a2 : w1.cell? ⟨W.heap.size, 2, none⟩ = some (.slice an nodes.length cn) := s1.cell 2
    clear FA hb1
    go_wp2_with fail
    refine (ONE.out _ hbw1).mono ?_
    rintro e w3 ⟨b0, d0, bo, d1, rfl, hI, hN, hb3⟩
    try simp only at hI hN
    have hbw3 := btrans hbw1 hb3
    have s3 := s1.below hb3
    clear ONE hb3 a0 a1 a2 s1
    have hbA : Below w3.heap.size w3 (w3.alloc (.cells #[.int .i64 s2, .slice b0 ini.length d0, .slice bo ns.length d1] TA)) := balloc (Below.refl _ _) _
    have rT := Lib.hid (RowAt.new (w := w3) (T := TA) #[.int .i64 s2, .slice b0 ini.length d0, .slice bo ns.length d1] rfl)
    have hB4 : AuAt (w3.alloc (.cells #[.int .i64 s2, .slice b0 ini.length d0, .slice bo ns.length d1] TA)) b0 ini.length bo ns.length ⟨s2, ini, ns⟩ := ⟨rfl, rfl, hI.below hbA, hN.below hbA⟩
    have T2 := Lib.hid (TWO.out (w3.alloc (.cells #[.int .i64 s2, .slice b0 ini.length d0, .slice bo ns.length d1] TA)) (btrans hbw3 hbA))
    have s4 := s3.below hbA
    have a0 : (w3.alloc (.cells #[.int .i64 s2, .slice b0 ini.length d0, .slice bo ns.length d1] TA)).cell? ⟨W.heap.size, 0, none⟩ = some (.int .i64 s) := s4.cell 0
    have a1 : (w3.alloc (.cells #[.int .i64 s2, .slice b0 ini.length d0, .slice bo ns.length d1] TA)).cell? ⟨W.heap.size, 1, none⟩ = some (.slice ai init.length ci) := s4.cell 1
    have a2 : (w3.alloc (.cells #[.int .i64 s2, .slice b0 ini.length d0, .slice bo ns.length d1] TA)).cell? ⟨W.heap.size, 2, none⟩ = some (.slice an nodes.length cn) := s4.cell 2
    replace hbA := Lib.hid hbA
    replace hB4 := Lib.hid hB4
    replace s3 := Lib.hid s3
    clear s4
    go_wp2_with fail
    refine T2.out.mono ?_
    rintro e w5 ⟨e0, g0, eo, g1, rfl, hI5, hN5, hb5⟩
    try simp only at hI5 hN5
    have hbw5 := btrans (btrans hbw3 hbA.out) hb5
    have sT := rT.out.below hb5
    have hB5 := hB4.out.below hb5
    have hbC : Below w5.heap.size w5 (w5.alloc (.cells #[.int .i64 s2, .slice e0 ini.length g0, .slice eo ns.length g1] TA)) := balloc (Below.refl _ _) _
    have SS := Lib.hid (SAM.out _ b0 d0 bo d1 e0 g0 eo g1 (hB5.below hbC) ⟨rfl, rfl, hI5.below hbC, hN5.below hbC⟩)
    have hz5 := sT.lt
    have t0 : w5.cell? ⟨w3.heap.size, 0, none⟩ = some (.int .i64 s2) := sT.cell 0
    have t1 : w5.cell? ⟨w3.heap.size, 1, none⟩ = some (.slice b0 ini.length d0) := sT.cell 1
    have t2 : w5.cell? ⟨w3.heap.size, 2, none⟩ = some (.slice bo ns.length d1) := sT.cell 2
    replace hB5 := Lib.hid hB5
    clear T2 TWO SAM hI hN hI5 hN5 hb5 a0 a1 a2
    go_wp2_with fail
    refine SS.out.mono ?_
    rintro e w7 ⟨rfl, hb7⟩
    go_wp2_with fail
    refine (lives_true _).mono ?_
    rintro e w8 ⟨rfl, hb8⟩
    go_wp2
    go_ret
    exact ⟨rfl, btrans (btrans (btrans hbw5 hbC) hb7) hb8⟩
end Go.Proofs.Ytefplklkhcpchaa
