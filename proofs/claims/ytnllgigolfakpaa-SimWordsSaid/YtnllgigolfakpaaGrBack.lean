/- From which nodes a way leads to a goal, and from which one of one edge or more. Conditions: the bounds of a graph. -/
import Derived.Test.YtnllgigolfakpaaGrMore
namespace Go.Proofs.Ytnllgigolfakpaa
open Go.RowKit

theorem GivesMarks.mono {w : World} {n : Nat} {P Q : Nat → Prop} {e : Ending} {w' : World} (h : GivesMarks w n P e w') (hpq : ∀ v, v < n → (P v ↔ Q v)) : GivesMarks w n Q e w' := by
  obtain ⟨g, xs, h1, h2, h3, h4, h5, h6⟩ := h
  exact ⟨g, xs, h1, h2, h3, fun v hv => (h4 v hv).trans (hpq v hv), h5, h6⟩
set_option maxHeartbeats 4000000 in
theorem back_any (W : World) (ae : Option Addr) (ce : Nat) (es : List (List Nat)) (hE : GrAt W ae es) (ok : GrOk 1000000 es) (ag : Option Addr) (cg : Nat) (gl : List Bool) (hG : BsAt W ag gl) (hgl : gl.length = es.length) :
    Calls Try.prog 41 #[GV none 0 0 ae es.length ce none 0 0, .slice ag es.length cg] W (GivesMarks W es.length fun v => ∃ u, gl.getD u false = true ∧ Way0 (GE es) All v u) := by
  have TU := Lib.hid (fun w' (hb : Below W.heap.size W w') => turn_any w' ae ce es (hE.below hb) ok)
  have GO := Lib.hid (fun w' (hb : Below W.heap.size W w') => goals_any none 0 0 ae es.length ce none 0 0 w' ag cg gl (hG.below hb) hgl ok.len)
  obtain ⟨src, hsrc⟩ : ∃ src, src = (List.range es.length).filter fun v => gl.getD v false := ⟨_, rfl⟩
  rw [← hsrc] at GO
  have hs1 : Hid (∀ u ∈ src, u < es.length) := fun u hu => by
    rw [hsrc, List.mem_filter] at hu
    simpa using hu.1
  have hs2 : Hid (src.length ≤ 1000000) := by
    show _ ≤ _
    rw [hsrc]
    refine Nat.le_trans (List.length_filter_le _ _) ?_
    rw [List.length_range]
    exact ok.len
  have hP : Hid (∀ L, IsTurn es L → ∀ v, v < es.length → ((∃ u ∈ src, Way0 (GE L) All u v) ↔ ∃ u, gl.getD u false = true ∧ Way0 (GE es) All v u)) := fun L hT v hv => by
    constructor
    · rintro ⟨u, hu, hw⟩
      rw [hsrc, List.mem_filter] at hu
      exact ⟨u, hu.2, (hT.way ok.tgt).1 hw⟩
    · rintro ⟨u, hu, hw⟩
      refine ⟨u, ?_, (hT.way ok.tgt).2 hw⟩
      rw [hsrc, List.mem_filter]
      refine ⟨?_, hu⟩
      have : u < gl.length := by
        refine Nat.lt_of_not_le (fun h => ?_)
        rw [List.getD_eq_getElem?_getD, List.getElem?_eq_none h] at hu
        simp at hu
      simp
      omega
  have RE := Lib.hid (fun w' i1 c1 g c i2 c2 L af cf (hT : IsTurn es L) (hL : GrAt w' (some ⟨g, 0, none⟩) L) (hS : NumsAt .i64 w' af (ints src)) => by
    have h1 := reach_any w' i1 0 c1 (some ⟨g, 0, none⟩) c i2 0 c2 L hL (K := 1000000000000) (by decide) hT.1 af cf src hS (fun u hu => by rw [hT.2.1]; exact hs1.out u hu) hs2.out
    rw [hT.2.1] at h1
    exact h1.mono fun e w'' h => h.mono (hP.out L hT))
  obtain ⟨n, hn⟩ : ∃ n, n = es.length := ⟨_, rfl⟩
  rw [← hn] at TU GO RE ⊢
  obtain ⟨w1, hw1⟩ : ∃ w1, w1 = W.alloc (.cells #[.slice none 0 0, .slice ae n ce, .slice none 0 0] TGr) := ⟨_, rfl⟩
  have hb1 : Below W.heap.size W w1 := by rw [hw1]; exact balloc (Below.refl _ _) _
  have r1 : RowAt w1 W.heap.size TGr (GC none 0 0 ae n ce none 0 0) := by rw [hw1]; exact RowAt.new (w := W) #[.slice none 0 0, .slice ae n ce, .slice none 0 0] rfl
  have a0 : w1.cell? ⟨W.heap.size, 0, none⟩ = some (.slice none 0 0) := r1.cell 0
  have a1 : w1.cell? ⟨W.heap.size, 1, none⟩ = some (.slice ae n ce) := r1.cell 1
  have a2 : w1.cell? ⟨W.heap.size, 2, none⟩ = some (.slice none 0 0) := r1.cell 2
  have SB : Hid (∀ w', Below w1.heap.size w1 w' → w'.cell? ⟨W.heap.size, 0, none⟩ = some (.slice none 0 0) ∧ w'.cell? ⟨W.heap.size, 1, none⟩ = some (.slice ae n ce) ∧ w'.cell? ⟨W.heap.size, 2, none⟩ = some (.slice none 0 0)) := fun w' hb => ⟨bcell hb a0, bcell hb a1, bcell hb a2⟩
  replace hb1 := Lib.hid hb1
  replace r1 := Lib.hid r1
  clear hE ok hG hgl hn hsrc hP hs1 hs2
  go_enter Try.func41, Try.ntmps41
  go_wp2
  rw [← hw1]
  clear hw1
  go_region_held3 (fun w' => w'.cell? ⟨W.heap.size, 0, none⟩ = some (.slice none 0 0) ∧ w'.cell? ⟨W.heap.size, 1, none⟩ = some (.slice ae n ce) ∧ w'.cell? ⟨W.heap.size, 2, none⟩ = some (.slice none 0 0)) (first | exact SB.out _ B3 | exact SB.out _ B2 | exact SB.out _ B1 | exact SB.out _ (Below.refl _ _) | exact SB.out _ (Below.refl _ _).drew) (first
    | (go_at_call 43; (with_reducible refine (RE.out _ _ _ _ _ _ _ L _ _ hT (hL.below hbs2) hS).mono ?_); rintro e w4 ⟨gR, xs, rfl, hR1, hR2, hR3, hb4, hR4⟩; have B3 : Below w1.heap.size w1 w4 := btrans B2 hb4)
    | (go_at_call 45; (with_reducible refine (GO.out _ (btrans hb1.out B1)).mono ?_); rintro e w3 ⟨aS, cS, rfl, hS, hbs2⟩; have B2 : Below w1.heap.size w1 w3 := btrans B1 hbs2)
    | (go_at_call 44; (with_reducible refine (TU.out _ hb1.out.drew).mono ?_); rintro e w2 ⟨j1, k1, gT, cT, j2, k2, L, rfl, hT, hL, hb2⟩; have B1 : Below w1.heap.size w1 w2 := ⟨hb2.os, hb2.tape, hb2.output, hb2.size, hb2.block⟩))
  go_wp2
  go_ret
  have hz := B2.size
  have hz2 := hb1.out.size
  exact ⟨gR, xs, rfl, hR1, hR2, hR3, btrans hb1.out B3, by omega⟩
end Go.Proofs.Ytnllgigolfakpaa
