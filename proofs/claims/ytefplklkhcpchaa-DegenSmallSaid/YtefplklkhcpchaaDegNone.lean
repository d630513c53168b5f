/- The walk of layer degen's law on automata with no sets. No conditions but the form's reach. -/
import Derived.Test.YtefplklkhcpchaaDegLives
namespace Go.Proofs.Ytefplklkhcpchaa
open Go.RowKit

theorem far_no {A : AU} (h : farB A = false) : A.nodes.length ≤ 40 ∧ A.init.length ≤ 1500 ∧ ∀ x ∈ A.nodes, x.to.length ≤ 1500 := by
  unfold farB at h
  simp only [Bool.or_eq_false_iff, decide_eq_false_iff_not] at h
  obtain ⟨h1, h2⟩ := h
  exact ⟨by omega, by omega, fun x hx => by have := sumTo_mem x hx; omega⟩

set_option maxHeartbeats 4000000 in
theorem degenNone_walk (W : World) (c : Array Value) (A : AU) (h : rAU W c.toList A) :
    Calls Try.prog 7 #[.agg c] W fun e w' => e = .returned (.bool true) ∧ Below W.heap.size W w' := by
  obtain ⟨ai, ci, an, cn, hcs, hA, ok, _, _⟩ := AuAt.of_rAU h
  obtain rfl : c = #[.int .i64 A.sets, .slice ai A.init.length ci, .slice an A.nodes.length cn] := by
    cases c; simpa using hcs
  clear h hcs
  have hb0 : Below W.heap.size W (W.alloc (.cells #[.int .i64 A.sets, .slice ai A.init.length ci, .slice an A.nodes.length cn] TA)) := balloc (Below.refl _ _) _
  have FA := far_any _ ai an ci cn A (hA.below hb0) ok
  have r1 := Lib.hid (RowAt.new (w := W) (T := TA) #[.int .i64 A.sets, .slice ai A.init.length ci, .slice an A.nodes.length cn] rfl)
  cases hf : farB A with
  | true =>
    rw [hf] at FA
    replace FA := Lib.hid FA
    clear hf ok hA
    go_enter Try.func7, Try.ntmps7
    go_wp2_with fail
    refine FA.out.mono ?_
    rintro e w1 ⟨rfl, hb1⟩
    go_wp2_with fail
    refine (lives_true _).mono ?_
    rintro e w2 ⟨rfl, hb2⟩
    go_wp2
    go_ret
    exact ⟨rfl, btrans (btrans hb0 hb1) hb2⟩
  | false =>
    rw [hf] at FA
    obtain ⟨f1, f2, f3⟩ := far_no hf
    have hA0 : AuAt W ai A.init.length an A.nodes.length ⟨0, A.init, A.nodes⟩ := ⟨rfl, rfl, hA.init, hA.nodes⟩
    have ok0 : AuOk ⟨0, A.init, A.nodes⟩ := ⟨by simp, ok.init, ok.initL, ok.nodesL, ok.nodes⟩
    have ONE := fun w' (hb : Below W.heap.size W w') => one_any w' ai an ci cn ⟨0, A.init, A.nodes⟩ (hA0.below hb) ok0 ⟨by simp only; omega, fun x hx => Nat.le_trans (f3 x hx) (by omega)⟩
    have CHK := fun w' (hb : Below W.heap.size W w') => rcheck_any w' ai an ci cn ⟨0, A.init, A.nodes⟩ (hA0.below hb) ok0
    have hone := @one_none ⟨0, A.init, A.nodes⟩ rfl
    have hbad : chk ⟨0, A.init, A.nodes⟩ ≠ 0 → oneP ⟨0, A.init, A.nodes⟩ = (chk ⟨0, A.init, A.nodes⟩, ⟨0, [], []⟩) := fun hc => by unfold oneP; rw [if_pos hc]
    obtain ⟨s, init, nodes⟩ := A
    simp only at FA ONE CHK r1 hone hbad f1 f2 hb0 hA0
    clear hf ok hA hA0 f3
    by_cases hc : chk ⟨0, init, nodes⟩ = 0
    · obtain ⟨ini, ns, ho, hns, hnl⟩ := hone hc
      rw [ho] at ONE
      replace FA := Lib.hid FA
      replace ONE := Lib.hid ONE
      replace hns := Lib.hid hns
      clear hone hbad hc CHK ho ok0
      go_enter Try.func7, Try.ntmps7
      go_wp2_with fail
      refine FA.out.mono ?_
      rintro e w1 ⟨rfl, hb1⟩
      have s1 := r1.out.below hb1
      have hbw1 := btrans hb0 hb1
      have a0 : w1.cell? ⟨W.heap.size, 0, none⟩ = some (.int .i64 s) := s1.cell 0
      have a1 : w1.cell? ⟨W.heap.size, 1, none⟩ = some (.slice ai init.length ci) := s1.cell 1
      have a2 : w1.cell? ⟨W.heap.size, 2, none⟩ = some (.slice an nodes.length cn) := s1.cell 2
      have f0 := s1.free 0
      have hb2 := bsetN (n := W.heap.size) (j := 0) (v := .int .i64 0) hbw1 (Nat.le_refl _)
      have s2 := s1.set 0 (.int .i64 0)
      clear FA hb1
      go_wp2_with fail
      refine (ONE.out _ hb2).mono ?_
      rintro e w3 ⟨b0, d0, bo, d1, rfl, _, hN, hb3⟩
      simp only at hN
      have hbw3 := btrans hb2 hb3
      have s3 := s2.below hb3
      clear ONE hb3 hb2 s2 a0 a1 a2 f0 s1
      have hz3 := s3.lt
      go_wp2
      go_loopw [28] (fun iv wr => ∃ k : Nat, k ≤ ns.length ∧ iv = .int .i64 k ∧ Below w3.heap.size w3 wr ∧ RowAt wr w3.heap.size TA [.int .i64 1, .slice b0 ini.length d0, .slice bo ns.length d1]) (fun iv _ => ns.length - (intOf iv).toNat)
      case atStart => exact ⟨0, Nat.zero_le _, rfl, balloc (Below.refl _ _) _, RowAt.new #[.int .i64 1, .slice b0 ini.length d0, .slice bo ns.length d1] rfl⟩
      case round =>
        obtain ⟨k, hk, rfl, hb, r3⟩ := hrel
        by_cases hlt : k < ns.length
        · obtain ⟨b, off, hab, q0, q1, q2, at_, ct, q3, _⟩ := (hN.below hb).at k hlt
          have hx := hns.out _ (List.getElem_mem hlt)
          rw [hx] at q2
          generalize ns[k] = x at q0 q1 q2 q3 hx
          have hbl := World.block_lt_of_cell? wr _ q0
          simp only at hbl
          subst hab
          replace hx := Lib.hid hx
          go_wp2
          go_roundw
          case rel => exact ⟨k + 1, by omega, by go_num, balloc hb _, r3.alloc _⟩
          case measure => simp [intOf]; omega
        · obtain rfl : k = ns.length := by omega
          have s4 := s3.below hb
          have a2 : wr.cell? ⟨W.heap.size, 2, none⟩ = some (.slice an nodes.length cn) := s4.cell 2
          have c2 : wr.cell? ⟨w3.heap.size, 2, none⟩ = some (.slice bo ns.length d1) := r3.cell 2
          have hle : (ns.length : Int) ≤ (nodes.length : Int) := by omega
          go_wp2_with fail
          refine (lives_true _).mono ?_
          rintro e w5 ⟨rfl, hb5⟩
          go_wp2
          go_ret
          exact ⟨rfl, btrans (btrans hbw3 hb) hb5⟩
    · have hcb : (chk ⟨0, init, nodes⟩ != 0) = true := by simpa using hc
      rw [hbad hc] at ONE
      generalize chk ⟨0, init, nodes⟩ = why at hcb ONE CHK
      replace FA := Lib.hid FA
      replace ONE := Lib.hid ONE
      replace CHK := Lib.hid CHK
      clear hone hbad hc ok0
      have hww : (why == why) = true := by simp
      go_enter Try.func7, Try.ntmps7
      go_wp2_with fail
      refine FA.out.mono ?_
      rintro e w1 ⟨rfl, hb1⟩
      have s1 := r1.out.below hb1
      have hbw1 := btrans hb0 hb1
      have a0 : w1.cell? ⟨W.heap.size, 0, none⟩ = some (.int .i64 s) := s1.cell 0
      have a1 : w1.cell? ⟨W.heap.size, 1, none⟩ = some (.slice ai init.length ci) := s1.cell 1
      have a2 : w1.cell? ⟨W.heap.size, 2, none⟩ = some (.slice an nodes.length cn) := s1.cell 2
      have f0 := s1.free 0
      have hb2 := bsetN (n := W.heap.size) (j := 0) (v := .int .i64 0) hbw1 (Nat.le_refl _)
      have s2 := s1.set 0 (.int .i64 0)
      clear FA hb1
      go_wp2_with fail
      refine (ONE.out _ hb2).mono ?_
      rintro e w3 ⟨b0, d0, bo, d1, rfl, _, _, hb3⟩
      have hbw3 := btrans hb2 hb3
      have s3 := s2.below hb3
      clear ONE hb3 hb2 s2 a0 a1 a2 f0 s1
      have hz3 := s3.lt
      have a0 : w3.cell? ⟨W.heap.size, 0, none⟩ = some (.int .i64 0) := s3.cell 0
      have a1 : w3.cell? ⟨W.heap.size, 1, none⟩ = some (.slice ai init.length ci) := s3.cell 1
      have a2 : w3.cell? ⟨W.heap.size, 2, none⟩ = some (.slice an nodes.length cn) := s3.cell 2
      have hbw4 := balloc hbw3 (.cells #[.int .i64 0, .slice b0 0 d0, .slice bo 0 d1] TA)
      go_wp2_with fail
      refine (CHK.out _ hbw4).mono ?_
      rintro e w5 ⟨rfl, hb5⟩
      go_wp2_with fail
      refine (lives_true _).mono ?_
      rintro e w6 ⟨rfl, hb6⟩
      go_wp2
      go_ret
      exact ⟨rfl, btrans (btrans hbw4 hb5) hb6⟩
end Go.Proofs.Ytefplklkhcpchaa
