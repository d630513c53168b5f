/- The walk of layer perm's law on ranks. Conditions: numbers of Go's int. -/
import Derived.Test.YtdjneckgckagdaaPermGroup
import Derived.Test.YtdjneckgckagdaaPermWalks7
namespace Go.Proofs.Ytdjneckgckagdaa
open Go.RowKit

set_option maxHeartbeats 1000000 in
theorem permRanks_walk (W : World) (v0 : Value) (ps : List Int) (h0 : rSl 1 8 (rInt .i64) W [v0] ps) (n : Int) (hn : -9223372036854775808 ≤ n ∧ n ≤ 9223372036854775807) (k : Int) (hk : -9223372036854775808 ≤ k ∧ k ≤ 9223372036854775807) :
    Calls Try.prog 6 #[v0, .int .i64 n, .int .i64 k] W fun e w' => e = .returned (.bool true) ∧ Below W.heap.size W w' := by
  obtain ⟨a0, k0, rfl, l0, lc, i0, _⟩ := NumsAt.of_rSl h0
  clear h0
  by_cases g0 : 30 < ps.length
  · have g0' : (30 : Int) < (ps.length : Int) := by omega
    go_enter Try.func6, Try.ntmps6
    go_wp2_with (go_at_call 8; refine (works_true _).mono ?_; rintro e w' ⟨rfl, hb⟩)
    go_ret
    exact ⟨rfl, by assumption⟩
  · have g0' : decide ((30 : Int) < (ps.length : Int)) = false := by simp; omega
    have R := Lib.hid (fun w' h => prank_any w' a0 ps.length k0 ps h rfl (by omega) lc)
    have R2 := Lib.hid (fun w' h => rrank_any w' a0 ps.length k0 ps h rfl (by omega))
    have C := Lib.hid (fun w' h => rcheck_any w' a0 ps.length k0 ps h rfl (by omega))
    have U := Lib.hid (fun w => unrank_any w n k hk)
    have U2 := Lib.hid (fun w => runrank_any w n k hk)
    have ul := Perm.unrank_len n k
    have L2 := Lib.hid (@Perm.lead2 n k)
    have L1 : Hid (Perm.okB ps = true → Perm.unrank ps.length (Perm.rank ps) = ps ∧ -9223372036854775808 ≤ Perm.rank ps ∧ Perm.rank ps ≤ 9223372036854775807) := fun h => by
      have ok := (Perm.okB_iff ps).1 h
      obtain ⟨h1, h2, h3⟩ := Perm.lead1 ok
      have := Perm.fact_le ps.length ok.small
      exact ⟨h1, by omega, by omega⟩
    generalize Perm.unrank n k = u at U U2 ul L2
    generalize Perm.rank ps = r at R R2 L1
    have hrr : (r != r) = false := by simp
    generalize Perm.okB ps = b at C L1
    go_enter Try.func6, Try.ntmps6
    go_wp2_with fail
    refine (U.out _).mono ?_
    rintro e w1 ⟨a1, c1, rfl, i1, hb1, hc1⟩
    go_wp2_with fail
    refine (R.out _ (i0.below hb1)).mono ?_
    rintro e w2 ⟨rfl, hb2⟩
    have i1 := i1.below hb2
    have hb2 := btrans hb1 hb2
    go_wp2_with fail
    refine (R2.out _ (i0.below hb2)).mono ?_
    rintro e w3 ⟨rfl, m3, rfl⟩
    have hb3 := bdrewN hb2 m3
    have i1 := i1.drewN m3
    go_wp2_with fail
    refine (U2.out _).mono ?_
    rintro e w4 ⟨a4, c4, rfl, i4, hb4, hc4⟩
    have i1 := i1.below hb4
    have hb4 := btrans hb3 hb4
    go_wp2_with fail
    refine (eq_same rfl i1 i4 (by omega)).mono ?_
    rintro e w5 ⟨rfl, m5, rfl⟩
    have hb5 := bdrewN hb4 m5
    have i1 := i1.drewN m5
    clear i4
    go_wp2_with fail
    refine (C.out _ (i0.below hb5)).mono ?_
    rintro e w6 ⟨rfl, rfl⟩
    cases b with
    | false =>
      by_cases g2 : u.length = 0
      · have g2' : ((u.length : Int) == 0) = true := by simp [g2]
        go_wp2_with (go_at_call 8; refine (works_true _).mono ?_; rintro e w' ⟨rfl, hb⟩)
        go_ret
        exact ⟨rfl, btrans hb5 hb⟩
      · have g2' : ((u.length : Int) == 0) = false := by simp; exact fun h => g2 (by rw [h]; rfl)
        have e2 := L2.out g2
        have hkk : (k == k) = true := by simp
        have R3 := Lib.hid (fun w' a c h hc => prank_any w' a u.length c u h rfl (by omega) hc)
        rw [e2] at R3
        go_wp2_with fail
        refine (R3.out _ _ _ i1 hc1).mono ?_
        rintro e w8 ⟨rfl, hb8⟩
        go_wp2_with (go_at_call 8; refine (works_true _).mono ?_; rintro e w' ⟨rfl, hb⟩)
        go_ret
        exact ⟨rfl, btrans (btrans hb5 hb8) hb⟩
    | true =>
      have L1' := L1.out rfl
      have V := Lib.hid (fun w => unrank_any w ps.length r L1'.2)
      rw [L1'.1] at V
      clear L1 L1'
      go_wp2_with fail
      refine (R.out _ (i0.below hb5)).mono ?_
      rintro e w6 ⟨rfl, hb6⟩
      have i1 := i1.below hb6
      have hb6 := btrans hb5 hb6
      go_wp2_with fail
      refine (V.out _).mono ?_
      rintro e w7 ⟨a7, c7, rfl, i7, hb7, _⟩
      have i1 := i1.below hb7
      have hb7 := btrans hb6 hb7
      go_wp2_with fail
      refine (eq_same rfl i7 (i0.below hb7) (by omega)).mono ?_
      rintro e w7' ⟨rfl, m7, rfl⟩
      have hb7 := bdrewN hb7 m7
      have i1 := i1.drewN m7
      by_cases g2 : u.length = 0
      · have g2' : ((u.length : Int) == 0) = true := by simp [g2]
        go_wp2_with (go_at_call 8; refine (works_true _).mono ?_; rintro e w' ⟨rfl, hb⟩)
        go_ret
        exact ⟨rfl, btrans hb7 hb⟩
      · have g2' : ((u.length : Int) == 0) = false := by simp; exact fun h => g2 (by rw [h]; rfl)
        have e2 := L2.out g2
        have hkk : (k == k) = true := by simp
        have R3 := Lib.hid (fun w' a c h hc => prank_any w' a u.length c u h rfl (by omega) hc)
        rw [e2] at R3
        go_wp2_with fail
        refine (R3.out _ _ _ i1 hc1).mono ?_
        rintro e w8 ⟨rfl, hb8⟩
        go_wp2_with (go_at_call 8; refine (works_true _).mono ?_; rintro e w' ⟨rfl, hb⟩)
        go_ret
        exact ⟨rfl, btrans (btrans hb7 hb8) hb⟩
end Go.Proofs.Ytdjneckgckagdaa
