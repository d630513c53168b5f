/- The walks of layer perm's laws out of the contracts. No conditions but the form's reach. -/
import Derived.Test.YtdjneckgckagdaaPermWalks5
namespace Go.Proofs.Ytdjneckgckagdaa
open Go.RowKit

theorem eq_yes {w : World} {a b : Option Addr} {l : List Int} {c0 c1 : Nat} (h0 : NumsAt .i64 w a l) (h1 : NumsAt .i64 w b l) (hl : l.length ≤ 9223372036854775807) :
    Calls Try.prog 9 #[.slice a l.length c0, .slice b l.length c1] w fun e w' => e = .returned (.bool true) ∧ Quiet w w' := by
  have c := eq_ints w a b l.length c0 l.length c1 l l h0 h1 rfl rfl hl hl
  rwa [decide_eq_true rfl] at c
theorem mul_len (a b : List Int) : (Perm.mul a b).length ≤ a.length := by
  unfold Perm.mul; split
  · rw [Perm.mulL_length]; omega
  · simp
theorem move_len (a b : List Int) : (Perm.move a b).length ≤ a.length := by
  unfold Perm.move; split
  · rw [Perm.moveL_length]; omega
  · simp
theorem inv_len (a : List Int) : (Perm.inv a).length ≤ a.length := by
  unfold Perm.inv; split
  · rw [Perm.invL_length]; omega
  · simp
theorem idS_len (n : Int) : (Perm.idS n).length ≤ 8 := by
  unfold Perm.idS; split
  · rw [Perm.idl_length]; omega
  · simp

theorem permMuls_walk (W : World) (v0 : Value) (as_ : List Int) (h0 : rSl 1 8 (rInt .i64) W [v0] as_) (v1 : Value) (bs : List Int) (h1 : rSl 1 8 (rInt .i64) W [v1] bs) (v2 : Value) (ls : List Int) (h2 : rSl 1 8 (rInt .i64) W [v2] ls) :
    Calls Try.prog 3 #[v0, v1, v2] W fun e w' => e = .returned (.bool true) ∧ Below W.heap.size W w' := by
  obtain ⟨a0, k0, rfl, l0, _, i0, _⟩ := NumsAt.of_rSl h0
  obtain ⟨a1, k1, rfl, l1, _, i1, _⟩ := NumsAt.of_rSl h1
  obtain ⟨a2, k2, rfl, l2, _, i2, _⟩ := NumsAt.of_rSl h2
  clear h0 h1 h2
  by_cases g0 : 30 < as_.length
  · have g0' : (30 : Int) < (as_.length : Int) := by omega
    go_enter Try.func3, Try.ntmps3
    go_wp2_with (go_at_call 8; refine (works_true _).mono ?_; rintro e w' ⟨rfl, hb⟩)
    go_ret
    exact ⟨rfl, by assumption⟩
  · have g0' : decide ((30 : Int) < (as_.length : Int)) = false := by simp; omega
    by_cases g1 : 30 < bs.length
    · have g1' : (30 : Int) < (bs.length : Int) := by omega
      go_enter Try.func3, Try.ntmps3
      go_wp2_with (go_at_call 8; refine (works_true _).mono ?_; rintro e w' ⟨rfl, hb⟩)
      go_ret
      exact ⟨rfl, by assumption⟩
    · have g1' : decide ((30 : Int) < (bs.length : Int)) = false := by simp; omega
      by_cases g2 : 30 < ls.length
      · have g2' : (30 : Int) < (ls.length : Int) := by omega
        go_enter Try.func3, Try.ntmps3
        go_wp2_with (go_at_call 8; refine (works_true _).mono ?_; rintro e w' ⟨rfl, hb⟩)
        go_ret
        exact ⟨rfl, by assumption⟩
      · have g2' : decide ((30 : Int) < (ls.length : Int)) = false := by simp; omega
        have ml := mul_len as_ bs
        have vl := move_len as_ ls
        go_enter Try.func3, Try.ntmps3
        go_wp2_with fail
        refine (mul_any _ _ _ _ _ _ _ _ _ i0 i1 rfl rfl (by omega) (by omega)).mono ?_
        rintro e w1 ⟨b1, c1, rfl, j1, hb1, _⟩
        go_wp2_with fail
        refine (rmul_any _ _ _ _ _ _ _ _ _ (i0.below hb1) (i1.below hb1) rfl rfl (by omega) (by omega)).mono ?_
        rintro e w2 ⟨b2, c2, rfl, j2, hb2, _⟩
        have j1 := j1.below hb2
        have hb2 := btrans hb1 hb2
        go_wp2_with fail
        refine (eq_yes j1 j2 (by omega)).mono ?_
        rintro e w3 ⟨rfl, m3, rfl⟩
        have hb3 := bdrewN hb2 m3
        go_wp2_with fail
        refine (move_any _ _ _ _ _ _ _ _ _ (i0.below hb3) (i2.below hb3) rfl rfl (by omega) (by omega)).mono ?_
        rintro e w4 ⟨b4, c4, rfl, j4, hb4, _⟩
        have hb4' := btrans hb3 hb4
        go_wp2_with fail
        refine (rmove_any _ _ _ _ _ _ _ _ _ (i0.below hb4') (i2.below hb4') rfl rfl (by omega) (by omega)).mono ?_
        rintro e w5 ⟨b5, c5, rfl, j5, hb5, _⟩
        have j4 := j4.below hb5
        have hb5 := btrans hb4' hb5
        go_wp2_with fail
        refine (eq_yes j4 j5 (by omega)).mono ?_
        rintro e w6 ⟨rfl, m6, rfl⟩
        have hb6 := bdrewN hb5 m6
        go_wp2_with fail
        refine (works_true _).mono ?_
        rintro e w7 ⟨rfl, hb7⟩
        go_wp2
        go_ret
        exact ⟨rfl, btrans hb6 hb7⟩

theorem permTells_walk (W : World) (v0 : Value) (ps : List Int) (h0 : rSl 1 8 (rInt .i64) W [v0] ps) (n : Int) (hn : -9223372036854775808 ≤ n ∧ n ≤ 9223372036854775807) :
    Calls Try.prog 4 #[v0, .int .i64 n] W fun e w' => e = .returned (.bool true) ∧ Below W.heap.size W w' := by
  obtain ⟨a0, k0, rfl, l0, _, i0, _⟩ := NumsAt.of_rSl h0
  clear h0
  by_cases g0 : 30 < ps.length
  · have g0' : (30 : Int) < (ps.length : Int) := by omega
    go_enter Try.func4, Try.ntmps4
    go_wp2_with (go_at_call 8; refine (works_true _).mono ?_; rintro e w' ⟨rfl, hb⟩)
    go_ret
    exact ⟨rfl, by assumption⟩
  · have g0' : decide ((30 : Int) < (ps.length : Int)) = false := by simp; omega
    have vl := inv_len ps
    have il := idS_len n
    have K := fun w' h => check_any w' a0 ps.length k0 ps h rfl (by omega)
    have K2 := fun w' h => rcheck_any w' a0 ps.length k0 ps h rfl (by omega)
    have O := fun w' h => order_any w' a0 ps.length k0 ps h rfl (by omega)
    have O2 := fun w' h => rorder_any w' a0 ps.length k0 ps h rfl (by omega)
    generalize Perm.okB ps = b at K K2
    generalize Perm.ord ps = r at O O2
    have KK := Lib.hid K
    have KK2 := Lib.hid K2
    have OO := Lib.hid O
    have OO2 := Lib.hid O2
    clear K K2 O O2
    have hbb : (b == b) = true := by simp
    have hrr : (r == r) = true := by simp
    go_enter Try.func4, Try.ntmps4
    go_wp2_with fail
    refine (KK.out _ i0).mono ?_
    rintro e w1 ⟨rfl, hb1⟩
    go_wp2_with fail
    refine (KK2.out _ (i0.below hb1)).mono ?_
    rintro e w2 ⟨rfl, rfl⟩
    go_wp2_with fail
    refine (inv_any _ _ _ _ _ (i0.below hb1) rfl (by omega)).mono ?_
    rintro e w2 ⟨b2, c2, rfl, j2, hb2, _⟩
    have hb2' := btrans hb1 hb2
    go_wp2_with fail
    refine (rinv_any _ _ _ _ _ (i0.below hb2') rfl (by omega)).mono ?_
    rintro e w3 ⟨b3, c3, rfl, j3, hb3, _⟩
    have j2 := j2.below hb3
    have hb3 := btrans hb2' hb3
    go_wp2_with fail
    refine (eq_yes j2 j3 (by omega)).mono ?_
    rintro e w4 ⟨rfl, m4, rfl⟩
    have hb4 := bdrewN hb3 m4
    go_wp2_with fail
    refine (OO.out _ (i0.below hb4)).mono ?_
    rintro e w5 ⟨rfl, hb5⟩
    have hb5 := btrans hb4 hb5
    go_wp2_with fail
    refine (OO2.out _ (i0.below hb5)).mono ?_
    rintro e w6 ⟨rfl, hb6⟩
    have hb6 := btrans hb5 hb6
    go_wp2_with fail
    refine (id_any _ _).mono ?_
    rintro e w7 ⟨b7, c7, rfl, j7, hb7, _⟩
    have hb7 := btrans hb6 hb7
    go_wp2_with fail
    refine (rid_any _ _ hn).mono ?_
    rintro e w8 ⟨b8, c8, rfl, j8, hb8, _⟩
    have j7 := j7.below hb8
    have hb8 := btrans hb7 hb8
    go_wp2_with fail
    refine (eq_yes j7 j8 (by omega)).mono ?_
    rintro e w9 ⟨rfl, m9, rfl⟩
    have hb9 := bdrewN hb8 m9
    go_wp2_with fail
    refine (works_true _).mono ?_
    rintro e w10 ⟨rfl, hb10⟩
    go_wp2
    go_ret
    exact ⟨rfl, btrans hb9 hb10⟩
end Go.Proofs.Ytdjneckgckagdaa
