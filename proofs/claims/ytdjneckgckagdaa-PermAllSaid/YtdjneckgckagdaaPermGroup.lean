/- The walk of layer perm's law on the group. No conditions but the form's reach. -/
import Derived.Test.YtdjneckgckagdaaPermLaws
namespace Go.Proofs.Ytdjneckgckagdaa
open Go.RowKit

theorem eq_same {w : World} {a b : Option Addr} {xs ys : List Int} {c0 c1 : Nat} (h : xs = ys) (h0 : NumsAt .i64 w a xs) (h1 : NumsAt .i64 w b ys) (hl : xs.length ≤ 9223372036854775807) :
    Calls Try.prog 9 #[.slice a xs.length c0, .slice b ys.length c1] w fun e w' => e = .returned (.bool true) ∧ Quiet w w' := by
  subst h
  exact eq_yes h0 h1 hl
def hundL (k : Nat) : List Int := (List.range k).map fun (i : Nat) => 100 + (i : Int)
theorem hund_snoc (k : Nat) : hundL k ++ [100 + (k : Int)] = hundL (k + 1) := by simp [hundL, List.range_succ]
theorem hund_len (k : Nat) : (hundL k).length = k := by simp [hundL]

set_option maxHeartbeats 1000000 in
theorem permGroup_walk (W : World) (v0 : Value) (as_ : List Int) (h0 : rSl 1 8 (rInt .i64) W [v0] as_) (v1 : Value) (bs : List Int) (h1 : rSl 1 8 (rInt .i64) W [v1] bs) (v2 : Value) (cs : List Int) (h2 : rSl 1 8 (rInt .i64) W [v2] cs) :
    Calls Try.prog 5 #[v0, v1, v2] W fun e w' => e = .returned (.bool true) ∧ Below W.heap.size W w' := by
  obtain ⟨a0, k0, rfl, l0, _, i0, _⟩ := NumsAt.of_rSl h0
  obtain ⟨a1, k1, rfl, l1, _, i1, _⟩ := NumsAt.of_rSl h1
  obtain ⟨a2, k2, rfl, l2, _, i2, _⟩ := NumsAt.of_rSl h2
  clear h0 h1 h2
  have K0 := Lib.hid (fun w' h => rcheck_any w' a0 as_.length k0 as_ h rfl (by omega))
  have K1 := Lib.hid (fun w' h => rcheck_any w' a1 bs.length k1 bs h rfl (by omega))
  have K2 := Lib.hid (fun w' h => rcheck_any w' a2 cs.length k2 cs h rfl (by omega))
  by_cases g0 : Perm.okB as_ = true
  · rw [g0] at K0
    have o0 := Lib.hid ((Perm.okB_iff _).1 g0)
    clear g0
    by_cases g1 : Perm.okB bs = true
    · rw [g1] at K1
      have o1 := Lib.hid ((Perm.okB_iff _).1 g1)
      clear g1
      by_cases g2 : Perm.okB cs = true
      · rw [g2] at K2
        have o2 := Lib.hid ((Perm.okB_iff _).1 g2)
        clear g2
        by_cases g3 : as_.length = bs.length
        · have g3' : ((as_.length : Int) != (bs.length : Int)) = false := by simp [g3]
          have e3 := Lib.hid g3
          clear g3
          by_cases g4 : bs.length = cs.length
          · have g4' : ((bs.length : Int) != (cs.length : Int)) = false := by simp [g4]
            have e4 := Lib.hid g4
            clear g4
            have n8 : as_.length ≤ 8 := o0.out.small
            have n8b : bs.length ≤ 8 := o1.out.small
            have n8c : cs.length ≤ 8 := o2.out.small
            have q1 : Hid (Perm.mul as_ (Perm.inv as_) = Perm.idS as_.length) := by show _ = _; rw [idS_yes n8, Perm.group1 o0.out]
            have q2 : Hid (Perm.mul (Perm.inv as_) as_ = Perm.idS as_.length) := by show _ = _; rw [idS_yes n8, Perm.group2 o0.out]
            have q3 := Lib.hid (Perm.group3 o0.out o1.out o2.out e3.out e4.out)
            have q4 := Lib.hid (Perm.group4 (l := hundL as_.length) o0.out o1.out e3.out (hund_len _))
            have z1 := inv_len as_
            have z2 := mul_len as_ (Perm.inv as_)
            have z3 := mul_len (Perm.inv as_) as_
            have z4 := mul_len as_ bs
            have z5 := mul_len (Perm.mul as_ bs) cs
            have z6 := mul_len bs cs
            have z7 := mul_len as_ (Perm.mul bs cs)
            have z8 := move_len as_ (hundL as_.length)
            have z9 := move_len (Perm.mul as_ bs) (hundL as_.length)
            have hund := Lib.hid (hund_len as_.length)
            go_enter Try.func5, Try.ntmps5
            go_wp2_with fail
            refine (K0.out _ i0).mono ?_
            rintro e w' ⟨rfl, rfl⟩
            go_wp2_with fail
            refine (K1.out _ i1).mono ?_
            rintro e w' ⟨rfl, rfl⟩
            go_wp2_with fail
            refine (K2.out _ i2).mono ?_
            rintro e w' ⟨rfl, rfl⟩
            go_wp2
            go_loopw [7, 8] (fun v i wr => ∃ (k : Nat) (a : Option Addr) (cap : Nat), k ≤ as_.length ∧ i = .int .i64 k ∧ v = .slice a k cap ∧ OwnN .i64 wr W.heap.size 3 a k cap (hundL k) ∧ Below W.heap.size W wr) (fun _ i _ => as_.length - (intOf i).toNat)
            case atStart => exact ⟨0, none, 0, Nat.zero_le _, rfl, rfl, OwnN.nil _ _ _ _, Below.refl _ _⟩
            case round =>
              obtain ⟨k, a, cap, hk, rfl, rfl, ho, hb⟩ := hrel
              have hz := hb.size
              by_cases hlt : k < as_.length
              · go_wp2_with (at_builtin; refine wp_app1 rfl _ _ 22 3 .i64 8 rfl Try.underlying22 Try.infoInt W.heap.size a k cap (hundL k) rfl (ho.alloc _) wr.heap.size 1 (100 + (k : Int)) rfl (new_cell1 _ _ _) (by omega) (by omega) (by simp; omega) ?_)
                intro a' cap' w' ho' hg
                have hb' := bgrown (balloc hb _) hg ho.block
                have hs := Lib.hid (hund_snoc k)
                rw [hs.out] at ho'
                clear hg ho
                go_wp2
                go_roundw
                case rel => exact ⟨k + 1, a', cap', by omega, by go_num, rfl, ho', hb'⟩
                case measure => simp [intOf]; omega
              · have hk2 : Hid (k = as_.length) := by show _ = _; omega
                have il : NumsAt .i64 wr a (hundL as_.length) := by rw [← hk2.out]; exact NumsAt.of_owns ho
                clear ho hz
                go_wp2_with fail
                refine (inv_any _ _ _ _ _ (i0.below hb) rfl (by omega)).mono ?_
                rintro e u1 ⟨b1, c1, rfl, p_1, gb1, _⟩
                have il_1 := il.below gb1
                have hb1 := btrans hb gb1
                go_wp2_with fail
                refine (mul_any _ _ _ _ _ _ _ _ _ (i0.below hb1) p_1 rfl rfl (by omega) (by omega)).mono ?_
                rintro e u2 ⟨b2, c2, rfl, s_2, gb2, _⟩
                have il_2 := il_1.below gb2
                have hb2 := btrans hb1 gb2
                go_wp2_with fail
                refine (id_any _ _).mono ?_
                rintro e u3 ⟨b3, c3, rfl, d_3, gb3, _⟩
                have il_3 := il_2.below gb3
                have s_3 := s_2.below gb3
                have hb3 := btrans hb2 gb3
                go_wp2_with fail
                refine (eq_same q1.out s_3 d_3 (by omega)).mono ?_
                rintro e u4 ⟨rfl, m4, rfl⟩
                have hb4 := bdrewN hb3 m4
                have il_4 := NumsAt.drewN il_3 m4
                go_wp2_with fail
                refine (inv_any _ _ _ _ _ (i0.below hb4) rfl (by omega)).mono ?_
                rintro e u5 ⟨b5, c5, rfl, p_5, gb5, _⟩
                have il_5 := il_4.below gb5
                have hb5 := btrans hb4 gb5
                go_wp2_with fail
                refine (mul_any _ _ _ _ _ _ _ _ _ p_5 (i0.below hb5) rfl rfl (by omega) (by omega)).mono ?_
                rintro e u6 ⟨b6, c6, rfl, s_6, gb6, _⟩
                have il_6 := il_5.below gb6
                have hb6 := btrans hb5 gb6
                go_wp2_with fail
                refine (id_any _ _).mono ?_
                rintro e u7 ⟨b7, c7, rfl, d_7, gb7, _⟩
                have il_7 := il_6.below gb7
                have s_7 := s_6.below gb7
                have hb7 := btrans hb6 gb7
                go_wp2_with fail
                refine (eq_same q2.out s_7 d_7 (by omega)).mono ?_
                rintro e u8 ⟨rfl, m8, rfl⟩
                have hb8 := bdrewN hb7 m8
                have il_8 := NumsAt.drewN il_7 m8
                go_wp2_with fail
                refine (mul_any _ _ _ _ _ _ _ _ _ (i0.below hb8) (i1.below hb8) rfl rfl (by omega) (by omega)).mono ?_
                rintro e u9 ⟨b9, c9, rfl, p_9, gb9, _⟩
                have il_9 := il_8.below gb9
                have hb9 := btrans hb8 gb9
                go_wp2_with fail
                refine (mul_any _ _ _ _ _ _ _ _ _ p_9 (i2.below hb9) rfl rfl (by omega) (by omega)).mono ?_
                rintro e u10 ⟨b10, c10, rfl, s_10, gb10, _⟩
                have il_10 := il_9.below gb10
                have hb10 := btrans hb9 gb10
                go_wp2_with fail
                refine (mul_any _ _ _ _ _ _ _ _ _ (i1.below hb10) (i2.below hb10) rfl rfl (by omega) (by omega)).mono ?_
                rintro e u11 ⟨b11, c11, rfl, p_11, gb11, _⟩
                have il_11 := il_10.below gb11
                have s_11 := s_10.below gb11
                have hb11 := btrans hb10 gb11
                go_wp2_with fail
                refine (mul_any _ _ _ _ _ _ _ _ _ (i0.below hb11) p_11 rfl rfl (by omega) (by omega)).mono ?_
                rintro e u12 ⟨b12, c12, rfl, t_12, gb12, _⟩
                have il_12 := il_11.below gb12
                have s_12 := s_11.below gb12
                have hb12 := btrans hb11 gb12
                go_wp2_with fail
                refine (eq_same q3.out s_12 t_12 (by omega)).mono ?_
                rintro e u13 ⟨rfl, m13, rfl⟩
                have hb13 := bdrewN hb12 m13
                have il_13 := NumsAt.drewN il_12 m13
                go_wp2_with fail
                refine (mul_any _ _ _ _ _ _ _ _ _ (i0.below hb13) (i1.below hb13) rfl rfl (by omega) (by omega)).mono ?_
                rintro e u14 ⟨b14, c14, rfl, p_14, gb14, _⟩
                have il_14 := il_13.below gb14
                have hb14 := btrans hb13 gb14
                go_wp2_with fail
                refine (move_any _ _ _ _ _ _ _ _ _ p_14 il_14 rfl (by rw [hund.out]; exact hk2.out) (by omega) (by omega)).mono ?_
                rintro e u15 ⟨b15, c15, rfl, s_15, gb15, _⟩
                have il_15 := il_14.below gb15
                have hb15 := btrans hb14 gb15
                go_wp2_with fail
                refine (move_any _ _ _ _ _ _ _ _ _ (i0.below hb15) il_15 rfl (by rw [hund.out]; exact hk2.out) (by omega) (by omega)).mono ?_
                rintro e u16 ⟨b16, c16, rfl, p_16, gb16, _⟩
                have s_16 := s_15.below gb16
                have hb16 := btrans hb15 gb16
                go_wp2_with fail
                refine (move_any _ _ _ _ _ _ _ _ _ (i1.below hb16) p_16 rfl rfl (by omega) (by omega)).mono ?_
                rintro e u17 ⟨b17, c17, rfl, t_17, gb17, _⟩
                have s_17 := s_16.below gb17
                have hb17 := btrans hb16 gb17
                go_wp2_with fail
                refine (eq_same q4.out s_17 t_17 (by omega)).mono ?_
                rintro e u18 ⟨rfl, m18, rfl⟩
                have hb18 := bdrewN hb17 m18
                go_wp2_with fail
                refine (works_true _).mono ?_
                rintro e w' ⟨rfl, hbw⟩
                go_wp2
                go_ret
                exact ⟨rfl, btrans hb18 hbw⟩
          · have g4' : ((bs.length : Int) != (cs.length : Int)) = true := by simp; omega
            go_enter Try.func5, Try.ntmps5
            go_wp2_with fail
            refine (K0.out _ i0).mono ?_
            rintro e w' ⟨rfl, rfl⟩
            go_wp2_with fail
            refine (K1.out _ i1).mono ?_
            rintro e w' ⟨rfl, rfl⟩
            go_wp2_with fail
            refine (K2.out _ i2).mono ?_
            rintro e w' ⟨rfl, rfl⟩
            go_wp2_with fail
            refine (works_true _).mono ?_
            rintro e w' ⟨rfl, hb⟩
            go_wp2
            go_ret
            exact ⟨rfl, hb⟩
        · have g3' : ((as_.length : Int) != (bs.length : Int)) = true := by simp; omega
          go_enter Try.func5, Try.ntmps5
          go_wp2_with fail
          refine (K0.out _ i0).mono ?_
          rintro e w' ⟨rfl, rfl⟩
          go_wp2_with fail
          refine (K1.out _ i1).mono ?_
          rintro e w' ⟨rfl, rfl⟩
          go_wp2_with fail
          refine (K2.out _ i2).mono ?_
          rintro e w' ⟨rfl, rfl⟩
          go_wp2_with fail
          refine (works_true _).mono ?_
          rintro e w' ⟨rfl, hb⟩
          go_wp2
          go_ret
          exact ⟨rfl, hb⟩
      · have g' : Perm.okB cs = false := by simpa using g2
        rw [g'] at K2
        clear g2 g'
        go_enter Try.func5, Try.ntmps5
        go_wp2_with fail
        refine (K0.out _ i0).mono ?_
        rintro e w' ⟨rfl, rfl⟩
        go_wp2_with fail
        refine (K1.out _ i1).mono ?_
        rintro e w' ⟨rfl, rfl⟩
        go_wp2_with fail
        refine (K2.out _ i2).mono ?_
        rintro e w' ⟨rfl, rfl⟩
        go_wp2_with fail
        refine (works_true _).mono ?_
        rintro e w' ⟨rfl, hb⟩
        go_wp2
        go_ret
        exact ⟨rfl, hb⟩
    · have g' : Perm.okB bs = false := by simpa using g1
      rw [g'] at K1
      clear g1 g'
      go_enter Try.func5, Try.ntmps5
      go_wp2_with fail
      refine (K0.out _ i0).mono ?_
      rintro e w' ⟨rfl, rfl⟩
      go_wp2_with fail
      refine (K1.out _ i1).mono ?_
      rintro e w' ⟨rfl, rfl⟩
      go_wp2_with fail
      refine (works_true _).mono ?_
      rintro e w' ⟨rfl, hb⟩
      go_wp2
      go_ret
      exact ⟨rfl, hb⟩
  · have g' : Perm.okB as_ = false := by simpa using g0
    rw [g'] at K0
    clear g0 g'
    go_enter Try.func5, Try.ntmps5
    go_wp2_with fail
    refine (K0.out _ i0).mono ?_
    rintro e w' ⟨rfl, rfl⟩
    go_wp2_with fail
    refine (works_true _).mono ?_
    rintro e w' ⟨rfl, hb⟩
    go_wp2
    go_ret
    exact ⟨rfl, hb⟩
end Go.Proofs.Ytdjneckgckagdaa

