/- The walks of layer octet's laws. No conditions but the form's reach. -/
import Derived.Test.YtpnkfhfaoomdpaaOctetWorks
import Derived.Deep.RegionWith
namespace Go.Proofs.Ytpnkfhfaoomdpaa
open Go.RowKit

theorem eqb_yes {w : World} {a b : Option Addr} {l : List Int} {c0 c1 : Nat} (h0 : NumsAt .u8 w a l) (h1 : NumsAt .u8 w b l) (hl : l.length ≤ 9223372036854775807) :
    Calls Try.prog 12 #[.slice a l.length c0, .slice b l.length c1] w fun e w' => e = .returned (.bool true) ∧ Quiet w w' := by
  have := eq_bytes w a b l.length c0 l.length c1 l l h0 h1 rfl rfl hl hl
  rwa [decide_eq_true rfl] at this

set_option maxHeartbeats 8000000 in
theorem octetPuts_walk (W : World) (v0 : Value) (bs : List Int) (h0 : rSl 1 1 (rInt .u8) W [v0] bs) (n : Int) (hn : -9223372036854775808 ≤ n ∧ n ≤ 9223372036854775807) (v2 : Value) (l : List Int) (h2 : rSl 1 8 (rInt .i64) W [v2] l) :
    Calls Try.prog 4 #[v0, .int .i64 n, v2] W fun e w' => e = .returned (.bool true) ∧ Below W.heap.size W w' := by
  obtain ⟨a0, k0, rfl, l0, lc, i0, r0⟩ := NumsAt.of_rSl h0
  obtain ⟨a2, k2, rfl, l2, _, i2, r2⟩ := NumsAt.of_rSl h2
  clear h0 h2
  by_cases g0 : 300 < bs.length
  · have g0' : (300 : Int) < (bs.length : Int) := by omega
    go_enter Try.func4, Try.ntmps4
    go_wp2_with (go_at_call 10; refine (works_true _).mono ?_; rintro e w' ⟨rfl, hb⟩)
    go_ret
    exact ⟨rfl, by assumption⟩
  have g0' : decide ((300 : Int) < (bs.length : Int)) = false := by simp; omega
  by_cases g1 : 60 < l.length
  · have g1' : (60 : Int) < (l.length : Int) := by omega
    go_enter Try.func4, Try.ntmps4
    go_wp2_with (go_at_call 10; refine (works_true _).mono ?_; rintro e w' ⟨rfl, hb⟩)
    go_ret
    exact ⟨rfl, by assumption⟩
  have g1' : decide ((60 : Int) < (l.length : Int)) = false := by simp; omega
  have st_size := str_size bs
  have one1 := Octet.one_len hn
  have one2 := Octet.one_len (n := (l.length : Int)) (by omega)
  have one3 := Octet.one_len (n := (bs.length : Int)) (by omega)
  have one4 := Octet.ones_len (l := l) (fun x hx => range_i64 (r2.out x hx))
  have zA : (bs ++ Octet.one n).length ≤ 9223372036854775807 := by rw [List.length_append]; omega
  have zB : (bs ++ Octet.one l.length ++ Octet.ones l).length ≤ 9223372036854775807 := by rw [List.length_append, List.length_append]; omega
  have zC : (bs ++ Octet.one (strOfNums bs).size ++ txt (strOfNums bs)).length ≤ 9223372036854775807 := by rw [List.length_append, List.length_append, txt_len, st_size]; omega
  have ON := Lib.hid (fun w' h => onum_any w' a0 bs.length k0 bs h rfl (by omega) n hn)
  have RN := Lib.hid (fun w' h => rnum_any w' a0 bs.length k0 bs h rfl (by omega) n hn)
  have OL := Lib.hid (fun w' h h' => olist_any w' a0 bs.length k0 bs h rfl (by omega) a2 l.length k2 l h' rfl (by omega) r2)
  have RL := Lib.hid (fun w' h h' => rlist_any w' a0 bs.length k0 bs h rfl (by omega) a2 l.length k2 l h' rfl (by omega) r2)
  have OT := Lib.hid (fun w' h => otext_any w' a0 bs.length k0 bs h rfl (by omega) (strOfNums bs) (by omega))
  have RT := Lib.hid (fun w' h => rtext_any w' a0 bs.length k0 bs h rfl (by omega) (strOfNums bs) (by omega))
  have CV := Lib.hid (fun w' h => conv_run (P := Try.prog) (w := w') (src := 25) (dst := 9) (e := 5) (a := a0) (len := bs.length) (cap := k0) (xs := bs) Try.underlying25 Try.underlying5 Try.underlying9 h rfl)
  clear st_size one1 one2 one3 one4
  generalize bs ++ Octet.one n = lA at ON RN zA
  generalize bs ++ Octet.one l.length ++ Octet.ones l = lB at OL RL zB
  generalize bs ++ Octet.one (strOfNums bs).size ++ txt (strOfNums bs) = lC at OT RT zC
  have zA := Lib.hid zA
  have zB := Lib.hid zB
  have zC := Lib.hid zC
  go_enter Try.func4, Try.ntmps4
  go_wp2
  go_region_with (first
    | (go_at_call 13; refine (ON.out _ (i0.drewN 1)).mono ?_; rintro e w1 ⟨b1, c1, rfl, ho1, hb1⟩; have h1 := NumsAt.of_owns ho1; have hb1 := btrans (Below.refl _ W).drew hb1)
    | (go_at_call 14; refine (RN.out _ (i0.below hb1)).mono ?_; rintro e w2 ⟨b2, c2, rfl, ho2, hb2⟩; have h2 := NumsAt.of_owns ho2; have h1 := h1.below hb2; have hb2 := btrans hb1 hb2)
    | (go_at_call 12; refine (eqb_yes h7 h8 zC.out).mono ?_; rintro e w9 ⟨rfl, m9, rfl⟩; have hb9 := bdrewN hb8 m9)
    | (go_at_call 11; refine (OL.out _ (i0.below hb3) (i2.below hb3)).mono ?_; rintro e w4 ⟨b4, c4, rfl, h4, hb4, _⟩; have hb4 := btrans hb3 hb4)
    | (go_at_call 15; refine (RL.out _ (i0.below hb4) (i2.below hb4)).mono ?_; rintro e w5 ⟨b5, c5, rfl, h5, hb5, _⟩; have h4 := h4.below hb5; have hb5 := btrans hb4 hb5)
    | (go_at_call 12; refine (eqb_yes h4 h5 zB.out).mono ?_; rintro e w6 ⟨rfl, m6, rfl⟩; have hb6 := bdrewN hb5 m6; have cv6 := CV.out _ (i0.below hb6))
    | (go_at_call 16; refine (OT.out _ (i0.below hb6)).mono ?_; rintro e w7 ⟨b7, c7, rfl, ho7, hb7⟩; have h7 := NumsAt.of_owns ho7; have hb7 := btrans hb6 hb7; have cv7 := CV.out _ (i0.below hb7))
    | (go_at_call 17; refine (RT.out _ (i0.below hb7)).mono ?_; rintro e w8 ⟨b8, c8, rfl, ho8, hb8⟩; have h8 := NumsAt.of_owns ho8; have h7 := h7.below hb8; have hb8 := btrans hb7 hb8)
    | (go_at_call 12; refine (eqb_yes h1 h2 zA.out).mono ?_; rintro e w3 ⟨rfl, m3, rfl⟩; have hb3 := bdrewN hb2 m3)
    | (go_at_call 10; refine (works_true _).mono ?_; rintro e w10 ⟨rfl, hb10⟩; have hb10 := btrans hb9 hb10))
  all_goals (
    go_wp2
    go_ret
    exact ⟨rfl, by assumption⟩)
end Go.Proofs.Ytpnkfhfaoomdpaa
