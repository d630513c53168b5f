/- The walk of layer octet's law on two lists. No conditions but the form's reach. -/
import Derived.Test.YtpnkfhfaoomdpaaOctetWorks
import Derived.Test.YtpnkfhfaoomdpaaOctetApartPlain
import Derived.Test.YtpnkfhfaoomdpaaEqNums
import Derived.Deep.RegionWith
namespace Go.Proofs.Ytpnkfhfaoomdpaa
open Go.RowKit

set_option maxHeartbeats 2000000 in
theorem octetApart_walk (W : World) (v0 : Value) (l : List Int) (h0 : rSl 1 8 (rInt .i64) W [v0] l) (v1 : Value) (k : List Int) (h1 : rSl 1 8 (rInt .i64) W [v1] k) :
    Calls Try.prog 3 #[v0, v1] W fun e w' => e = .returned (.bool true) ∧ Below W.heap.size W w' := by
  obtain ⟨a0, k0, rfl, l0, lc0, i0, r0⟩ := NumsAt.of_rSl h0
  obtain ⟨a1, k1, rfl, l1, lc1, i1, r1⟩ := NumsAt.of_rSl h1
  clear h0 h1
  by_cases g0 : 60 < l.length
  · have g0' : (60 : Int) < (l.length : Int) := by omega
    go_enter Try.func3, Try.ntmps3
    go_wp2_with (go_at_call 10; refine (works_true _).mono ?_; rintro e w' ⟨rfl, hb⟩)
    go_ret
    exact ⟨rfl, by assumption⟩
  have g0' : decide ((60 : Int) < (l.length : Int)) = false := by simp; omega
  by_cases g1 : 60 < k.length
  · have g1' : (60 : Int) < (k.length : Int) := by omega
    go_enter Try.func3, Try.ntmps3
    go_wp2_with (go_at_call 10; refine (works_true _).mono ?_; rintro e w' ⟨rfl, hb⟩)
    go_ret
    exact ⟨rfl, by assumption⟩
  have g1' : decide ((60 : Int) < (k.length : Int)) = false := by simp; omega
  have E := eq_ints W a0 a1 l.length k0 k.length k1 l k i0 i1 rfl rfl (by omega) (by omega)
  by_cases hlk : l = k
  · rw [decide_eq_true hlk] at E
    have EE := Lib.hid E
    clear E hlk
    go_enter Try.func3, Try.ntmps3
    go_wp2_with fail
    refine EE.out.mono ?_
    rintro e w1 ⟨rfl, m, rfl⟩
    go_wp2_with (go_at_call 10; refine (works_true _).mono ?_; rintro e w' ⟨rfl, hb⟩)
    go_ret
    exact ⟨rfl, btrans (bdrewN (Below.refl _ W) m) hb⟩
  rw [decide_eq_false hlk] at E
  have EE := Lib.hid E
  have one2 := Octet.one_len (n := (l.length : Int)) (by omega)
  have one4 := Octet.ones_len (l := l) (fun x hx => range_i64 (r0.out x hx))
  have one3 := Octet.one_len (n := (k.length : Int)) (by omega)
  have one5 := Octet.ones_len (l := k) (fun x hx => range_i64 (r1.out x hx))
  have zA : ([] ++ Octet.one l.length ++ Octet.ones l).length ≤ 1000 := by simp; omega
  have zB : ([] ++ Octet.one k.length ++ Octet.ones k).length ≤ 1000 := by simp; omega
  have D := Lib.hid (Octet.lst_apart hlk)
  unfold Octet.lst at D
  have OL := Lib.hid (fun w' h => olist_any w' none 0 0 [] (NumsAt.nil _ _ _) rfl (by omega) a0 l.length k0 l h rfl (by omega) r0)
  have OK := Lib.hid (fun w' h => olist_any w' none 0 0 [] (NumsAt.nil _ _ _) rfl (by omega) a1 k.length k1 k h rfl (by omega) r1)
  generalize [] ++ Octet.one l.length ++ Octet.ones l = A at OL zA D
  generalize [] ++ Octet.one k.length ++ Octet.ones k = B at OK zB D
  obtain ⟨n, hn⟩ : ∃ n, n = min A.length B.length := ⟨_, rfl⟩
  rw [← hn] at D
  have EQ := fun w' b b' c c' h h' => eq_bytes w' b b' n c n c' (A.take n) (B.take n) h h' (by rw [List.length_take]; omega) (by rw [List.length_take]; omega) (by omega) (by omega)
  rw [decide_eq_false D.out] at EQ
  have EQ := Lib.hid EQ
  clear E hlk one2 one3 one4 one5
  have main : ∀ (H : (A.length ≤ B.length ∧ n = A.length) ∨ (B.length < A.length ∧ n = B.length)), Calls Try.prog 3 #[.slice a0 l.length k0, .slice a1 k.length k1] W fun e w' => e = .returned (.bool true) ∧ Below W.heap.size W w' := by
    intro H
    clear hn
    rcases H with ⟨hle, rfl⟩ | ⟨hle, rfl⟩
    · have hle' : (A.length : Int) ≤ (B.length : Int) := by omega
      go_enter Try.func3, Try.ntmps3
      go_wp2_with fail
      refine EE.out.mono ?_
      rintro e w1 ⟨rfl, m, rfl⟩
      go_wp2_with fail
      refine (OL.out _ (i0.drewN m)).mono ?_
      rintro e w2 ⟨b2, c2, rfl, h2, hb2, hc2⟩
      have hb2 := btrans (bdrewN (Below.refl _ W) m) hb2
      go_wp2_with fail
      refine (OK.out _ (i1.below hb2)).mono ?_
      rintro e w3 ⟨b3, c3, rfl, h3, hb3, hc3⟩
      have h2 := h2.below hb3
      have hb3 := btrans hb2 hb3
      have hs1 := fun w => run_cut_h (P := Try.prog) Try.underlying25 Try.sizeByte b2 A.length c2 _ (kh := .i64) (H := (A.length : Int)) rfl (by omega) w
      have hs2 := fun w => run_cut_h (P := Try.prog) Try.underlying25 Try.sizeByte b3 B.length c3 _ (kh := .i64) (H := (A.length : Int)) rfl (by omega) w
      go_wp2
      go_region_with (first
        | (go_at_call 12; refine (EQ.out _ _ _ _ _ ((h2.upto _).drewN 1) ((h3.upto _).drewN 1)).mono ?_; rintro e w4 ⟨rfl, m4, rfl⟩; have hb4 := bdrewN hb3 (1 + m4))
        | (go_at_call 10; refine (works_true _).mono ?_; rintro e w10 ⟨rfl, hb10⟩; have hb10 := btrans hb4 hb10))
      all_goals (
        go_wp2
        go_ret
        exact ⟨rfl, by assumption⟩)
    · have hle' : decide ((A.length : Int) ≤ (B.length : Int)) = false := by simp; omega
      go_enter Try.func3, Try.ntmps3
      go_wp2_with fail
      refine EE.out.mono ?_
      rintro e w1 ⟨rfl, m, rfl⟩
      go_wp2_with fail
      refine (OL.out _ (i0.drewN m)).mono ?_
      rintro e w2 ⟨b2, c2, rfl, h2, hb2, hc2⟩
      have hb2 := btrans (bdrewN (Below.refl _ W) m) hb2
      go_wp2_with fail
      refine (OK.out _ (i1.below hb2)).mono ?_
      rintro e w3 ⟨b3, c3, rfl, h3, hb3, hc3⟩
      have h2 := h2.below hb3
      have hb3 := btrans hb2 hb3
      have hs1 := fun w => run_cut_h (P := Try.prog) Try.underlying25 Try.sizeByte b2 A.length c2 _ (kh := .i64) (H := (B.length : Int)) rfl (by omega) w
      have hs2 := fun w => run_cut_h (P := Try.prog) Try.underlying25 Try.sizeByte b3 B.length c3 _ (kh := .i64) (H := (B.length : Int)) rfl (by omega) w
      go_wp2
      go_region_with (first
        | (go_at_call 12; refine (EQ.out _ _ _ _ _ ((h2.upto _).drewN 1) ((h3.upto _).drewN 1)).mono ?_; rintro e w4 ⟨rfl, m4, rfl⟩; have hb4 := bdrewN hb3 (1 + m4))
        | (go_at_call 10; refine (works_true _).mono ?_; rintro e w10 ⟨rfl, hb10⟩; have hb10 := btrans hb4 hb10))
      all_goals (
        go_wp2
        go_ret
        exact ⟨rfl, by assumption⟩)
  exact main (by omega)
end Go.Proofs.Ytpnkfhfaoomdpaa
