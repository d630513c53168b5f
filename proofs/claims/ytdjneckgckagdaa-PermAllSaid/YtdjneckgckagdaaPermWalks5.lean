/- The walks of layer perm's calls, fifth part: how often a permutation takes; the chapter's examples. Conditions: lengths within int. -/
import Derived.Test.YtdjneckgckagdaaPermWalks4
namespace Go.Proofs.Ytdjneckgckagdaa
open Go.RowKit

theorem pw_next {p : List Int} (h : Perm.Ok p) (k : Nat) : Perm.mul (Perm.pw p k) p = Perm.pw p (k + 1) := Perm.mul_of (Perm.pw_ok h k).1 h (Perm.pw_ok h k).2
theorem ord_stop {p : List Int} (h : Perm.Ok p) {k : Nat} (hs : Perm.ordFrom p 840 0 = Perm.ordFrom p (840 - k) k) (he : Perm.pw p k = Perm.idl p.length) : Perm.ord p = (k : Int) + 1 := by
  rw [Perm.ord_yes h, hs, Perm.ordFrom_stop he]
theorem ord_next {p : List Int} {k : Nat} (hk : k < 840) (hs : Perm.ordFrom p 840 0 = Perm.ordFrom p (840 - k) k) (he : ¬ Perm.pw p k = Perm.idl p.length) : Perm.ordFrom p 840 0 = Perm.ordFrom p (840 - (k + 1)) (k + 1) := by
  rw [hs, show 840 - k = (840 - (k + 1)) + 1 by omega, Perm.ordFrom_go he]
theorem ord_small {p : List Int} (h : Perm.Ok p) {k : Nat} (hk : k ≤ 839) (he : ¬ Perm.pw p k = Perm.idl p.length) : k < 839 := by
  rcases Nat.lt_or_ge k 839 with h1 | h1
  · exact h1
  · obtain rfl : k = 839 := by omega
    exact absurd (Perm.pw_840 h) he

theorem order_any (w : World) (a1 : Option Addr) (n1 c1 : Nat) (xs : List Int) (h1 : NumsAt .i64 w a1 xs) (hn1 : n1 = xs.length) (b1 : n1 ≤ 9223372036854775807) :
    Calls Try.prog 18 #[.slice a1 n1 c1] w fun e w' => e = .returned (.int .i64 (Perm.ord xs)) ∧ Below w.heap.size w w' := by
  subst hn1
  have C1 := Lib.hid (fun w' h => check_any w' a1 xs.length c1 xs h rfl b1)
  by_cases hx : Perm.okB xs = true
  · have oX := Lib.hid ((Perm.okB_iff xs).1 hx)
    rw [hx] at C1
    clear hx
    have h8 : xs.length ≤ 8 := oX.out.small
    have hi := Lib.hid (idS_yes h8)
    have C2 := Lib.hid (fun w' h => clone_ints w' a1 xs.length c1 xs h rfl (by omega))
    go_enter Try.func18, Try.ntmps18
    go_wp2_with fail
    refine (C1.out _ h1).mono ?_
    rintro e w1 ⟨rfl, hb⟩
    go_wp2_with fail
    refine (id_any _ _).mono ?_
    rintro e w2 ⟨a2, c2, he, h2, hb2, _⟩
    rw [hi.out] at he h2
    rw [Perm.idl_length] at he
    subst he
    have hb3 := btrans hb hb2
    clear hb hb2
    go_wp2_with fail
    refine (C2.out _ (h1.below hb3)).mono ?_
    rintro e w3 ⟨a3, c3, rfl, h3, hb4, _⟩
    have h2' := h2.below hb4
    have hb5 := btrans hb3 hb4
    have h1' := h1.below hb5
    clear hb3 hb4 h2
    go_wp2
    go_loopw [4, 5] (fun q v wr => ∃ (k : Nat) (a : Option Addr) (cap : Nat), k ≤ 839 ∧ v = .int .i64 ((k : Int) + 1) ∧ q = .slice a xs.length cap ∧ NumsAt .i64 wr a (Perm.pw xs k) ∧ Below w3.heap.size w3 wr ∧ Hid (Perm.ordFrom xs 840 0 = Perm.ordFrom xs (840 - k) k)) (fun _ v _ => (840 - intOf v).toNat)
    case atStart => exact ⟨0, a3, c3, by omega, rfl, rfl, h3, Below.refl _ _, rfl⟩
    case round =>
      obtain ⟨k, a, cap, hk, rfl, rfl, hq, hbr, hs⟩ := hrel
      have hlen := Lib.hid (Perm.pw_ok oX.out k).2
      obtain ⟨eq, heq⟩ : ∃ eq, eq = decide (Perm.pw xs k = Perm.idl xs.length) := ⟨_, rfl⟩
      have E := eq_ints wr a a2 xs.length cap xs.length c2 (Perm.pw xs k) (Perm.idl xs.length) hq (h2'.below hbr) hlen.out.symm (Perm.idl_length _).symm b1 b1
      rw [← heq] at E
      have EE := Lib.hid E
      have HQ := Lib.hid heq
      clear E heq
      cases eq with
      | true =>
        go_wp2_with fail
        refine EE.out.mono ?_
        rintro e w9 ⟨rfl, m, rfl⟩
        go_wp2
        go_ret
        exact ⟨ret_int (ord_stop oX.out hs.out (of_decide_eq_true HQ.out.symm)).symm, bdrewN (btrans hb5 hbr) _⟩
      | false =>
        have hne := Lib.hid (of_decide_eq_false HQ.out.symm)
        have hk2 := ord_small oX.out hk hne.out
        have M := Lib.hid (fun w' h h' => mul_any w' a a1 xs.length cap xs.length c1 (Perm.pw xs k) xs h h' hlen.out.symm rfl b1 b1)
        rw [pw_next oX.out k] at M
        have hlen2 := Lib.hid (Perm.pw_ok oX.out (k + 1)).2
        go_wp2_with fail
        refine EE.out.mono ?_
        rintro e w9 ⟨rfl, m, rfl⟩
        go_wp2_with fail
        refine (M.out _ (hq.drewN m) ((h1'.below hbr).drewN m)).mono ?_
        rintro e w10 ⟨a4, c4, he, h4, hb6, _⟩
        rw [hlen2.out] at he
        subst he
        have hb7 := btrans (bdrewN hbr m) hb6
        clear hb6
        go_wp2
        go_roundw
        case rel => exact ⟨k + 1, a4, c4, by omega, by go_num, rfl, h4, hb7, ord_next (by omega) hs.out hne.out⟩
        case measure => simp [intOf]; omega
  · have hx' : Perm.okB xs = false := by simpa using hx
    have hf := Lib.hid (Perm.ord_no hx')
    rw [hx'] at C1
    clear hx hx'
    go_enter Try.func18, Try.ntmps18
    go_wp2_with fail
    refine (C1.out _ h1).mono ?_
    rintro e w1 ⟨rfl, hb⟩
    go_wp2
    go_ret
    exact ⟨ret_int hf.out.symm, hb⟩

theorem rorder_any (w : World) (a1 : Option Addr) (n1 c1 : Nat) (xs : List Int) (h1 : NumsAt .i64 w a1 xs) (hn1 : n1 = xs.length) (b1 : n1 ≤ 9223372036854775807) :
    Calls Try.prog 19 #[.slice a1 n1 c1] w fun e w' => e = .returned (.int .i64 (Perm.ord xs)) ∧ Below w.heap.size w w' := by
  subst hn1
  have C1 := Lib.hid (fun w' h => rcheck_any w' a1 xs.length c1 xs h rfl b1)
  by_cases hx : Perm.okB xs = true
  · have oX := Lib.hid ((Perm.okB_iff xs).1 hx)
    rw [hx] at C1
    clear hx
    have h8 : xs.length ≤ 8 := oX.out.small
    go_enter Try.func19, Try.ntmps19
    go_wp2_with fail
    refine (C1.out _ h1).mono ?_
    rintro e w1 ⟨rfl, rfl⟩
    go_wp2
    go_loopw [3, 4] (fun v q wr => ∃ (k : Nat) (a : Option Addr) (cap : Nat), k ≤ 839 ∧ v = .int .i64 ((k : Int) + 1) ∧ q = .slice a xs.length cap ∧ NumsAt .i64 wr a (Perm.pw xs k) ∧ Below w.heap.size w wr ∧ Hid (Perm.ordFrom xs 840 0 = Perm.ordFrom xs (840 - k) k)) (fun v _ _ => (840 - intOf v).toNat)
    case atStart => exact ⟨0, a1, c1, by omega, rfl, rfl, h1, Below.refl _ _, rfl⟩
    case round =>
      obtain ⟨k, a, cap, hk, rfl, rfl, hq, hbr, hs⟩ := hrel
      have hlen := Lib.hid (Perm.pw_ok oX.out k).2
      obtain ⟨eq, heq⟩ : ∃ eq, eq = decide (Perm.pw xs k = Perm.idl xs.length) := ⟨_, rfl⟩
      have E := moves_any wr a xs.length cap (Perm.pw xs k) hq hlen.out.symm b1
      rw [hlen.out, ← heq] at E
      have EE := Lib.hid E
      have HQ := Lib.hid heq
      clear E heq
      cases eq with
      | true =>
        go_wp2_with fail
        refine EE.out.mono ?_
        rintro e w9 ⟨rfl, rfl⟩
        go_wp2
        go_ret
        exact ⟨ret_int (ord_stop oX.out hs.out (of_decide_eq_true HQ.out.symm)).symm, hbr⟩
      | false =>
        have hne := Lib.hid (of_decide_eq_false HQ.out.symm)
        have hk2 := ord_small oX.out hk hne.out
        have M := Lib.hid (fun w' h h' => rmul_any w' a a1 xs.length cap xs.length c1 (Perm.pw xs k) xs h h' hlen.out.symm rfl b1 b1)
        rw [pw_next oX.out k] at M
        have hlen2 := Lib.hid (Perm.pw_ok oX.out (k + 1)).2
        go_wp2_with fail
        refine EE.out.mono ?_
        rintro e w9 ⟨rfl, rfl⟩
        go_wp2_with fail
        refine (M.out _ hq (h1.below hbr)).mono ?_
        rintro e w10 ⟨a4, c4, he, h4, hb6, _⟩
        rw [hlen2.out] at he
        subst he
        have hb7 := btrans hbr hb6
        clear hb6
        go_wp2
        go_roundw
        case rel => exact ⟨k + 1, a4, c4, by omega, by go_num, rfl, h4, hb7, ord_next (by omega) hs.out hne.out⟩
        case measure => simp [intOf]; omega
  · have hx' : Perm.okB xs = false := by simpa using hx
    have hf := Lib.hid (Perm.ord_no hx')
    rw [hx'] at C1
    clear hx hx'
    go_enter Try.func19, Try.ntmps19
    go_wp2_with fail
    refine (C1.out _ h1).mono ?_
    rintro e w1 ⟨rfl, rfl⟩
    go_wp2
    go_ret
    exact ⟨ret_int hf.out.symm, Below.refl _ _⟩

/-! the chapter's examples -/
theorem ex_mul : Perm.mul [1, 2, 0] [0, 2, 1] = [2, 1, 0] := by decide
theorem ex_rank : Perm.rank [1, 0, 2] = 2 := by decide
theorem ex_rank0 : Perm.rank [] = 0 := by decide
theorem ex_ord : Perm.ord [1, 2, 0] = 3 := by
  have ok : Perm.Ok [1, 2, 0] := (Perm.okB_iff _).1 (by decide)
  have h0 : ¬ Perm.pw [1, 2, 0] 0 = Perm.idl [(1 : Int), 2, 0].length := by decide
  have h1 : ¬ Perm.pw [1, 2, 0] 1 = Perm.idl [(1 : Int), 2, 0].length := by decide
  have h2 : Perm.pw [1, 2, 0] 2 = Perm.idl [(1 : Int), 2, 0].length := by decide
  exact ord_stop ok (ord_next (by omega) (ord_next (by omega) rfl h0) h1) h2
theorem ex_ok : Perm.okB [1, 1] = false := by decide

theorem works_true (w : World) : Calls Try.prog 8 #[] w fun e w' => e = .returned (.bool true) ∧ Below w.heap.size w w' := by
  have M := Lib.hid (fun w' a b c d h h' => mul_any w' a b 3 c 3 d [1, 2, 0] [0, 2, 1] h h' rfl rfl (by omega) (by omega))
  rw [ex_mul] at M
  have E := fun w' a b c d h h' => eq_ints w' a b 3 c 3 d [2, 1, 0] [2, 1, 0] h h' rfl rfl (by omega) (by omega)
  rw [decide_eq_true rfl] at E
  have EE := Lib.hid E
  have R := Lib.hid (fun w' a c h hc => prank_any w' a 3 c [1, 0, 2] h rfl (by omega) hc)
  rw [ex_rank] at R
  have O := Lib.hid (fun w' a c h => order_any w' a 3 c [1, 2, 0] h rfl (by omega))
  rw [ex_ord] at O
  have R0 := Lib.hid (fun w' a c h hc => prank_any w' a 0 c [] h rfl (by omega) hc)
  rw [ex_rank0] at R0
  have K := Lib.hid (fun w' a c h => check_any w' a 2 c [1, 1] h rfl (by omega))
  rw [ex_ok] at K
  clear E
  go_enter Try.func8, Try.ntmps8
  go_wp2_with fail
  refine (M.out _ _ _ _ _ ((nums_new rfl _ _ rfl).alloc _) (nums_new (by simp) _ _ rfl)).mono ?_
  rintro e w1 ⟨a1, c1, rfl, h1, hb1, _⟩
  have hb1 := btrans (balloc (balloc (Below.refl w.heap.size w) _) _) hb1
  go_wp2_with fail
  refine (EE.out _ _ _ _ _ (h1.alloc _) (nums_new rfl _ _ rfl)).mono ?_
  rintro e w2 ⟨rfl, m, rfl⟩
  have hb2 := bdrewN (balloc hb1 (.cells #[.int .i64 2, .int .i64 1, .int .i64 0] 3)) m
  go_wp2_with fail
  refine (R.out _ _ _ (nums_new (by simp) _ _ rfl) (by omega)).mono ?_
  rintro e w3 ⟨rfl, hb3⟩
  have hb3 := btrans (balloc hb2 (.cells #[.int .i64 1, .int .i64 0, .int .i64 2] 3)) hb3
  go_wp2_with fail
  refine (O.out _ _ _ (nums_new rfl _ _ rfl)).mono ?_
  rintro e w4 ⟨rfl, hb4⟩
  have hb4 := btrans (balloc hb3 _) hb4
  go_wp2_with fail
  refine (R0.out _ _ _ (NumsAt.nil _ _ _) (by omega)).mono ?_
  rintro e w5 ⟨rfl, hb5⟩
  have hb5 := btrans hb4 hb5
  go_wp2_with fail
  refine (K.out _ _ _ (nums_new rfl _ _ rfl)).mono ?_
  rintro e w6 ⟨rfl, hb6⟩
  go_wp2
  go_ret
  exact ⟨rfl, btrans (balloc hb5 _) hb6⟩
end Go.Proofs.Ytdjneckgckagdaa
