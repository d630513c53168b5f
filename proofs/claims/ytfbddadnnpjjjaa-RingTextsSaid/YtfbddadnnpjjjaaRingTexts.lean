/- The walk of 'RingTexts': true for every input. No conditions. -/
import Derived.Test.YtfbddadnnpjjjaaRingWorks
import Derived.Test.YtfbddadnnpjjjaaRingAllS
import Derived.Test.YtfbddadnnpjjjaaCollectS
namespace Go.Proofs.Ytfbddadnnpjjjaa
open Go.RowKit

theorem sall_any (w : World) (p : Option Addr) :
    Calls Try.prog 24 #[.pointer p] w fun e w' => e = .returned (.func (.func 35) #[] #[.pointer (some ⟨w.heap.size, 0, none⟩)]) ∧ w' = w.alloc (.cells #[.pointer p] 46) := by
  go_enter Try.func24, Try.ntmps24
  go_wp2
  go_ret
  exact ⟨rfl, rfl⟩
theorem stake_nth (ls : List ByteArray) (k : Nat) (h : k < ls.length) : ls.take k ++ [ls.getD k ⟨#[]⟩] = ls.take (k + 1) := by
  rw [List.take_succ_eq_append_getElem h]
  simp [List.getD, h]
theorem sdrop_nth (ls : List ByteArray) (k : Nat) (h : k < ls.length) : ls.drop k = ls.getD k ⟨#[]⟩ :: ls.drop (k + 1) := by
  rw [List.drop_eq_getElem_cons h]
  simp [List.getD, h]
set_option maxHeartbeats 4000000 in
theorem ringTexts_walk (W : World) (v1 : Value) (ls : List ByteArray) (h1 : rSl 1 16 rStr W [v1] ls) :
    Calls Try.prog 7 #[v1] W fun e w' => e = .returned (.bool true) ∧ Below W.heap.size W w' := by
  obtain ⟨a0, k0, rfl, i0⟩ := StrsAt.of_rSl h1
  clear h1
  obtain ⟨n, hn⟩ : ∃ n, n = ls.length := ⟨_, rfl⟩
  rw [← hn]
  by_cases g0 : 100 < n
  · have hg : decide ((100 : Int) < (n : Int)) = true := by simp; omega
    go_enter Try.func7, Try.ntmps7
    go_wp2_with (go_at_call 8; refine (works_true _).mono ?_; rintro e w' ⟨rfl, hb⟩)
    go_ret
    exact ⟨rfl, hb⟩
  have hg : decide ((100 : Int) < (n : Int)) = false := by simp; omega
  have hn2 : n ≤ 100 := by omega
  have N := Lib.hid (fun w => snew_any w n (by omega))
  replace hn := Lib.hid hn
  clear g0
  go_enter Try.func7, Try.ntmps7
  go_wp2_with fail
  refine (N.out _).mono ?_
  rintro e w1 ⟨rfl, hq1, hb1⟩
  clear N
  go_wp2_with fail
  go_loopw [2, 4] (fun r i wr => ∃ (k : Nat) (a : Option Addr) (c : Nat), k ≤ n ∧ r = .bool false ∧ i = .int .i64 k ∧ QSt wr W.heap.size W.heap.size n a c (ls.take k) ∧ Below W.heap.size W wr) (fun _ i _ => n - (intOf i).toNat)
  case atStart => exact ⟨0, none, 0, Nat.zero_le _, rfl, rfl, hq1, hb1⟩
  case round =>
    clear hq1 hb1
    obtain ⟨k, a, c, hk, rfl, rfl, hq, hb⟩ := hrel
    by_cases hlt : k < n
    · have hkl : k < ls.length := by have := hn.out; omega
      obtain ⟨b, off, rfl, ck⟩ := i0 k hkl
      obtain ⟨x, hx⟩ : ∃ x, x = ls.getD k ⟨#[]⟩ := ⟨_, rfl⟩
      rw [← hx] at ck
      have ckr := bcell hb ck
      by_cases hxs : 100 < x.size
      · have hd : decide ((100 : Int) < (x.size : Int)) = true := by simp; omega
        clear hq
        replace hx := Lib.hid hx
        go_wp2_with (go_at_call 8; refine (works_true _).mono ?_; rintro e w' ⟨rfl, hb'⟩)
        go_ret
        exact ⟨rfl, btrans hb (by assumption)⟩
      · have hd : decide ((100 : Int) < (x.size : Int)) = false := by simp; omega
        have hl := Lib.hid (show (ls.take k).length = k by simp; omega)
        have P := sput_yes wr _ _ _ _ _ _ hq (by rw [hl.out]; omega) (by rw [hl.out]; omega) x
        have e1 := stake_nth ls k hkl
        rw [← hx] at e1
        rw [e1] at P
        replace P := Lib.hid P
        replace hx := Lib.hid hx
        clear e1 hkl
        go_wp2_with fail
        refine P.out.mono ?_
        rintro e w5 ⟨a5, c5, rfl, hq5, ht5⟩
        have hb5 := ht5.belowS hq hb (Nat.le_refl _)
        clear hq hb ht5 P ckr hd hxs
        replace hq5 := Lib.hid hq5
        go_wp2
        go_roundw
        case rel => exact ⟨k + 1, a5, c5, by omega, rfl, by go_num, hq5.out, hb5⟩
        case measure => simp [intOf]; omega
    · obtain rfl : k = n := by omega
      rw [show ls.take k = ls from List.take_of_length_le (by have := hn.out; omega)] at hq
      have hbx : Below wr.heap.size wr (wr.alloc (.cells #[.pointer (some ⟨W.heap.size, 0, none⟩)] 46)) := balloc (Below.refl _ _) _
      have hs := sall1_seq _ W.heap.size W.heap.size wr.heap.size k a c ls (hq.below hbx) (by have := hn.out; omega) (Boxed.new wr _ _).cell
      have C := Lib.hid (collectS _ _ 35 _ (fun _ _ _ => True) (fun ys => ys = ls) _ ls.length (Nat.le_refl _) (by have := hn.out; omega) (enters_of Try.func35 (by kernel_rfl) rfl) (fun _ _ _ _ _ _ _ _ h => h) hs (fun ys e => by rw [e]; exact Nat.le_refl _) (fun _ _ => True) (fun _ _ _ _ _ _ _ _ _ => trivial) trivial (fun _ _ _ _ _ _ _ => trivial))
      have eq0 : ∀ W' : World, (binOp .eql 50 (.func (.func 35) #[] #[.pointer (some ⟨wr.heap.size, 0, none⟩)]) .nilFunc).run Try.prog W' = .ok (.bool false) W' := fun W' => by kernel_rfl
      clear hs hlt
      go_wp2_with fail
      refine (sall_any _ _).mono ?_
      rintro e w2 ⟨rfl, rfl⟩
      go_wp2_with fail
      refine C.out.mono ?_
      rintro e w3 ⟨a3, c3, ys, rfl, rfl, h3, hb3, _⟩
      rw [← hn.out] at h3 ⊢
      have hb3r := btrans hbx hb3
      have hq3 := hq.below hb3r
      have hbw3 := btrans hb hb3r
      have E := Lib.hid (seq_same w3 a3 a0 k c3 k0 ys (StrsAt.of_own h3) (i0.below hbw3) hn.out (by omega))
      clear C eq0 hbx hq hb hb3 hb3r h3
      go_wp2_with fail
      refine E.out.mono ?_
      rintro e w4 ⟨rfl, hk4⟩
      have hq4 := hq3.below (hk4.below _)
      have hbw4 := hbw3.trans (hk4.below _)
      have F := slen_any w4 _ _ _ _ _ _ hq4
      rw [← hn.out] at F
      replace F := Lib.hid F
      clear E hq3 hbw3 hk4
      go_wp2_with fail
      refine F.out.mono ?_
      rintro e w5 ⟨rfl, rfl⟩
      clear F
      go_wp2_with fail
      go_loopw [2, 6] (fun r i wr => ∃ (j : Nat) (a : Option Addr) (c : Nat), j ≤ k ∧ r = .bool false ∧ i = .int .i64 j ∧ QSt wr W.heap.size W.heap.size k a c (ys.drop j) ∧ Below W.heap.size W wr) (fun _ i _ => k - (intOf i).toNat)
      case atStart => exact ⟨0, _, _, Nat.zero_le _, rfl, rfl, hq4, hbw4⟩
      case round =>
        clear hq4 hbw4
        obtain ⟨j, a, c, hj, rfl, rfl, hq, hb⟩ := hrel
        by_cases hlt : j < k
        · have hkl : j < ys.length := by have := hn.out; omega
          obtain ⟨b, off, rfl, ck⟩ := i0 j hkl
          obtain ⟨x, hx⟩ : ∃ x, x = ys.getD j ⟨#[]⟩ := ⟨_, rfl⟩
          rw [← hx] at ck
          have e1 := sdrop_nth ys j hkl
          rw [← hx] at e1
          rw [e1] at hq
          have T := Lib.hid (stake_yes _ _ _ _ _ _ _ _ hq (by have := hn.out; simp; omega))
          have hql := Lib.hid hq
          replace hx := Lib.hid hx
          clear e1 hkl
          go_wp2_with fail
          refine T.out.mono ?_
          rintro e w5 ⟨a5, c5, rfl, hq5, ht5⟩
          have hb5 := Keeps.belowS ht5 hq hb (Nat.le_refl _)
          have ckr := bcell hb5 ck
          clear hq hql hb ht5 T ck
          replace hq5 := Lib.hid hq5
          go_wp2
          go_roundw
          case rel => exact ⟨j + 1, a5, c5, by omega, rfl, by go_num, hq5.out, hb5⟩
          case measure => simp [intOf]; omega
        · obtain rfl : j = k := by omega
          rw [show ys.drop j = [] from List.drop_of_length_le (by have := hn.out; omega)] at hq
          have T := Lib.hid (stake_no _ _ _ _ _ _ hq)
          clear hq
          go_wp2_with fail
          refine T.out.mono ?_
          rintro e w5 ⟨rfl, rfl⟩
          go_wp2_with fail
          refine (works_true _).mono ?_
          rintro e w6 ⟨rfl, hb6⟩
          go_wp2
          go_ret
          exact ⟨rfl, btrans hb hb6⟩
end Go.Proofs.Ytfbddadnnpjjjaa
