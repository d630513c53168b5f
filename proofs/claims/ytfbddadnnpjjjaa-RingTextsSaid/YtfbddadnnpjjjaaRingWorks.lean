/- The chapter's example. No conditions. -/
import Derived.Test.YtfbddadnnpjjjaaRingOut
import Derived.Test.YtfbddadnnpjjjaaEqInts
namespace Go.Proofs.Ytfbddadnnpjjjaa
open Go.RowKit

theorem Turns.below {w w' W : World} {B q : Nat} {m : Int} {a : Option Addr} {c : Nat} {xs : List Int} {o' : Option Nat} (h : Turns w w' q (OI a xs.length c) o') (hq : QAt w B q m a c xs) (hb : Below W.heap.size W w) (hB : W.heap.size ≤ B) : Below W.heap.size W w' :=
  h.1.below hb (fun j hj => by
    rcases hj with rfl | hj
    · exact Nat.le_trans hB hq.hq
    · exact Nat.le_trans hB (hq.own.lt2 hj).1)
theorem put_keeps_turns {w w' : World} {q : Nat} {o o' : Option Nat} (h : Keeps w w' (fun j => j = q ∨ o = some j)) (h' : ∀ j, o' = some j → o = some j ∨ w.heap.size ≤ j) : Turns w w' q o o' := ⟨h, h'⟩
theorem QAt.quiet {w w' : World} {B q : Nat} {m : Int} {a : Option Addr} {c : Nat} {xs : List Int} (h : QAt w B q m a c xs) (hb : Quiet w w') : QAt w' B q m a c xs := h.below (hb.below _)
/-- a list that was told stays while the queue turns -/
theorem Turns.list {w1 w w' : World} {B q : Nat} {m : Int} {a al : Option Addr} {c cl : Nat} {xs ls : List Int} {o' : Option Nat} (h : Turns w w' q (OI a xs.length c) o') (hq : QAt w1 B q m a c xs) (hl : OwnN .i64 w w1.heap.size 3 al ls.length cl ls) : OwnN .i64 w' w1.heap.size 3 al ls.length cl ls :=
  hl.keeps h.1 (fun j hj hs => by
    have h1 := (hl.lt2 hj).1
    rcases hs with rfl | hs
    · have := hq.box.lt
      omega
    · have := (hq.own.lt2 hs).2
      omega)
theorem put_t (w : World) (B q : Nat) (m : Int) (a : Option Addr) (c : Nat) (xs : List Int) (h : QAt w B q m a c xs) (hm : (xs.length : Int) < m) (hx : xs.length ≤ 70000) (x : Int) :
    Calls Try.prog 11 #[.pointer (some ⟨q, 0, none⟩), .int .i64 x] w fun e w' => ∃ a' c', e = .returned (.bool true) ∧ QAt w' B q m a' c' (xs ++ [x]) ∧ Turns w w' q (OI a xs.length c) (OI a' (xs.length + 1) c') :=
  (put_yes w B q m a c xs h hm hx x).mono fun e w' ⟨a', c', h1, h2, h3, h4⟩ => ⟨a', c', h1, h2, h3, h4⟩
set_option maxHeartbeats 1000000 in
theorem works_true (w : World) : Calls Try.prog 8 #[] w fun e w' => e = .returned (.bool true) ∧ Below w.heap.size w w' := by
  have P1 := Lib.hid (fun w' B q a c (h : QAt w' B q 2 a c []) => put_t w' B q 2 a c [] h (by decide) (by decide) 1)
  have P2 := Lib.hid (fun w' B q a c (h : QAt w' B q 2 a c [1]) => push_yes w' B q 2 a c [1] h (by decide) (by decide) 2)
  have P3 := Lib.hid (fun w' B q a c (h : QAt w' B q 2 a c [2, 1]) => put_no w' B q 2 a c [2, 1] h (by decide) 3)
  have L1 := Lib.hid (fun w' B q a c (h : QAt w' B q 2 a c [2, 1]) => list_any w' B q 2 a c [2, 1] h (by decide))
  have L2 := Lib.hid (fun w' B q a c (h : QAt w' B q 2 a c [2, 1]) => last_yes w' B q 2 a c [2, 1] h (by decide) (by decide))
  have E1 := fun w' a b c d h h' => eq_ints w' a b 2 c 2 d [2, 1] [2, 1] h h' rfl rfl (by omega) (by omega)
  rw [decide_eq_true rfl] at E1
  have E1 := Lib.hid E1
  go_enter Try.func8, Try.ntmps8
  go_wp2_with fail
  refine (new_any _ _).mono ?_
  rintro e w1 ⟨rfl, hq1, hb1⟩
  have hq1 : QAt w1 w.heap.size w.heap.size 2 none 0 [] := hq1
  go_wp2_with fail
  refine (P1.out _ _ _ _ _ hq1).mono ?_
  rintro e w2 ⟨a2, c2, rfl, hq2, ht2⟩
  have hb2 := ht2.below hq1 hb1 (Nat.le_refl _)
  go_wp2_with fail
  refine (P2.out _ _ _ _ _ hq2).mono ?_
  rintro e w3 ⟨a3, c3, rfl, hq3, ht3⟩
  have hb3 := ht3.below hq2 hb2 (Nat.le_refl _)
  go_wp2_with fail
  refine (P3.out _ _ _ _ _ hq3).mono ?_
  rintro e w4 ⟨rfl, hk4⟩
  have hq4 := hq3.quiet hk4
  have hb4 := hb3.trans (hk4.below _)
  clear hq1 hq2 hq3 ht2 ht3 hk4
  go_wp2_with fail
  refine (L1.out _ _ _ _ _ hq4).mono ?_
  rintro e w5 ⟨a5, c5, rfl, hn5, hb5⟩
  have hq5 := hq4.below hb5
  have hb5' := btrans hb4 hb5
  go_wp2_with fail
  refine (L2.out _ _ _ _ _ hq5).mono ?_
  rintro e w6 ⟨a6, c6, rfl, hq6, ht6⟩
  have hn6 := ht6.list hq4 hn5
  have hq6 : QAt w6 w.heap.size w.heap.size 2 a6 c6 [2] := hq6
  have hb6 := ht6.below hq5 hb5' (Nat.le_refl _)
  have F := Lib.hid (fun W (h : Below w6.heap.size w6 W) => len_any W _ _ _ _ _ _ (hq6.below h))
  have hA : Below w6.heap.size w6 (w6.alloc (.cells #[.int .i64 2, .int .i64 1] 3)) := balloc (Below.refl _ _) _
  have E2 := Lib.hid (E1.out (w6.alloc (.cells #[.int .i64 2, .int .i64 1] 3)) _ _ c5 2 ((NumsAt.of_owns hn6).below hA) (nums_new rfl _ _ rfl))
  clear hq4 hq5 hq6 hn5 hn6 ht6 hb5
  go_wp2_with fail
  refine E2.out.mono ?_
  rintro e w7 ⟨rfl, hk7⟩
  have hB7 := hA.trans (hk7.below _)
  have F7 := Lib.hid (F.out w7 hB7)
  clear E2 F
  go_wp2_with fail
  refine F7.out.mono ?_
  rintro e w8 ⟨rfl, rfl⟩
  go_wp2
  go_ret
  exact ⟨rfl, btrans hb6 hB7⟩
end Go.Proofs.Ytfbddadnnpjjjaa
