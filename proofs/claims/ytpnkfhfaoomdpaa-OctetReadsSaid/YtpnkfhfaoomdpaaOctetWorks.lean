/- The chapter's examples. No conditions. -/
import Derived.Test.YtpnkfhfaoomdpaaOctetNum
namespace Go.Proofs.Ytpnkfhfaoomdpaa
open Go.RowKit

theorem rdr_grown {w w' : World} {g : Nat} {W : World} (hb : Below W.heap.size W w) (h : w.grownBy w' (some g)) (hg : W.heap.size ≤ g) : Below W.heap.size W w' := bgrown hb h (fun k hk => by cases hk; exact hg)
theorem NumsAt.grown {k : IntKind} {w w' : World} {a : Option Addr} {xs : List Int} {g : Nat} (h : NumsAt k w a xs) (hg : w.grownBy w' (some g)) (hne : ∀ ad : Addr, a = some ad → ad.block ≠ g) : NumsAt k w' a xs :=
  h.keep (fun ad had hlt => hg.block _ hlt (fun e => hne ad had (by cases e; rfl)))

theorem NumsAt.lt {k : IntKind} {w : World} {a : Option Addr} {xs : List Int} (h : NumsAt k w a xs) (h0 : 0 < xs.length) {ad : Addr} (had : a = some ad) : ad.block < w.heap.size := by
  obtain ⟨b, off, x, e, cx, _⟩ := h.at 0 h0
  have := World.block_lt_of_cell? w _ cx
  rw [had] at e
  cases e
  exact this
theorem ex_list : [] ++ Octet.one ([3, -1] : List Int).length ++ Octet.ones [3, -1] = [4, 6, 1] := by
  simp [Octet.ones, Octet.one, Octet.zig, Octet.enc]
theorem ex_num : [] ++ Octet.one 64 = [128, 1] := by
  simp [Octet.one, Octet.zig, Octet.enc]
theorem ex_num1 : [] ++ Octet.one (-1) = [1] := by
  simp [Octet.one, Octet.zig, Octet.enc]
theorem ex_err : Octet.err [128, 0] = 3 := by decide

set_option maxHeartbeats 1000000 in
theorem works_true (w : World) : Calls Try.prog 10 #[] w fun e w' => e = .returned (.bool true) ∧ Below w.heap.size w w' := by
  have L := Lib.hid (fun w' a c h => olist_any w' none 0 0 [] (NumsAt.nil _ _ _) rfl (by omega) a 2 c [3, -1] h rfl (by omega) (by intro x hx; simp at hx; rcases hx with rfl | rfl <;> decide))
  rw [ex_list] at L
  have N1 := Lib.hid (fun w' => onum_any w' none 0 0 [] (NumsAt.nil _ _ _) rfl (by omega) 64 (by omega))
  rw [ex_num] at N1
  have N2 := Lib.hid (fun w' => onum_any w' none 0 0 [] (NumsAt.nil _ _ _) rfl (by omega) (-1) (by omega))
  rw [ex_num1] at N2
  have E1 := fun w' a b c d h h' => eq_bytes w' a b 3 c 3 d [4, 6, 1] [4, 6, 1] h h' rfl rfl (by omega) (by omega)
  rw [decide_eq_true rfl] at E1
  have E1 := Lib.hid E1
  have E2 := fun w' a b c d h h' => eq_bytes w' a b 2 c 2 d [128, 1] [128, 1] h h' rfl rfl (by omega) (by omega)
  rw [decide_eq_true rfl] at E2
  have E2 := Lib.hid E2
  have E3 := fun w' a b c d h h' => eq_bytes w' a b 1 c 1 d [1] [1] h h' rfl rfl (by omega) (by omega)
  rw [decide_eq_true rfl] at E3
  have E3 := Lib.hid E3
  go_enter Try.func10, Try.ntmps10
  go_wp2_with fail
  refine (L.out _ _ _ (nums_new rfl _ _ rfl)).mono ?_
  rintro e w1 ⟨a1, c1, rfl, h1, hb1, _⟩
  have hb1 := btrans (balloc (Below.refl w.heap.size w) _) hb1
  go_wp2_with fail
  refine (from_any _ _ 2 _ [128, 0] (nums_new rfl _ _ rfl) rfl (by omega)).mono ?_
  rintro e w2 ⟨g, a2, c2, rfl, hg, h2, hne, hR, hb2, hc2⟩
  have hlt1 : ∀ ad : Addr, a1 = some ad → ad.block ≠ g := fun ad had => by have := h1.lt (by simp) had; simp at hg; omega
  have hwg : w.heap.size ≤ g := by have := hb1.size; simp at hg; omega
  have h1 := (h1.alloc (.cells #[.int .u8 128, .int .u8 0] 5)).below hb2
  have hb2 := btrans (balloc hb1 _) hb2
  go_wp2_with fail
  refine (num_any _ g a2 c2 [128, 0] 0 hR h2 (fun ad h => (hne.out ad h).2) (by simp) hc2 (by simp) (by intro x hx; simp at hx; rcases hx with rfl | rfl <;> omega)).mono ?_
  rintro e w3 ⟨hg3, H⟩
  rcases H with ⟨_, rfl, hR3⟩ | ⟨h, _⟩
  · have hb3 := bgrown hb2 hg3 (fun k hk => by cases hk; exact hwg)
    have h1 := h1.grown hg3 hlt1
    rw [show Octet.err (([128, 0] : List Int).drop 0) = 3 from ex_err] at hR3
    go_wp2_with fail
    refine (E1.out _ _ _ _ _ (h1.alloc _) (nums_new rfl _ _ rfl)).mono ?_
    rintro e w4 ⟨rfl, m4, rfl⟩
    have hb4 := bdrewN (balloc hb3 (.cells #[.int .u8 4, .int .u8 6, .int .u8 1] 5)) m4
    have hR4 := ((hR3.below (balloc (Below.refl _ _) (.cells #[.int .u8 4, .int .u8 6, .int .u8 1] 5)))).drewN m4
    go_wp2_with fail
    refine (err_any _ g _ _ _ _ _ hR4).mono ?_
    rintro e w5 ⟨rfl, rfl⟩
    go_wp2_with fail
    refine (N1.out _).mono ?_
    rintro e w6 ⟨a6, c6, rfl, ho6, hb6⟩
    have h6 := NumsAt.of_owns ho6
    have hb6 := btrans hb4 hb6
    go_wp2_with fail
    refine (E2.out _ _ _ _ _ (h6.alloc _) (nums_new rfl _ _ rfl)).mono ?_
    rintro e w7 ⟨rfl, m7, rfl⟩
    have hb7 := bdrewN (balloc hb6 (.cells #[.int .u8 128, .int .u8 1] 5)) m7
    go_wp2_with fail
    refine (N2.out _).mono ?_
    rintro e w8 ⟨a8, c8, rfl, ho8, hb8⟩
    have h8 := NumsAt.of_owns ho8
    have hb8 := btrans hb7 hb8
    go_wp2_with fail
    refine (E3.out _ _ _ _ _ (h8.alloc _) (nums_new rfl _ _ rfl)).mono ?_
    rintro e w9 ⟨rfl, m9, rfl⟩
    have hb9 := bdrewN (balloc hb8 (.cells #[.int .u8 1] 5)) m9
    go_wp2
    go_ret
    exact ⟨rfl, hb9⟩
  · exact absurd h (by rw [show Octet.err (([128, 0] : List Int).drop 0) = 3 from ex_err]; decide)
end Go.Proofs.Ytpnkfhfaoomdpaa
