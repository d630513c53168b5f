/- A slice of Go's int is cloned by the library. Conditions: eight bytes a number within an append's bound. -/
import Derived.Test.YtdjneckgckagdaaEqInts
namespace Go.Proofs.Ytdjneckgckagdaa
open Go.RowKit

theorem clone_ints (w : World) (a1 : Option Addr) (n1 c1 : Nat) (xs : List Int) (h1 : NumsAt .i64 w a1 xs) (hn1 : n1 = xs.length) (b1 : n1 * 8 ≤ 140737488355328) :
    Calls Try.prog 29 #[.slice a1 n1 c1] w (GivesInts xs w) := by
  subst hn1
  have hnil := fun w (a : Option Addr) (n c : Nat) => Lib.run_eql_slice_nil (P := Try.prog) w 22 3 a n c 0 0 Try.underlying22
  cases a1 with
  | none =>
    have hx : Hid (xs = []) := by
      show _ = _
      cases xs with
      | nil => rfl
      | cons x xs => obtain ⟨b, off, h, _⟩ := h1 (by simp); cases h
    go_enter Try.func29, Try.ntmps29
    go_wp2
    go_ret
    exact gives_nil hx.out (Below.refl _ _)
  | some ad =>
    go_enter Try.func29, Try.ntmps29
    go_wp2_with (at_builtin; refine wp_appN rfl _ _ 22 3 .i64 8 rfl Try.underlying22 Try.infoInt w.heap.size _ 0 0 [] rfl (own_empty .i64 w 3 0 w.heap.size (Nat.le_refl _)) ad xs.length c1 xs rfl rfl (h1.alloc _) (by omega) (by omega) (by simp) ?_)
    intro a' cap' w' hown hg
    have hb := bgrown (balloc (Below.refl _ _) _) hg (by intro k hk; simp [Value.ownBlock] at hk; omega)
    go_wp2
    go_ret
    exact gives_own hown (by simp) hb
end Go.Proofs.Ytdjneckgckagdaa
