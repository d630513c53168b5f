/- A slice of Go's int is cloned by the library. Conditions: eight bytes a number within an append's bound. -/
import Derived.Test.YtpnkfhfaoomdpaaEqBytes
namespace Go.Proofs.Ytpnkfhfaoomdpaa
open Go.RowKit

theorem clone_bytes (w : World) (a1 : Option Addr) (n1 c1 : Nat) (xs : List Int) (h1 : NumsAt .u8 w a1 xs) (hn1 : n1 = xs.length) (b1 : n1 * 1 ≤ 140737488355328) :
    Calls Try.prog 29 #[.slice a1 n1 c1] w (OwnsBytes xs w) := by
  subst hn1
  have hnil := fun w (a : Option Addr) (n c : Nat) => Lib.run_eql_slice_nil (P := Try.prog) w 25 5 a n c 0 0 Try.underlying25
  cases a1 with
  | none =>
    have hx : Hid (xs = []) := by
      show _ = _
      cases xs with
      | nil => rfl
      | cons x xs => obtain ⟨b, off, h, _⟩ := h1 (by simp); cases h
    go_enter Try.func29, Try.ntmps29
    go_wp2
    go_ret
    exact owns_own (OwnN.nil _ _ _ _) hx.out.symm (Below.refl _ _)
  | some ad =>
    go_enter Try.func29, Try.ntmps29
    go_wp2_with (at_builtin; refine wp_appN rfl _ _ 25 5 .u8 1 rfl Try.underlying25 Try.infoByte w.heap.size _ 0 0 [] rfl (own_empty .u8 w 5 0 w.heap.size (Nat.le_refl _)) ad xs.length c1 xs rfl rfl (h1.alloc _) (by omega) (by omega) (by simp) ?_)
    intro a' cap' w' hown hg
    have hb := bgrown (balloc (Below.refl _ _) _) hg (by intro k hk; simp [Value.ownBlock] at hk; omega)
    go_wp2
    go_ret
    exact owns_own hown (by simp) hb
end Go.Proofs.Ytpnkfhfaoomdpaa
