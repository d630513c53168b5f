/- Two slices of Go's int are held against one another by the library's Equal. Conditions: lengths within int. -/
import Derived.Test.YtfcpfcgcfaacnaaSBase
namespace Go.Proofs.Ytfcpfcgcfaacnaa
set_option linter.unusedVariables false
open Go.RowKit
theorem eq_ints (w : World) (a1 a2 : Option Addr) (n1 c1 n2 c2 : Nat) (xs ys : List Int) (h1 : NumsAt .i64 w a1 xs) (h2 : NumsAt .i64 w a2 ys)
  (hn1 : n1 = xs.length) (hn2 : n2 = ys.length) (b1 : n1 ≤ 9223372036854775807) (b2 : n2 ≤ 9223372036854775807) :
  Calls Try.prog 21 #[.slice a1 n1 c1, .slice a2 n2 c2] w fun e w' => e = .returned (.bool (decide (xs = ys))) ∧ Quiet w w' := by
 subst hn1 hn2
 by_cases hl : xs.length = ys.length
 ·have hl' : ((xs.length : Int) != (ys.length : Int)) = false := by simp [hl]
  have hl2 := Lib.hid hl; clear hl
  go_enter Try.func21, Try.ntmps21
  go_wp2
  go_loopw [13] (fun i wr => ∃ k n : Nat, k ≤ xs.length ∧ i = .int .i64 k ∧ wr = w.drewN n ∧ Hid (∀ j, j < k → xs.getD j 0 = ys.getD j 0)) (fun i _ => xs.length - (intOf i).toNat)
  case atStart => exact ⟨0, 0, Nat.zero_le _, rfl, rfl, fun j hj => by omega⟩
  case round =>
   obtain ⟨k, n, hk, rfl, rfl, hall⟩ := hrel
   by_cases hlt : k < xs.length
   ·obtain ⟨b, off, x, rfl, c1, hx⟩ := h1.at k hlt
    have hlt2 : k < ys.length := by have := hl2.out; omega
    obtain ⟨b', off', y, rfl, c2, hy⟩ := h2.at k hlt2
    go_wp2
    go_quiet (fail)
    go_wp2
    ·have hd : (x != y) = true := by assumption
     go_ret
     refine ⟨?_, Quiet.two _ _ _⟩
     have hx : ¬ xs = ys := by
      intro h
      subst h
      rw [hx.out, hy.out] at hd
      simp at hd
     exact ret_bool (decide_eq_false hx).symm
    ·have hd : (x != y) = false := by assumption
     go_roundw
     case rel =>
      refine ⟨k + 1, n + nq, by omega, by go_num, rfl, fun j hj => ?_⟩
      by_cases hjk : j = k
      ·subst hjk
       rw [← hx.out, ← hy.out]
       simpa using hd
      ·exact hall.out j (by omega)
     case measure => simp [intOf]; omega
   ·go_wp2
    go_ret
    refine ⟨?_, Quiet.one _ _⟩
    exact ret_bool (decide_eq_true (lists_eq hl2.out (fun j hj => hall.out j (by omega)))).symm
 ·have hl' : ((xs.length : Int) != (ys.length : Int)) = true := by simp; omega
  have hx : ¬ xs = ys := fun h => hl (by rw [h])
  have hx2 := Lib.hid hx
  clear hl hx
  go_enter Try.func21, Try.ntmps21
  go_wp2
  go_ret
  exact ⟨by simp [hx2.out], Quiet.refl _⟩
end Go.Proofs.Ytfcpfcgcfaacnaa
