/- The document's bits. Conditions: few sets. -/
import Derived.Test.YtnllgigolfakpaaSimAlone
namespace Go.Proofs.Ytnllgigolfakpaa
open Go.RowKit

theorem rbits_any (w : World) (s m : Nat) (hs : s ≤ 16) (hm : m = 2 ^ s - 1) :
    Calls Try.prog 35 #[.int .i64 (s : Int)] w fun e w' => e = .returned (.int .u64 (m : Int)) ∧ w = w' := by
  have hp : 2 ^ s ≤ 2 ^ 16 := Nat.pow_le_pow_right (by omega) hs
  have hp0 : 0 < 2 ^ s := Nat.two_pow_pos s
  have h64 : decide ((64 : Int) ≤ (s : Int)) = false := by simp; omega
  have hw : IntKind.u64.wrap (s : Int) = (s : Int) := IntWalk.u64_in _ (by omega)
  have e1 : IntKind.u64.wrap ((2 : Int) ^ s) = (m : Int) + 1 := by
    have e : ((2 : Int) ^ s) = ((2 ^ s : Nat) : Int) := by push_cast; rfl
    rw [e, IntWalk.u64_in _ (by omega)]
    omega
  have e2 : IntKind.u64.wrap (m : Int) = (m : Int) := IntWalk.u64_in _ (by omega)
  have hs2 : (s : Int) ≤ 64 := by omega
  replace hm := Lib.hid hm
  clear hp hp0
  go_enter Try.func35, Try.ntmps35
  go_wp2
  go_ret
  exact ⟨rfl, rfl⟩
end Go.Proofs.Ytnllgigolfakpaa
