/- Rows that are the same. No conditions but Go's int. -/
import Derived.Test.YtnllgigolfakpaaSimRows
namespace Go.Proofs.Ytnllgigolfakpaa
open Go.RowKit

theorem eqb_yes (w : World) (a b : Option Addr) (c d : Nat) (xs : List Bool) (h1 : BoolsAt w a xs) (h2 : BoolsAt w b xs) (hl : xs.length ≤ 9223372036854775807) :
    Calls Try.prog 20 #[.slice a xs.length c, .slice b xs.length d] w fun e w' => e = .returned (.bool true) ∧ Quiet w w' := by
  go_enter Try.func20, Try.ntmps20
  go_wp2
  go_loopw [4, 13] (fun bv i wr => ∃ k m : Nat, k ≤ xs.length ∧ i = .int .i64 k ∧ bv = .bool false ∧ wr = w.drewN m) (fun _ i _ => xs.length - (intOf i).toNat)
  case atStart => exact ⟨0, 0, Nat.zero_le _, rfl, rfl, rfl⟩
  case round =>
    obtain ⟨k, m, hk, rfl, rfl, rfl⟩ := hrel
    by_cases hlt : k < xs.length
    · obtain ⟨b1, o1, hb1, c1⟩ := h1.at k hlt
      obtain ⟨b2, o2, hb2, c2⟩ := h2.at k hlt
      have c1 : (w.drewN m).cell? ⟨b1, o1 + k, none⟩ = some (.bool xs[k]) := c1
      have c2 : (w.drewN m).cell? ⟨b2, o2 + k, none⟩ = some (.bool xs[k]) := c2
      generalize xs[k] = x at c1 c2
      have hxx : (x != x) = false := by simp
      have hki : (k : Int) < (xs.length : Int) := by omega
      subst hb1
      subst hb2
      go_wp2
      go_quiet (fail)
      go_wp2
      go_roundw
      case rel => exact ⟨k + 1, _, by omega, by go_num, rfl, by first | rfl | exact World.drewN_drewN _ _ _⟩
      case measure => simp [intOf]; omega
    · obtain rfl : k = xs.length := by omega
      go_wp2
      go_ret
      exact ⟨rfl, Quiet.one _ _⟩
theorem rows_yes (w : World) (a b : Option Addr) (c d : Nat) (L : List (List Bool)) (h1 : RowsAt w a L) (h2 : RowsAt w b L) (hl : L.length ≤ 9223372036854775807) (hlr : ∀ l ∈ L, l.length ≤ 9223372036854775807) :
    Calls Try.prog 10 #[.slice a L.length c, .slice b L.length d] w fun e w' => e = .returned (.bool true) ∧ Quiet w w' := by
  go_enter Try.func10, Try.ntmps10
  go_wp2
  go_loopw [4, 5] (fun bv i wr => ∃ k m : Nat, k ≤ L.length ∧ i = .int .i64 k ∧ bv = .bool false ∧ wr = w.drewN m) (fun _ i _ => L.length - (intOf i).toNat)
  case atStart => exact ⟨0, 0, Nat.zero_le _, rfl, rfl, rfl⟩
  case round =>
    obtain ⟨k, m, hk, rfl, rfl, rfl⟩ := hrel
    by_cases hlt : k < L.length
    · obtain ⟨b1, o1, a1, n1, hb1, c1, g1⟩ := h1.at k hlt
      obtain ⟨b2, o2, a2, n2, hb2, c2, g2⟩ := h2.at k hlt
      have c1 : (w.drewN m).cell? ⟨b1, o1 + k, none⟩ = some (.slice a1 L[k].length n1) := c1
      have c2 : (w.drewN m).cell? ⟨b2, o2 + k, none⟩ = some (.slice a2 L[k].length n2) := c2
      have EQ := fun j => eqb_yes ((w.drewN m).drewN j) a1 a2 n1 n2 L[k] g1 g2 (hlr _ (List.getElem_mem hlt))
      generalize L[k] = x at c1 c2 EQ
      have hki : (k : Int) < (L.length : Int) := by omega
      generalize hw1 : w.drewN m = w1 at c1 c2 EQ ⊢
      replace hw1 := Lib.hid hw1
      replace EQ := Lib.hid EQ
      subst hb1
      subst hb2
      clear g1 g2
      go_wp2
      go_quiet ((go_at_call 20; exact Calls.quiet_of (EQ.out _)))
      go_wp2
      go_roundw
      case rel => exact ⟨k + 1, _, by omega, by go_num, rfl, by rw [← hw1.out]; first | rfl | exact World.drewN_drewN _ _ _⟩
      case measure => simp [intOf]; omega
    · obtain rfl : k = L.length := by omega
      go_wp2
      go_ret
      exact ⟨rfl, Quiet.one _ _⟩
end Go.Proofs.Ytnllgigolfakpaa
