/- The document's letter and digit, walked. No conditions. -/
import Derived.Test.YtkehfolcfcbplaaGreatDoorSLexF
namespace Go.Proofs.YtkehfolcfcbplaaGreatDoor
open Go.RowKit
set_option linter.unusedVariables false
theorem rletterI (w : World) (c : Int) : Calls Tryz.prog 57 #[.int .u8 c] w fun e w' => e = .returned (.bool (lettI c)) ∧ w' = w := by
  unfold lettI
  by_cases h1 : 97 ≤ c <;> by_cases h2 : c ≤ 122 <;> by_cases h3 : 65 ≤ c <;> by_cases h4 : c ≤ 90 <;> first
    | (exfalso; omega)
    | (simp only [h1, h2, h3, h4, decide_true, decide_false, Bool.and_true, Bool.and_false, Bool.or_true, Bool.or_false, Bool.true_or, Bool.false_or, Bool.and_self, Bool.or_self, Bool.true_and, Bool.false_and]
       go_enter Tryz.func57, Tryz.ntmps57
       go_wp2
       go_ret
       exact ⟨rfl, rfl⟩)
theorem rdigitI (w : World) (c : Int) : Calls Tryz.prog 58 #[.int .u8 c] w fun e w' => e = .returned (.bool (digI c)) ∧ w' = w := by
  unfold digI
  by_cases h1 : 48 ≤ c <;> by_cases h2 : c ≤ 57 <;> first
    | (exfalso; omega)
    | (simp only [h1, h2, decide_true, decide_false, Bool.and_true, Bool.and_false, Bool.and_self]
       go_enter Tryz.func58, Tryz.ntmps58
       go_wp2
       go_ret
       exact ⟨rfl, rfl⟩)
theorem digB (b : UInt8) : digI (b.toNat : Int) = isDig b := by
  have h1 : digI (b.toNat : Int) = true ↔ isDig b = true := by
    unfold digI isDig
    simp only [Bool.and_eq_true, decide_eq_true_eq]
    omega
  cases h2 : isDig b with
  | true => exact h1.2 h2
  | false => cases h3 : digI (b.toNat : Int) with
    | false => rfl
    | true => rw [h1.1 h3] at h2; cases h2
theorem rletter_any (w : World) (b : UInt8) : Calls Tryz.prog 57 #[.int .u8 (b.toNat : Int)] w fun e w' => e = .returned (.bool (lettI (b.toNat : Int))) ∧ w' = w := rletterI w _
theorem rdigit_any (w : World) (b : UInt8) : Calls Tryz.prog 58 #[.int .u8 (b.toNat : Int)] w fun e w' => e = .returned (.bool (isDig b)) ∧ w' = w := by
  have := rdigitI w (b.toNat : Int)
  rw [digB] at this
  exact this
end Go.Proofs.YtkehfolcfcbplaaGreatDoor
