/- What the code's shifts and masks make of a number. Conditions: the kinds' bounds. -/
import Derived.Test.YtpnkfhfaoomdpaaOctetPlain
import Derived.Laws.BitsLemmas
import Derived.Laws.Bits64
import Derived.Laws.Bits64b
namespace Go.Proofs.Ytpnkfhfaoomdpaa.Octet
open Go.RowKit

theorem xor_ones (a : Nat) (h : a < 18446744073709551616) : a ^^^ 18446744073709551615 = 18446744073709551615 - a := by
  have h1 : (BitVec.ofNat 64 a ^^^ BitVec.allOnes 64).toNat = (~~~ BitVec.ofNat 64 a).toNat := by rw [BitVec.xor_allOnes]
  rw [BitVec.toNat_xor, BitVec.toNat_not, BitVec.toNat_allOnes, BitVec.toNat_ofNat, Nat.mod_eq_of_lt (by omega)] at h1
  simpa using h1
theorem zig_bits {n : Int} (h : -9223372036854775808 ≤ n ∧ n ≤ 9223372036854775807) : bits .xor .u64 (IntKind.u64.wrap (IntKind.u64.wrap n * 2)) (IntKind.u64.wrap (n / 9223372036854775808)) = (zig n : Int) := by
  rw [IntKind.wrap_u64, IntKind.wrap_u64, IntKind.wrap_u64]
  unfold zig
  by_cases h0 : 0 ≤ n
  · rw [if_pos h0, show n / 9223372036854775808 % 18446744073709551616 = ((0 : Nat) : Int) by omega, show n % 18446744073709551616 * 2 % 18446744073709551616 = ((2 * n).toNat : Int) by omega, bits_xor_u64_nat _ _ (by omega) (by omega)]
    simp
  · rw [if_neg h0, show n / 9223372036854775808 % 18446744073709551616 = ((18446744073709551615 : Nat) : Int) by omega, show n % 18446744073709551616 * 2 % 18446744073709551616 = ((2 * n + 18446744073709551616).toNat : Int) by omega, bits_xor_u64_nat _ _ (by omega) (by omega), xor_ones _ (by omega)]
    omega
set_option maxRecDepth 100000 in
theorem or128 : ∀ a : Fin 256, (a.val ||| 128) = a.val % 128 + 128 := by decide
theorem more_bits {u : Nat} : bits .or .u8 (IntKind.u8.wrap (u : Int)) 128 = ((u % 128 + 128 : Nat) : Int) := by
  rw [IntKind.wrap_u8, show (u : Int) % 256 = ((u % 256 : Nat) : Int) by omega]
  have h := (bits_nat .u8 8 (by decide) wraps_u8 (u % 256) 128 (by omega) (by decide)).2
  rw [show ((128 : Nat) : Int) = 128 from rfl] at h
  rw [h]
  have := or128 ⟨u % 256, by omega⟩
  simp only at this
  rw [this]
  omega
end Go.Proofs.Ytpnkfhfaoomdpaa.Octet
