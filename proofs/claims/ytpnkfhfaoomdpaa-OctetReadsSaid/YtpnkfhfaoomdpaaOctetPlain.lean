/- The bytes of a number, in plain Lean. No conditions. -/
import Derived.Test.YtpnkfhfaoomdpaaBase
namespace Go.Proofs.Ytpnkfhfaoomdpaa.Octet

def enc (u : Nat) : List Int := if u < 128 then [(u : Int)] else ((u % 128 + 128 : Nat) : Int) :: enc (u / 128)
termination_by u
decreasing_by omega
theorem enc_small {u : Nat} (h : u < 128) : enc u = [(u : Int)] := by rw [enc, if_pos h]
theorem enc_big {u : Nat} (h : ¬ u < 128) : enc u = ((u % 128 + 128 : Nat) : Int) :: enc (u / 128) := by rw [enc, if_neg h]
def zig (n : Int) : Nat := if 0 ≤ n then (2 * n).toNat else (-2 * n - 1).toNat
def one (n : Int) : List Int := enc (zig n)
def ones (l : List Int) : List Int := (l.map one).flatten
theorem enc_len : ∀ (k u : Nat), u < 128 ^ (k + 1) → (enc u).length ≤ k + 1
  | 0, u, h => by rw [enc_small (by omega)]; simp
  | k + 1, u, h => by
    by_cases h1 : u < 128
    · rw [enc_small h1]; simp
    · rw [enc_big h1]
      have : u / 128 < 128 ^ (k + 1) := by rw [Nat.div_lt_iff_lt_mul (by omega)]; rw [Nat.pow_succ] at h; exact h
      have := enc_len k _ this
      simp
      omega
theorem enc_pos (u : Nat) : 0 < (enc u).length := by rw [enc]; split <;> simp
theorem zig_lt {n : Int} (h : -9223372036854775808 ≤ n ∧ n ≤ 9223372036854775807) : zig n < 18446744073709551616 := by unfold zig; split <;> omega
theorem one_len {n : Int} (h : -9223372036854775808 ≤ n ∧ n ≤ 9223372036854775807) : (one n).length ≤ 10 := enc_len 9 _ (by have := zig_lt h; omega)
theorem one_pos (n : Int) : 0 < (one n).length := enc_pos _
theorem ones_len : ∀ {l : List Int}, (∀ x ∈ l, -9223372036854775808 ≤ x ∧ x ≤ 9223372036854775807) → (ones l).length ≤ 10 * l.length
  | [], _ => by simp [ones]
  | x :: l, h => by
    have h1 := ones_len (l := l) (fun y hy => h y (by simp [hy]))
    have h2 := one_len (h x (by simp))
    simp only [ones, List.map_cons, List.flatten_cons, List.length_append, List.length_cons] at h1 ⊢
    omega
theorem ones_snoc (l : List Int) (x : Int) : ones (l ++ [x]) = ones l ++ one x := by simp [ones]
end Go.Proofs.Ytpnkfhfaoomdpaa.Octet
