/- What was put is read: plain. Conditions: numbers of Go's int. -/
import Derived.Test.YtpnkfhfaoomdpaaOctetRead4
namespace Go.Proofs.Ytpnkfhfaoomdpaa.Octet

theorem lead_enc (rest : List Int) : ∀ u, lead (enc u ++ rest) + 1 = (enc u).length := by
  intro u
  induction u using Nat.strongRecOn with
  | _ u ih =>
    by_cases hu : u < 128
    · rw [enc_small hu]
      simp only [List.cons_append, List.nil_append, lead]
      rw [if_neg (by omega)]
      simp
    · rw [enc_big hu]
      simp only [List.cons_append, lead]
      rw [if_pos (by omega), ih (u / 128) (by omega)]
      simp
theorem val_enc : ∀ u, val (enc u) = u := by
  intro u
  induction u using Nat.strongRecOn with
  | _ u ih =>
    by_cases hu : u < 128
    · rw [enc_small hu]
      simp only [val]
      omega
    · rw [enc_big hu]
      simp only [val]
      rw [ih (u / 128) (by omega)]
      omega
theorem sgn_zig (n : Int) : sgn (zig n) = n := by
  unfold sgn zig
  split <;> split <;> omega
theorem last_enc : ∀ u, 128 ≤ u → (enc u).getD ((enc u).length - 1) 0 ≠ 0 := by
  intro u
  induction u using Nat.strongRecOn with
  | _ u ih =>
    intro h
    have hu : ¬ u < 128 := by omega
    by_cases h2 : u / 128 < 128
    · rw [enc_big hu, enc_small h2]
      simp
      omega
    · have := ih (u / 128) (by omega) (by omega)
      have hp := enc_pos (u / 128)
      rw [enc_big hu]
      obtain ⟨m, hm⟩ : ∃ m, (enc (u / 128)).length = m + 1 := ⟨(enc (u / 128)).length - 1, by omega⟩
      rw [List.length_cons, hm]
      rw [hm] at this
      simpa using this
theorem enc_last : ∀ u, (enc u).getD ((enc u).length - 1) 0 = ((u / 128 ^ ((enc u).length - 1) : Nat) : Int) := by
  intro u
  induction u using Nat.strongRecOn with
  | _ u ih =>
    by_cases hu : u < 128
    · rw [enc_small hu]
      simp
    · have h := ih (u / 128) (by omega)
      have hp := enc_pos (u / 128)
      rw [enc_big hu]
      obtain ⟨m, hm⟩ : ∃ m, (enc (u / 128)).length = m + 1 := ⟨(enc (u / 128)).length - 1, by omega⟩
      rw [hm] at h
      rw [List.length_cons, hm]
      simp only [Nat.add_sub_cancel] at h ⊢
      rw [List.getD_cons_succ, h, Nat.div_div_eq_div_mul, Nat.pow_succ, Nat.mul_comm 128]
theorem err_enc {u : Nat} (h : u < 18446744073709551616) (rest : List Int) : err (enc u ++ rest) = 0 := by
  have hl := lead_enc rest u
  have h10 : (enc u).length ≤ 10 := enc_len 9 u (by omega)
  have hlast : (enc u ++ rest).getD (lead (enc u ++ rest)) 0 = ((u / 128 ^ ((enc u).length - 1) : Nat) : Int) := by
    rw [← enc_last, show lead (enc u ++ rest) = (enc u).length - 1 by omega, List.getD_eq_getElem?_getD, List.getElem?_append_left (by omega), ← List.getD_eq_getElem?_getD]
  unfold err
  rw [if_neg (by omega), if_neg (by rw [List.length_append]; omega), if_neg]
  rintro (⟨h1, h2⟩ | ⟨h1, h2⟩)
  · rw [h1] at hlast
    rw [hlast, show (enc u).length - 1 = 9 by omega] at h2
    have h8 : (128 : Nat) ^ 9 = 9223372036854775808 := by decide
    omega
  · have hbig : 128 ≤ u := by
      rcases Nat.lt_or_ge u 128 with hh | hh
      · have h1l : (enc u).length = 1 := by rw [enc_small hh]; rfl
        omega
      · exact hh
    have := last_enc u hbig
    rw [enc_last, ← hlast, h2] at this
    exact this rfl
/-- a number that was put is read -/
theorem rNum_one {n : Int} (hn : -9223372036854775808 ≤ n ∧ n ≤ 9223372036854775807) (pre rest : List Int) : rNum (pre ++ (one n ++ rest)) pre.length 0 = (pre.length + (one n).length, 0, n) := by
  unfold rNum one
  rw [List.drop_left, if_neg (by simp), err_enc (zig_lt hn), if_neg (by simp)]
  have hl := lead_enc rest (zig n)
  rw [hl, List.take_left, val_enc, sgn_zig, Nat.add_assoc, hl]
end Go.Proofs.Ytpnkfhfaoomdpaa.Octet
