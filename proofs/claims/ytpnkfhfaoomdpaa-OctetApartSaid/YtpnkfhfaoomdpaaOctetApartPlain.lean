/- The bytes of a list are no beginning of those of another one: plain. No conditions. -/
import Derived.Test.YtpnkfhfaoomdpaaOctetPlain
namespace Go.Proofs.Ytpnkfhfaoomdpaa.Octet

theorem enc_inj : ∀ (u v : Nat) (s t : List Int), enc u ++ s = enc v ++ t → u = v ∧ s = t := by
  intro u
  induction u using Nat.strongRecOn with
  | _ u ih =>
    intro v s t h
    by_cases hu : u < 128
    · by_cases hv : v < 128
      · rw [enc_small hu, enc_small hv] at h
        simp at h
        exact ⟨by omega, h.2⟩
      · rw [enc_small hu, enc_big hv] at h
        simp at h
        omega
    · by_cases hv : v < 128
      · rw [enc_big hu, enc_small hv] at h
        simp at h
        omega
      · rw [enc_big hu, enc_big hv] at h
        simp only [List.cons_append, List.cons.injEq] at h
        obtain ⟨h1, h2⟩ := ih (u / 128) (by omega) _ _ _ h.2
        exact ⟨by omega, h2⟩
theorem zig_inj {a b : Int} (h : zig a = zig b) : a = b := by unfold zig at h; split at h <;> split at h <;> omega
theorem one_inj {a b : Int} {s t : List Int} (h : one a ++ s = one b ++ t) : a = b ∧ s = t := by
  obtain ⟨h1, h2⟩ := enc_inj _ _ _ _ h
  exact ⟨zig_inj h1, h2⟩
theorem ones_inj : ∀ (l k : List Int) (s t : List Int), l.length = k.length → ones l ++ s = ones k ++ t → l = k
  | [], [], _, _, _, _ => rfl
  | x :: l, y :: k, s, t, hl, h => by
    simp only [ones, List.map_cons, List.flatten_cons, List.append_assoc] at h
    obtain ⟨rfl, h2⟩ := one_inj h
    rw [ones_inj l k s t (by simpa using hl) h2]
/-- the bytes of a list -/
def lst (l : List Int) : List Int := [] ++ one l.length ++ ones l
theorem lst_apart {l k : List Int} (h : l ≠ k) : (lst l).take (min (lst l).length (lst k).length) ≠ (lst k).take (min (lst l).length (lst k).length) := by
  intro e
  apply h
  have key : ∀ s t : List Int, lst l ++ s = lst k ++ t → l = k := fun s t e => by
    unfold lst at e
    simp only [List.nil_append, List.append_assoc] at e
    obtain ⟨h1, h2⟩ := one_inj e
    exact ones_inj l k s t (by omega) h2
  rcases Nat.le_total (lst l).length (lst k).length with hl | hl
  · rw [Nat.min_eq_left hl, List.take_of_length_le (Nat.le_refl _)] at e
    refine key ((lst k).drop (lst l).length) [] ?_
    rw [List.append_nil]
    conv => lhs; lhs; rw [e]
    exact List.take_append_drop _ _
  · rw [Nat.min_eq_right hl, List.take_of_length_le (Nat.le_refl (lst k).length)] at e
    refine key [] ((lst l).drop (lst k).length) ?_
    rw [List.append_nil]
    conv => rhs; lhs; rw [← e]
    exact (List.take_append_drop _ _).symm
end Go.Proofs.Ytpnkfhfaoomdpaa.Octet
