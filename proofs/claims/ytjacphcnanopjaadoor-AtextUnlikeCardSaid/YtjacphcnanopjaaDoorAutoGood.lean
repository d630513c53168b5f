/- An automaton that may be: what that says of its nodes. No conditions. -/
import Derived.Test.YtjacphcnanopjaaDoorAuto
namespace Go.Proofs.YtjacphcnanopjaaDoor

/-- an automaton that may be has good nodes -/
theorem chkN_good {n s : Nat} : ∀ {l : List AN}, chkN n s l = 0 → ∀ x ∈ l, (∀ q ∈ x.to, 0 ≤ q ∧ q < (n : Int)) ∧ x.inn / 2 ^ s = 0
  | [], _, x, hx => by simp at hx
  | y :: l, h, x, hx => by
    rw [show chkN n s (y :: l) = if y.to.any (outB n) then 10 else if y.inn / 2 ^ s ≠ 0 then 3 else chkN n s l from rfl] at h
    by_cases h1 : y.to.any (outB n) = true
    · rw [if_pos h1] at h; cases h
    rw [if_neg h1] at h
    by_cases h2 : y.inn / 2 ^ s ≠ 0
    · rw [if_pos h2] at h; cases h
    rw [if_neg h2] at h
    rcases List.mem_cons.1 hx with rfl | hx
    · refine ⟨fun q hq => ?_, by omega⟩
      rw [List.any_eq_true] at h1
      have : ¬ outB n q = true := fun e => h1 ⟨q, hq, e⟩
      unfold outB at this
      simp at this
      omega
    · exact chkN_good h x hx
theorem chk_good {A : AU} (h : chk A = 0) : A.nodes.length ≤ 256 ∧ 0 ≤ A.sets ∧ A.sets ≤ 16 ∧ (∀ q ∈ A.init, 0 ≤ q ∧ q < (A.nodes.length : Int)) ∧ ∀ x ∈ A.nodes, (∀ q ∈ x.to, 0 ≤ q ∧ q < (A.nodes.length : Int)) ∧ x.inn / 2 ^ A.sets.toNat = 0 := by
  unfold chk at h
  by_cases h1 : 256 < A.nodes.length ∨ 16 < A.sets
  · rw [if_pos h1] at h; cases h
  rw [if_neg h1] at h
  by_cases h2 : A.sets < 0
  · rw [if_pos h2] at h; cases h
  rw [if_neg h2] at h
  by_cases h3 : A.init.any (outB A.nodes.length) = true
  · rw [if_pos h3] at h; cases h
  rw [if_neg h3] at h
  refine ⟨by omega, by omega, by omega, fun q hq => ?_, chkN_good h⟩
  rw [List.any_eq_true] at h3
  have : ¬ outB A.nodes.length q = true := fun e => h3 ⟨q, hq, e⟩
  unfold outB at this
  simp at this
  omega
end Go.Proofs.YtjacphcnanopjaaDoor
