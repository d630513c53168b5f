/- How much the whole product holds. No conditions but a small graph. -/
import Derived.Test.YtmlbjfaofppikaaPrWholeP
namespace Go.Proofs.Ytmlbjfaofppikaa

theorem wholeL_len {G : GR} {sets : List (List Bool)} {A : AU} {most : Int} (lt : Lt G sets A) : ∀ (f i : Nat) (s s' : WR), i ≤ s.l.length → s.es.length = i → s.labs.length = i → s.ins.length = i → (∀ r ∈ s.es, r.length ≤ 144) → wholeL G sets A most f i s = some s' →
    s'.es.length = s'.l.length ∧ s'.labs.length = s'.l.length ∧ s'.ins.length = s'.l.length ∧ s'.l.length ≤ i + f ∧ ∀ r ∈ s'.es, r.length ≤ 144
  | 0, _, _, _, _, _, _, _, _, h => by simp [wholeL] at h
  | f + 1, i, s, s', hi, h1, h2, h3, h4, h => by
    by_cases hl : i < s.l.length
    · by_cases hm : most < (s.l.length : Int)
      · rw [wholeL_more hl hm] at h
        cases h
      · rw [wholeL_step hl hm] at h
        have hr := rowQ_len G sets A s.l[i] s.l (nextP G sets A s.l[i])
        have := wholeL_len lt f (i + 1) (stepW G sets A s.l[i] s) s' (by show i + 1 ≤ (rowQ G sets A s.l[i] s.l (nextP G sets A s.l[i])).1.length; omega) (by simp [stepW, h1]) (by simp [stepW, h2]) (by simp [stepW, h3]) (by
          intro r hr
          simp only [stepW, List.mem_append, List.mem_singleton] at hr
          rcases hr with hr | rfl
          · exact h4 r hr
          · rw [rowQ_row]
            exact nextP_len lt _) h
        obtain ⟨a, b, c, d, e⟩ := this
        exact ⟨a, b, c, by omega, e⟩
    · rw [wholeL_end hl] at h
      cases h
      exact ⟨by omega, by omega, by omega, by omega, h4⟩
/-- the whole product, no more than this -/
theorem wholeP_len {G : GR} {sets : List (List Bool)} {A : AU} (lt : Lt G sets A) (m : Int) :
    (wholeP G sets A m).2.1.length ≤ 1000000 ∧ (wholeP G sets A m).2.2.es.length ≤ 1000000 ∧ (wholeP G sets A m).2.2.labs.length ≤ 1000000 ∧ (wholeP G sets A m).2.2.ins.length ≤ 1000000 ∧ (wholeP G sets A m).2.2.l.length ≤ 1000000 ∧ ∀ r ∈ (wholeP G sets A m).2.2.es, r.length ≤ 1000000 := by
  unfold wholeP
  by_cases hn : newB G sets A = true
  · rw [if_pos hn]
    by_cases hm : m < 0
    · rw [if_pos hm]
      simp
    · rw [if_neg hm]
      cases hw : wholeL G sets A (most' m) 65540 0 ⟨firstP G A, [], [], []⟩ with
      | none => simp
      | some s =>
        obtain ⟨h1, h2, h3, h4, h5⟩ := wholeL_len lt 65540 0 ⟨firstP G A, [], [], []⟩ s (Nat.zero_le _) rfl rfl rfl (by simp) hw
        have h6 := firstP_len lt
        refine ⟨?_, ?_, ?_, ?_, ?_, fun r hr => ?_⟩
        · show (upTo _).length ≤ _
          rw [upTo_len]
          omega
        · show s.es.length ≤ _
          omega
        · show s.labs.length ≤ _
          omega
        · show s.ins.length ≤ _
          omega
        · show s.l.length ≤ _
          omega
        · have := h5 r hr
          omega
  · rw [if_neg hn]
    simp
end Go.Proofs.Ytmlbjfaofppikaa
