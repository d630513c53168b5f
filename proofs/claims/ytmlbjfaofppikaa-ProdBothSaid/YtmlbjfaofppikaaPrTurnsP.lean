/- The turns of a whole product, in plain lists. No conditions. -/
import Derived.Test.YtmlbjfaofppikaaPrWholeB
namespace Go.Proofs.Ytmlbjfaofppikaa

/-- of each pair of the whole product is told whether it is In -/
theorem wholeL_ins {G : GR} {sets : List (List Bool)} {A : AU} {most : Int} : ∀ (f i : Nat) (s s' : WR), i ≤ s.l.length → s.ins.length = i → (∀ k (hk : k < s.l.length), k < i → s.ins[k]? = some (inP G sets A s.l[k])) → wholeL G sets A most f i s = some s' →
    ∀ k (hk : k < s'.l.length), s'.ins[k]? = some (inP G sets A s'.l[k])
  | 0, _, _, _, _, _, _, h => by simp [wholeL] at h
  | f + 1, i, s, s', hi, h1, h2, h => by
    by_cases hl : i < s.l.length
    · by_cases hm : most < (s.l.length : Int)
      · rw [wholeL_more hl hm] at h
        cases h
      · rw [wholeL_step hl hm] at h
        have hr := rowQ_len G sets A s.l[i] s.l (nextP G sets A s.l[i])
        refine wholeL_ins f (i + 1) (stepW G sets A s.l[i] s) s' (by show i + 1 ≤ (rowQ G sets A s.l[i] s.l (nextP G sets A s.l[i])).1.length; omega) (by simp [stepW, h1]) (fun k hk hki => ?_) h
        have hks : k < s.l.length := by omega
        have hold := rowQ_old G sets A s.l[i] s.l (nextP G sets A s.l[i]) hks
        have hk' : k < (rowQ G sets A s.l[i] s.l (nextP G sets A s.l[i])).1.length := hk
        have e : (stepW G sets A s.l[i] s).l[k]'hk = s.l[k] := by
          show (rowQ G sets A s.l[i] s.l (nextP G sets A s.l[i])).1[k] = _
          rw [List.getElem?_eq_getElem hk'] at hold
          exact Option.some.inj hold
        refine Eq.trans ?_ (congrArg (fun z => some (inP G sets A z)) e).symm
        show (s.ins ++ [inP G sets A s.l[i]])[k]? = some (inP G sets A s.l[k])
        by_cases hk2 : k < i
        · rw [List.getElem?_append_left (by omega)]
          exact h2 k hks hk2
        · obtain rfl : k = i := by omega
          rw [List.getElem?_append_right (by omega), h1]
          simp
    · rw [wholeL_end hl] at h
      cases h
      exact fun k hk => h2 k hk (by omega)
/-- an error, or a product -/
theorem wholeP_ok {G : GR} {sets : List (List Bool)} {A : AU} (lt : Lt G sets A) {m : Int} (h : (wholeP G sets A m).1 = 0) : newB G sets A = true ∧ (wholeP G sets A m).2.2.ins.length = (wholeP G sets A m).2.2.l.length ∧ ∀ k (hk : k < (wholeP G sets A m).2.2.l.length), (wholeP G sets A m).2.2.ins[k]? = some (inP G sets A (wholeP G sets A m).2.2.l[k]) := by
  unfold wholeP at h ⊢
  by_cases hn : newB G sets A = true
  · rw [if_pos hn] at h ⊢
    by_cases hm : m < 0
    · rw [if_pos hm] at h
      cases h
    · rw [if_neg hm] at h ⊢
      cases hw : wholeL G sets A (most' m) 65540 0 ⟨firstP G A, [], [], []⟩ with
      | none => rw [hw] at h; cases h
      | some s =>
        have h1 := wholeL_len lt 65540 0 ⟨firstP G A, [], [], []⟩ s (Nat.zero_le _) rfl rfl rfl (by simp) hw
        exact ⟨hn, h1.2.2.1, wholeL_ins 65540 0 ⟨firstP G A, [], [], []⟩ s (Nat.zero_le _) rfl (fun k hk hki => by omega) hw⟩
  · rw [if_neg hn] at h
    cases h
theorem pairsP_turn {A : AU} {lab : Nat} {node turn : Int} : ∀ {states : List Int} {out : List PP}, (∀ y ∈ out, y.turn = turn) → ∀ y ∈ pairsP A lab node turn out states, y.turn = turn :=
  fun h => pairsP_all A _ _ _ _ _ h (fun _ _ => rfl)
theorem next_turn {G : GR} {sets : List (List Bool)} {A : AU} {x : PP} : ∀ y ∈ nextP G sets A x, isP sets A x = true ∧ y.turn = turnP G sets A x := by
  unfold nextP
  by_cases hx : isP sets A x = true
  · rw [if_pos hx]
    have key : ∀ (es : List PR) (out : List PP), (∀ y ∈ out, y.turn = turnP G sets A x) → ∀ y ∈ es.foldl (fun out e => pairsP A (labP G e.1) e.1 (turnP G sets A x) out (nodeP A x.state).to) out, y.turn = turnP G sets A x := by
      intro es
      induction es with
      | nil => intro out h; exact h
      | cons e es ih => intro out h; rw [List.foldl_cons]; exact ih _ (pairsP_turn h)
    exact fun y hy => ⟨hx, key _ [] (by simp) y hy⟩
  · rw [if_neg hx]
    simp
theorem turn_zero {sets : List (List Bool)} {A : AU} {x : PP} (h : isP sets A x = true) (h0 : allS sets A = 0) : x.turn = 0 := by
  obtain ⟨k, t, _, h2, _, h4⟩ := isP_range h
  rw [h0] at h4
  omega
/-- what holds of the turn behind a pair -/
theorem turn_next {G : GR} {sets : List (List Bool)} {A : AU} {x : PP} (h : isP sets A x = true) : (allS sets A = 0 → turnP G sets A x = 0) ∧ (turnP G sets A x = x.turn ∨ (0 < allS sets A ∧ turnP G sets A x = (x.turn + 1) % (allS sets A : Int))) := by
  unfold turnP
  by_cases hc : 0 < allS sets A ∧ ofP G sets A x = true
  · rw [if_pos hc]
    exact ⟨fun e => by omega, .inr ⟨hc.1, rfl⟩⟩
  · rw [if_neg hc]
    exact ⟨fun e => turn_zero h e, .inl rfl⟩
theorem in_turn {G : GR} {sets : List (List Bool)} {A : AU} {x : PP} (h : inP G sets A x = true) : x.turn = 0 := by
  unfold inP at h
  rw [Bool.and_eq_true, Bool.or_eq_true, Bool.and_eq_true, decide_eq_true_eq, decide_eq_true_eq] at h
  obtain ⟨h1, h2 | h2⟩ := h
  · exact turn_zero h1 h2
  · exact h2.1
end Go.Proofs.Ytmlbjfaofppikaa
