/- Laws of the tokens of a text, plain: their order, names, bounds. No conditions. -/
import Derived.Test.YtkehfolcfcbplaaDoorLexQ
namespace Go.Proofs.YtkehfolcfcbplaaDoor
open Go.Lib

theorem skip_take : ∀ (b : Bool) (l : List UInt8), skipG b (l.take (skipG b l)) = skipG b l
  | b, [] => by cases b <;> rfl
  | false, c :: r => by
    rw [skipG]
    split
    · rename_i h
      rw [List.take_succ_cons, skipG, if_pos h, skip_take false r]
    · rename_i h
      split
      · rename_i h2
        rw [List.take_succ_cons, skipG, if_neg h, if_pos h2, skip_take true r]
      · rw [List.take_zero]; rfl
  | true, c :: r => by
    rw [skipG]
    split
    · rename_i h
      rw [List.take_succ_cons, skipG, if_pos h, skip_take false r]
    · rename_i h
      rw [List.take_succ_cons, skipG, if_neg h, skip_take true r]
/-- tokens one behind the other, from a place on -/
def OrdT (L : List UInt8) : Nat → List Tk → Prop
  | _, [] => True
  | e, t :: T => e ≤ t.at_ ∧ t.text = (L.drop t.at_).take t.text.length ∧ 0 < t.text.length ∧ t.at_ + t.text.length ≤ L.length ∧ skipL ((L.drop e).take (t.at_ - e)) = t.at_ - e ∧ OrdT L (t.at_ + t.text.length) T
theorem scan_ord (L : List UInt8) : ∀ (f a e : Nat) (acc : List Tk), a = e + skipL (L.drop e) → a ≤ L.length → (scanF L f a acc).e = 0 → ∃ T, (scanF L f a acc).toks = acc ++ T ∧ OrdT L e T
  | 0, a, e, acc, _, _, _ => ⟨[], (List.append_nil _).symm, trivial⟩
  | f + 1, a, e, acc, ha, hl, h0 => by
    rw [scanF] at h0 ⊢
    split at h0
    · rename_i h1
      rw [if_pos h1]
      split at h0
      · exact absurd (show (11 : Nat) = 0 from h0) (by decide)
      · rename_i h2
        rw [if_neg h2]
        split at h0
        · rename_i e1 h3
          have h9 : e1 = 0 := h0
          subst h9
          unfold oneP at h3
          split at h3
          · split at h3
            · injection h3 with h3; cases h3
            · cases h3
          · split at h3
            · split at h3
              · cases h3
              · injection h3 with h3; cases h3
            · split at h3
              · cases h3
              · injection h3 with h3; cases h3
        · rename_i k n len h3
          obtain ⟨q1, q2⟩ := one_tok h3
          rw [List.length_drop] at q2
          have hsk := skipG_le false (L.drop (a + len))
          rw [List.length_drop] at hsk
          have el : ((L.drop a).take len).length = len := by rw [List.length_take, List.length_drop]; omega
          obtain ⟨T, t1, t2⟩ := scan_ord L f _ (a + len) _ rfl (by unfold skipL; omega) h0
          refine ⟨⟨k, n, a, (L.drop a).take len⟩ :: T, by rw [t1]; simp, ?_, ?_, ?_, ?_, ?_, ?_⟩
          · show e ≤ a; omega
          · show (L.drop a).take len = (L.drop a).take ((L.drop a).take len).length
            rw [el]
          · show 0 < ((L.drop a).take len).length
            rw [el]; exact q1
          · show a + ((L.drop a).take len).length ≤ _
            rw [el]; omega
          · show skipL ((L.drop e).take (a - e)) = a - e
            have : a - e = skipL (L.drop e) := by omega
            rw [this]
            exact skip_take false _
          · show OrdT L (a + ((L.drop a).take len).length) T
            rw [el]; exact t2
    · rename_i h1
      rw [if_neg h1]
      exact ⟨[], (List.append_nil _).symm, trivial⟩
/-- LexOrder -/
theorem lex_order (L : List UInt8) (h : (scanLex L).e = 0) : OrdT L 0 (scanLex L).toks := by
  unfold scanLex at h ⊢
  split at h
  · exact absurd h (by decide)
  · rename_i h1
    rw [if_neg h1]
    obtain ⟨T, t1, t2⟩ := scan_ord L (L.length + 1) (skipL L) 0 [] (by rw [Nat.zero_add]; rfl) (skipG_le _ _) h
    rw [t1]
    exact t2
theorem scan_blank {X : List UInt8} (h : skipL X = X.length) (h2 : X.length ≤ 20000) : scanLex X = ⟨[], 0, 0⟩ := by
  unfold scanLex
  rw [if_neg (by omega), h, scanF, if_neg (by omega)]
/-- names -/
def ownW : List (List UInt8) := [[115, 101, 108, 102], [110, 111, 110, 101], [108, 101, 110], [97, 116]]
def nameP (L : List UInt8) : Bool := headB isLet L && decide (L.length ≤ 16) && decide (runB isPart L = L.length) && !(ownW.contains L)
def oneW (L : List UInt8) : Prop := (scanLex L).e = 0 ∧ ∃ t, (scanLex L).toks = [t] ∧ t.kind = 1 ∧ t.text = L
theorem scan_word {L : List UInt8} (h1 : headB isLet L = true) (h2 : L.length ≤ 16) (h3 : runB isPart L = L.length) : scanLex L = ⟨[⟨1, 0, 0, L⟩], 0, 0⟩ := by
  have ho : oneP L = .tok 1 0 L.length := by
    unfold oneP
    rw [if_pos h1, if_neg (by omega), h3]
  have hs := skip_one ho
  have hp : 0 < L.length := by rw [← h3]; exact runB_pos (let_part h1)
  unfold scanLex
  rw [if_neg (by omega), hs, scanF, if_pos hp, if_neg (by decide), List.drop_zero, ho]
  simp only [Nat.zero_add, List.take_length, List.drop_length, List.nil_append]
  obtain ⟨m, hm⟩ : ∃ m, L.length = m + 1 := ⟨L.length - 1, by omega⟩
  have : skipL ([] : List UInt8) = 0 := rfl
  rw [this, Nat.add_zero]
  conv => lhs; arg 2; rw [hm]
  rw [scanF, if_neg (by omega)]
theorem lex_names (L : List UInt8) : nameP L = true ↔ oneW L ∧ ¬ L ∈ ownW := by
  unfold nameP
  simp only [Bool.and_eq_true, decide_eq_true_eq, Bool.not_eq_true', List.contains_eq_mem, decide_eq_false_iff_not]
  constructor
  · rintro ⟨⟨⟨h1, h2⟩, h3⟩, h4⟩
    refine ⟨?_, h4⟩
    unfold oneW
    rw [scan_word h1 h2 h3]
    exact ⟨rfl, _, rfl, rfl, rfl⟩
  · rintro ⟨⟨he, t, ht, hk, hx⟩, h4⟩
    have hg : GoodT t := by
      have : ∀ t ∈ (scanLex L).toks, GoodT t := by
        unfold scanLex
        split
        · intro t ht; cases ht
        · exact scan_good L _ _ [] (fun t ht => by cases ht)
      exact this t (by rw [ht]; exact List.mem_singleton.2 rfl)
    have h1 := hg.2 [] (.inl rfl)
    rw [List.append_nil, hx, hk] at h1
    unfold oneP at h1
    split at h1
    · rename_i hl
      split at h1
      · cases h1
      · rename_i h16
        injection h1 with _ _ h5
        exact ⟨⟨⟨hl, by omega⟩, h5⟩, h4⟩
    · split at h1
      · split at h1
        · injection h1 with h1; cases h1
        · cases h1
      · split at h1
        · injection h1 with h1; cases h1
        · cases h1
/-- bounds -/
def repA : Nat → List UInt8
  | 0 => []
  | n + 1 => 97 :: 32 :: repA n
theorem repA_len : ∀ n, (repA n).length = 2 * n
  | 0 => rfl
  | n + 1 => by rw [repA, List.length_cons, List.length_cons, repA_len n]; omega
theorem repA_skip : ∀ n, skipL (repA n) = 0
  | 0 => rfl
  | n + 1 => rfl
theorem one_a (r : List UInt8) : oneP (97 :: 32 :: r) = .tok 1 0 1 := by
  have h : runB isPart (97 :: 32 :: r) = 1 := by
    rw [runB, if_pos (by decide), runB, if_neg (by decide)]
  unfold oneP
  rw [if_pos (show headB isLet (97 :: 32 :: r) = true from rfl), h, if_neg (by decide)]
theorem scan_rep (M : List UInt8) : ∀ (m f a : Nat) (acc : List Tk), m < f → a ≤ M.length → M.drop a = repA m → a = 2 * acc.length →
    (acc.length + m ≤ 6000 → (scanF M f a acc).e = 0 ∧ (scanF M f a acc).at_ = 0 ∧ (scanF M f a acc).toks.length = acc.length + m) ∧ (6000 < acc.length + m → acc.length ≤ 6000 → scanF M f a acc = ⟨[], 12000, 11⟩)
  | 0, f, a, acc, hf, ha, hM, h2 => by
    obtain ⟨f, rfl⟩ : ∃ g, f = g + 1 := ⟨f - 1, by omega⟩
    have : M.length ≤ a := by
      have := congrArg List.length hM
      simp only [List.length_drop, repA, List.length_nil] at this
      omega
    rw [scanF, if_neg (by omega)]
    exact ⟨fun _ => ⟨rfl, rfl, rfl⟩, fun h h' => by omega⟩
  | m + 1, f, a, acc, hf, ha, hM, h2 => by
    obtain ⟨f, rfl⟩ : ∃ g, f = g + 1 := ⟨f - 1, by omega⟩
    have hl : M.length - a = 2 * (m + 1) := by
      have := congrArg List.length hM
      rw [List.length_drop, repA_len] at this
      exact this
    rw [scanF, if_pos (by omega)]
    by_cases h6 : 6000 ≤ acc.length
    · rw [if_pos h6]
      refine ⟨fun h => by omega, fun _ h' => ?_⟩
      have : a = 12000 := by omega
      rw [this]
    · rw [if_neg h6, hM, repA, one_a]
      have hd : M.drop (a + 1) = 32 :: repA m := by rw [← List.drop_drop, hM]; rfl
      have hd2 : M.drop (a + 2) = repA m := by rw [← List.drop_drop, hM]; rfl
      have hs : skipL (M.drop (a + 1)) = 1 := by
        rw [hd]
        show skipG false _ = 1
        rw [skipG, if_pos (.inl (by decide))]
        have := repA_skip m
        unfold skipL at this
        rw [this]
      simp only [hs]
      have IH := scan_rep M m f (a + 1 + 1) (acc ++ [⟨1, 0, a, (97 :: 32 :: repA m).take 1⟩]) (by omega) (by omega) hd2 (by rw [List.length_append]; simp only [List.length_cons, List.length_nil]; omega)
      rw [List.length_append] at IH
      simp only [List.length_cons, List.length_nil] at IH
      exact ⟨fun h => by obtain ⟨a1, a2, a3⟩ := IH.1 (by omega); exact ⟨a1, a2, by omega⟩, fun h h' => IH.2 (by omega) (by omega)⟩
theorem lex_rep (n : Nat) (hn : n ≤ 10000) : (n ≤ 6000 → (scanLex (repA n)).e = 0 ∧ (scanLex (repA n)).at_ = 0 ∧ (scanLex (repA n)).toks.length = n) ∧ (6000 < n → scanLex (repA n) = ⟨[], 12000, 11⟩) := by
  have h := scan_rep (repA n) n ((repA n).length + 1) 0 [] (by rw [repA_len]; omega) (Nat.zero_le _) (List.drop_zero ..) rfl
  unfold scanLex
  rw [if_neg (by rw [repA_len]; omega), repA_skip]
  simp only [List.length_nil, Nat.zero_add] at h
  exact ⟨h.1, fun h6 => h.2 h6 (Nat.zero_le _)⟩
theorem skip_reps : ∀ k, skipL (List.replicate k (32 : UInt8)) = k
  | 0 => rfl
  | k + 1 => by
    rw [List.replicate_succ]
    show skipG false _ = _
    rw [skipG, if_pos (.inl (by decide))]
    have := skip_reps k
    unfold skipL at this
    rw [this]
theorem lex_blanks (k : Nat) : scanLex (List.replicate k (32 : UInt8)) = if 20000 < k then ⟨[], 0, 5⟩ else ⟨[], 0, 0⟩ := by
  by_cases h : 20000 < k
  · unfold scanLex
    rw [List.length_replicate, if_pos h, if_pos h]
  · rw [if_neg h]
    exact scan_blank (by rw [skip_reps, List.length_replicate]) (by rw [List.length_replicate]; omega)
end Go.Proofs.YtkehfolcfcbplaaDoor
