/- Laws of the tokens of a text, plain: back, order, names, bounds. No conditions. -/
import Derived.Test.YtkehfolcfcbplaaDoorLexP
namespace Go.Proofs.YtkehfolcfcbplaaDoor
open Go.Lib

/-- a rest that goes on with a blank, or with nothing -/
def Brk (r : List UInt8) : Prop := r = [] ∨ ∃ r', r = 32 :: r'
theorem Brk.head {r : List UInt8} (h : Brk r) {p : UInt8 → Bool} (hp : p 32 = false) : headB p r = false := by
  rcases h with rfl | ⟨r', rfl⟩
  · rfl
  · exact hp
theorem runB_take {p : UInt8 → Bool} : ∀ {l r : List UInt8}, headB p r = false → runB p (l.take (runB p l) ++ r) = runB p l
  | [], [], _ => rfl
  | [], c :: r, h => by
    have h' : p c = false := h
    show runB p (c :: r) = 0
    rw [runB, if_neg (by rw [h']; decide)]
  | c :: l, r, h => by
    by_cases hc : p c = true
    · rw [runB, if_pos hc, List.take_succ_cons, List.cons_append, runB, if_pos hc, runB_take h]
    · rw [runB, if_neg hc, List.take_zero, List.nil_append]
      cases r with
      | nil => rfl
      | cons d r =>
        have h' : p d = false := h
        rw [runB, if_neg (by rw [h']; decide)]
theorem headB_take {p : UInt8 → Bool} {l r : List UInt8} {n : Nat} (hn : 0 < n) (hl : l ≠ []) : headB p (l.take n ++ r) = headB p l := by
  cases l with
  | nil => exact absurd rfl hl
  | cons c l =>
    obtain ⟨m, rfl⟩ : ∃ m, n = m + 1 := ⟨n - 1, by omega⟩
    rfl
theorem sign_again : ∀ x ∈ signsL, ∀ r, Brk r → headB isLet (x ++ r) = false ∧ headB isDig (x ++ r) = false ∧ signsL.find? (fun y => y.isPrefixOf (x ++ r)) = some x := by
  intro x hx r hr
  simp only [signsL, List.mem_cons, List.not_mem_nil, or_false] at hx
  rcases hr with rfl | ⟨r', rfl⟩ <;> rcases hx with rfl | rfl | rfl | rfl | rfl | rfl | rfl | rfl | rfl | rfl | rfl | rfl | rfl | rfl | rfl | rfl | rfl | rfl | rfl | rfl | rfl | rfl | rfl | rfl | rfl <;> exact ⟨rfl, rfl, rfl⟩
theorem ne_of_head {p : UInt8 → Bool} {l : List UInt8} (h : headB p l = true) : l ≠ [] := by
  intro e
  rw [e] at h
  cases h
theorem let_part {l : List UInt8} (h : headB isLet l = true) : headB isPart l = true := by
  cases l with
  | nil => cases h
  | cons c r =>
    have h' : isLet c = true := h
    show isPart c = true
    unfold isPart
    rw [h']
    rfl
/-- a token's text is that token again, whatever stands behind a blank -/
theorem one_back {l : List UInt8} {k : Nat} {n : Int} {len : Nat} (h : oneP l = .tok k n len) (r : List UInt8) (hr : Brk r) : oneP (l.take len ++ r) = .tok k n len := by
  unfold oneP at h ⊢
  split at h
  · rename_i hl
    split at h
    · cases h
    · rename_i h16
      injection h with e1 e2 e3
      subst e1; subst e2; subst e3
      rw [headB_take (runB_pos (let_part hl)) (ne_of_head hl), if_pos hl, runB_take (hr.head (by decide)), if_neg h16]
  · rename_i hl
    split at h
    · rename_i hd
      split at h
      · rename_i hn
        injection h with e1 e2 e3
        subst e1; subst e3
        rw [headB_take (runB_pos hd) (ne_of_head hd), if_neg hl, headB_take (runB_pos hd) (ne_of_head hd), if_pos hd, runB_take (hr.head (by decide))]
        have e : (l.take (runB isDig l) ++ r).take (runB isDig l) = l.take (runB isDig l) := by
          rw [List.take_append_of_le_length (by rw [List.length_take]; have := runB_le isDig l; omega), List.take_take, Nat.min_self]
        rw [e, if_pos hn, e2]
      · cases h
    · split at h
      · rename_i x hx
        injection h with e1 e2 e3
        subst e1; subst e2; subst e3
        obtain ⟨h1, h2⟩ := find_prefix hx
        rw [(prefix_take h2).2]
        obtain ⟨a, b, c⟩ := sign_again x h1 r hr
        rw [if_neg (by rw [a]; decide), if_neg (by rw [b]; decide), c]
      · cases h
/-- a token does not begin with what stands between tokens -/
theorem skip_one {l : List UInt8} {k : Nat} {n : Int} {len : Nat} (h : oneP l = .tok k n len) : skipL l = 0 := by
  cases l with
  | nil => rfl
  | cons c r =>
    show skipG false (c :: r) = 0
    rw [skipG]
    have hc : ¬ (c.toNat = 32 ∨ c.toNat = 10) ∧ ¬ c.toNat = 35 := by
      unfold oneP at h
      split at h
      · rename_i hl
        have hl' : isLet c = true := hl
        unfold isLet at hl'
        simp only [Bool.or_eq_true, Bool.and_eq_true, decide_eq_true_eq] at hl'
        omega
      · split at h
        · rename_i hd
          have hd' : isDig c = true := hd
          unfold isDig at hd'
          simp only [Bool.and_eq_true, decide_eq_true_eq] at hd'
          omega
        · split at h
          · rename_i x hx
            obtain ⟨h1, h2⟩ := find_prefix hx
            have h3 : ∀ x ∈ signsL, ∀ y, x.head? = some y → ¬ (y.toNat = 32 ∨ y.toNat = 10) ∧ ¬ y.toNat = 35 := by decide
            cases x with
            | nil => exact absurd (sign_pos _ h1).1 (by decide)
            | cons y x =>
              rw [List.isPrefixOf, Bool.and_eq_true] at h2
              have : y = c := by simpa using h2.1
              subst this
              exact h3 _ h1 _ rfl
          · cases h
    rw [if_neg hc.1, if_neg hc.2]
/-- texts with a blank between them -/
def joinT : List (List UInt8) → List UInt8
  | [] => []
  | [t] => t
  | t :: u :: r => t ++ 32 :: joinT (u :: r)
/-- a token as a text has it -/
def GoodT (t : Tk) : Prop := 0 < t.text.length ∧ ∀ r, Brk r → oneP (t.text ++ r) = .tok t.kind t.n t.text.length
def strip (t : Tk) : Nat × Int × List UInt8 := (t.kind, t.n, t.text)
theorem GoodT.skip {t : Tk} (h : GoodT t) {r : List UInt8} (hr : Brk r) : skipL (t.text ++ r) = 0 := skip_one (h.2 r hr)
theorem join_skip : ∀ {T : List Tk}, (∀ t ∈ T, GoodT t) → skipL (joinT (T.map (·.text))) = 0
  | [], _ => rfl
  | [t], h => by
    have := (h t (List.mem_cons_self ..)).skip (r := []) (.inl rfl)
    rw [List.append_nil] at this
    exact this
  | t :: u :: T, h => (h t (List.mem_cons_self ..)).skip (.inr ⟨_, rfl⟩)
theorem scan_join (M : List UInt8) : ∀ (T : List Tk), (∀ t ∈ T, GoodT t) → ∀ (f a : Nat) (acc : List Tk), T.length < f → acc.length + T.length ≤ 6000 → a ≤ M.length → M.drop a = joinT (T.map (·.text)) → ∃ T', scanF M f a acc = ⟨acc ++ T', 0, 0⟩ ∧ T'.map strip = T.map strip
  | [], _, f, a, acc, hf, _, ha, hM => by
    obtain ⟨f, rfl⟩ : ∃ g, f = g + 1 := ⟨f - 1, by simp at hf; omega⟩
    have : M.length ≤ a := by
      have := congrArg List.length hM
      simp only [List.length_drop, List.map_nil, joinT, List.length_nil] at this
      omega
    refine ⟨[], ?_, rfl⟩
    rw [scanF, if_neg (by omega), List.append_nil]
  | t :: T, hg, f, a, acc, hf, h6, ha, hM => by
    obtain ⟨f, rfl⟩ : ∃ g, f = g + 1 := ⟨f - 1, by simp at hf; omega⟩
    have gt := hg t (List.mem_cons_self ..)
    simp only [List.length_cons] at hf h6
    obtain ⟨r, hr, hM2, hsk⟩ : ∃ r, Brk r ∧ M.drop a = t.text ++ r ∧ (r = [] ∧ T = [] ∨ r = 32 :: joinT (T.map (·.text))) := by
      cases T with
      | nil => exact ⟨[], .inl rfl, by rw [List.append_nil]; exact hM, .inl ⟨rfl, rfl⟩⟩
      | cons u T => exact ⟨_, .inr ⟨_, rfl⟩, hM, .inr rfl⟩
    have hlen : M.length - a = t.text.length + r.length := by
      have := congrArg List.length hM2
      rw [List.length_drop, List.length_append] at this
      exact this
    have h0 := gt.1
    have hdrop : M.drop (a + t.text.length) = r := by
      rw [← List.drop_drop, hM2, List.drop_left]
    rw [scanF, if_pos (by omega), if_neg (by omega), hM2, gt.2 r hr]
    simp only [hdrop, List.take_left]
    rcases hsk with ⟨rfl, rfl⟩ | rfl
    · obtain ⟨T', e1, e2⟩ := scan_join M [] (fun t ht => by cases ht) f (a + t.text.length + skipL []) (acc ++ [⟨t.kind, t.n, a, t.text⟩]) (by simp; omega) (by simp; omega) (by show a + t.text.length + 0 ≤ _; simp at hlen; omega) (by show M.drop (a + t.text.length + 0) = []; exact hdrop)
      refine ⟨⟨t.kind, t.n, a, t.text⟩ :: T', ?_, by simp [e2, strip]⟩
      rw [e1]
      simp
    · have hs : skipL (32 :: joinT (T.map (·.text))) = 1 := by
        show skipG false _ = 1
        rw [skipG, if_pos (.inl (by decide))]
        have := join_skip (T := T) (fun t ht => hg t (List.mem_cons_of_mem _ ht))
        unfold skipL at this
        rw [this]
      rw [hs]
      simp only [List.length_cons] at hlen
      obtain ⟨T', e1, e2⟩ := scan_join M T (fun t ht => hg t (List.mem_cons_of_mem _ ht)) f (a + t.text.length + 1) (acc ++ [⟨t.kind, t.n, a, t.text⟩]) (by omega) (by simp; omega) (by omega) (by rw [← List.drop_drop, hdrop]; rfl)
      refine ⟨⟨t.kind, t.n, a, t.text⟩ :: T', ?_, by simp [e2, strip]⟩
      rw [e1]
      simp
/-- what scanF's tokens are -/
theorem scan_good (L : List UInt8) : ∀ (f a : Nat) (acc : List Tk), (∀ t ∈ acc, GoodT t) → ∀ t ∈ (scanF L f a acc).toks, GoodT t
  | 0, a, acc, h => h
  | f + 1, a, acc, h => by
    rw [scanF]
    split
    · split
      · intro t ht; cases ht
      · split
        · intro t ht; cases ht
        · rename_i k n len h1
          refine scan_good L f _ _ (fun t ht => ?_)
          rcases List.mem_append.1 ht with ht | ht
          · exact h t ht
          · rw [List.mem_singleton] at ht
            subst ht
            obtain ⟨q1, q2⟩ := one_tok h1
            have e : ((L.drop a).take len).length = len := by rw [List.length_take]; omega
            refine ⟨by rw [e]; exact q1, fun r hr => ?_⟩
            rw [e]
            exact one_back h1 r hr
    · exact h
/-- how long all texts are together -/
def sumT (T : List Tk) : Nat := (T.map (fun t => t.text.length)).sum
theorem scan_sum (L : List UInt8) : ∀ (f a : Nat) (acc : List Tk), a ≤ L.length → sumT acc ≤ a → acc.length ≤ a → sumT (scanF L f a acc).toks ≤ L.length ∧ (scanF L f a acc).toks.length ≤ L.length
  | 0, a, acc, ha, h, h2 => ⟨Nat.le_trans h ha, Nat.le_trans h2 ha⟩
  | f + 1, a, acc, ha, h, h2 => by
    rw [scanF]
    split
    · split
      · exact ⟨Nat.zero_le _, Nat.zero_le _⟩
      · split
        · exact ⟨Nat.zero_le _, Nat.zero_le _⟩
        · rename_i k n len h1
          obtain ⟨q1, q2⟩ := one_tok h1
          rw [List.length_drop] at q2
          have hsk := skipG_le false (L.drop (a + len))
          rw [List.length_drop] at hsk
          have e : ((L.drop a).take len).length = len := by rw [List.length_take, List.length_drop]; omega
          refine scan_sum L f _ _ (by unfold skipL; omega) ?_ ?_
          · unfold sumT at h ⊢
            rw [List.map_append, List.sum_append]
            simp only [List.map_cons, List.map_nil, List.sum_cons, List.sum_nil, e]
            omega
          · rw [List.length_append]
            simp only [List.length_cons, List.length_nil]
            omega
    · exact ⟨Nat.le_trans h ha, Nat.le_trans h2 ha⟩
theorem join_len : ∀ (T : List Tk), (joinT (T.map (·.text))).length ≤ sumT T + T.length
  | [] => Nat.le_refl _
  | [t] => by simp [joinT, sumT]
  | t :: u :: T => by
    have := join_len (u :: T)
    simp only [List.map_cons, joinT, List.length_append, List.length_cons, sumT, List.sum_cons] at this ⊢
    omega
/-- LexBack -/
theorem lex_back (L : List UInt8) (hL : L.length ≤ 3000) : ∃ T', scanLex (joinT ((scanLex L).toks.map (·.text))) = ⟨T', 0, 0⟩ ∧ T'.map strip = (scanLex L).toks.map strip := by
  have hg : ∀ t ∈ (scanLex L).toks, GoodT t := by
    unfold scanLex
    split
    · intro t ht; cases ht
    · exact scan_good L _ _ [] (fun t ht => by cases ht)
  have hs : sumT (scanLex L).toks ≤ L.length ∧ (scanLex L).toks.length ≤ L.length := by
    unfold scanLex
    split
    · exact ⟨Nat.zero_le _, Nat.zero_le _⟩
    · exact scan_sum L _ _ [] (skipG_le _ _) (Nat.zero_le _) (Nat.zero_le _)
  generalize (scanLex L).toks = T at hg hs ⊢
  have hj := join_len T
  have hk : T.length ≤ (joinT (T.map (·.text))).length := by
    clear hs hj
    induction T with
    | nil => exact Nat.zero_le _
    | cons t T ih =>
      have h0 := (hg t (List.mem_cons_self ..)).1
      have ih := ih (fun t ht => hg t (List.mem_cons_of_mem _ ht))
      cases T with
      | nil => simp only [List.map_cons, List.map_nil, joinT, List.length_cons, List.length_nil]; omega
      | cons u T =>
        simp only [List.map_cons, joinT, List.length_append, List.length_cons] at ih ⊢
        omega
  unfold scanLex
  rw [if_neg (by omega)]
  obtain ⟨T', e1, e2⟩ := scan_join (joinT (T.map (·.text))) T hg ((joinT (T.map (·.text))).length + 1) (skipL (joinT (T.map (fun t : Tk => t.text)))) [] (by omega) (by simp; omega) (skipG_le false _) (by rw [join_skip hg]; rfl)
  exact ⟨T', by rw [e1, List.nil_append], e2⟩
end Go.Proofs.YtkehfolcfcbplaaDoor
