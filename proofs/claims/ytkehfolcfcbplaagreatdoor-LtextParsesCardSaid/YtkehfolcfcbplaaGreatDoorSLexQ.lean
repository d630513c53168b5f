/- Laws of the tokens of a text, plain: back, order, names, bounds. No conditions. -/
import Derived.Test.YtkehfolcfcbplaaGreatDoorSLexP
namespace Go.Proofs.YtkehfolcfcbplaaGreatDoor
open Go.Lib
def Brk (r : List UInt8) : Prop := r = [] ∨ ∃ r', r = 32 :: r'
theorem Brk.head {r : List UInt8} (h : Brk r) {p : UInt8 → Bool} (hp : p 32 = false) : headB p r = false := by
 rcases h with rfl | ⟨r', rfl⟩
 ·rfl
 ·exact hp
theorem runB_take {p : UInt8 → Bool} : ∀ {l r : List UInt8}, headB p r = false → runB p (l.take (runB p l) ++ r) = runB p l
 | [], [], _ => rfl
 | [], c :: r, h => by
  have h' : p c = false := h
  show runB p (c :: r) = 0
  rw [runB, if_neg (by rw [h']; decide)]
 | c :: l, r, h => by
  by_cases hc : p c = true
  ·rw [runB, if_pos hc, List.take_succ_cons, List.cons_append, runB, if_pos hc, runB_take h]
  ·rw [runB, if_neg hc, List.take_zero, List.nil_append]
   cases r with
   | nil => rfl
   | cons d r =>
    have h' : p d = false := h
    rw [runB, if_neg (by rw [h']; decide)]
theorem headB_take {p : UInt8 → Bool} {l r : List UInt8} {n : Nat} (hn : 0 < n) (hl : l ≠ []) : headB p (l.take n ++ r) = headB p l := by
 cases l with
 | nil => exact absurd rfl hl
 | cons c l =>
  obtain ⟨m, rfl⟩ : ∃ m, n = m + 1 := ⟨n - 1, by omega⟩
  rfl
theorem sign_again : ∀ x ∈ signsL, ∀ r, Brk r → headB isLet (x ++ r) = false ∧ headB isDig (x ++ r) = false ∧ signsL.find? (fun y => y.isPrefixOf (x ++ r)) = some x := by
 intro x hx r hr
 simp only [signsL, List.mem_cons, List.not_mem_nil, or_false] at hx
 rcases hr with rfl | ⟨r', rfl⟩ <;> rcases hx with rfl | rfl | rfl | rfl | rfl | rfl | rfl | rfl | rfl | rfl | rfl | rfl | rfl | rfl | rfl | rfl | rfl | rfl | rfl | rfl | rfl | rfl | rfl | rfl | rfl <;> exact ⟨rfl, rfl, rfl⟩
theorem ne_of_head {p : UInt8 → Bool} {l : List UInt8} (h : headB p l = true) : l ≠ [] := by
 intro e
 rw [e] at h
 cases h
theorem let_part {l : List UInt8} (h : headB isLet l = true) : headB isPart l = true := by
 cases l with
 | nil => cases h
 | cons c r =>
  have h' : isLet c = true := h
  show isPart c = true
  unfold isPart
  rw [h']
  rfl
theorem one_back {l : List UInt8} {k : Nat} {n : Int} {len : Nat} (h : oneP l = .tok k n len) (r : List UInt8) (hr : Brk r) : oneP (l.take len ++ r) = .tok k n len := by
 unfold oneP at h ⊢
 split at h
 ·rename_i hl
  split at h
  ·cases h
  ·rename_i h16
   injection h with e1 e2 e3
   subst e1; subst e2; subst e3
   rw [headB_take (runB_pos (let_part hl)) (ne_of_head hl), if_pos hl, runB_take (hr.head (by decide)), if_neg h16]
 ·rename_i hl
  split at h
  ·rename_i hd
   split at h
   ·rename_i hn
    injection h with e1 e2 e3
    subst e1; subst e3
    rw [headB_take (runB_pos hd) (ne_of_head hd), if_neg hl, headB_take (runB_pos hd) (ne_of_head hd), if_pos hd, runB_take (hr.head (by decide))]
    have e : (l.take (runB isDig l) ++ r).take (runB isDig l) = l.take (runB isDig l) := by
     rw [List.take_append_of_le_length (by rw [List.length_take]; have := runB_le isDig l; omega), List.take_take, Nat.min_self]
    rw [e, if_pos hn, e2]
   ·cases h
  ·split at h
   ·rename_i x hx
    injection h with e1 e2 e3
    subst e1; subst e2; subst e3
    obtain ⟨h1, h2⟩ := find_prefix hx
    rw [(prefix_take h2).2]
    obtain ⟨a, b, c⟩ := sign_again x h1 r hr
    rw [if_neg (by rw [a]; decide), if_neg (by rw [b]; decide), c]
   ·cases h
theorem skip_one {l : List UInt8} {k : Nat} {n : Int} {len : Nat} (h : oneP l = .tok k n len) : skipL l = 0 := by
 cases l with
 | nil => rfl
 | cons c r =>
  show skipG false (c :: r) = 0
  rw [skipG]
  have hc : ¬ (c.toNat = 32 ∨ c.toNat = 10) ∧ ¬ c.toNat = 35 := by
   unfold oneP at h
   split at h
   ·rename_i hl
    have hl' : isLet c = true := hl
    unfold isLet at hl'
    simp only [Bool.or_eq_true, Bool.and_eq_true, decide_eq_true_eq] at hl'
    omega
   ·split at h
    ·rename_i hd
     have hd' : isDig c = true := hd
     unfold isDig at hd'
     simp only [Bool.and_eq_true, decide_eq_true_eq] at hd'
     omega
    ·split at h
     ·rename_i x hx
      obtain ⟨h1, h2⟩ := find_prefix hx
      have h3 : ∀ x ∈ signsL, ∀ y, x.head? = some y → ¬ (y.toNat = 32 ∨ y.toNat = 10) ∧ ¬ y.toNat = 35 := by decide
      cases x with
      | nil => exact absurd (sign_pos _ h1).1 (by decide)
      | cons y x =>
       rw [List.isPrefixOf, Bool.and_eq_true] at h2
       have : y = c := by simpa using h2.1
       subst this
       exact h3 _ h1 _ rfl
     ·cases h
  rw [if_neg hc.1, if_neg hc.2]
def GoodT (t : Tk) : Prop := 0 < t.text.length ∧ ∀ r, Brk r → oneP (t.text ++ r) = .tok t.kind t.n t.text.length
theorem GoodT.skip {t : Tk} (h : GoodT t) {r : List UInt8} (hr : Brk r) : skipL (t.text ++ r) = 0 := skip_one (h.2 r hr)
theorem scan_good (L : List UInt8) : ∀ (f a : Nat) (acc : List Tk), (∀ t ∈ acc, GoodT t) → ∀ t ∈ (scanF L f a acc).toks, GoodT t
 | 0, a, acc, h => h
 | f + 1, a, acc, h => by
  rw [scanF]
  split
  ·split
   ·intro t ht; cases ht
   ·split
    ·intro t ht; cases ht
    ·rename_i k n len h1
     refine scan_good L f _ _ (fun t ht => ?_)
     rcases List.mem_append.1 ht with ht | ht
     ·exact h t ht
     ·rw [List.mem_singleton] at ht
      subst ht
      obtain ⟨q1, q2⟩ := one_tok h1
      have e : ((L.drop a).take len).length = len := by rw [List.length_take]; omega
      refine ⟨by rw [e]; exact q1, fun r hr => ?_⟩
      rw [e]
      exact one_back h1 r hr
  ·exact h
end Go.Proofs.YtkehfolcfcbplaaGreatDoor
