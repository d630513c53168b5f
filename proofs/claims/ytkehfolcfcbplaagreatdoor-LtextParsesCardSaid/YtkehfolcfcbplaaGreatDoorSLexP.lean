/- Tokens, plain: what a text is cut into. No conditions. -/
import Derived.Test.YtkehfolcfcbplaaGreatDoorSNumTextP
namespace Go.Proofs.YtkehfolcfcbplaaGreatDoor
open Go.Lib
def isLet (c : UInt8) : Bool := (decide (97 ≤ c.toNat) && decide (c.toNat ≤ 122)) || (decide (65 ≤ c.toNat) && decide (c.toNat ≤ 90))
def isDig (c : UInt8) : Bool := decide (48 ≤ c.toNat) && decide (c.toNat ≤ 57)
def isPart (c : UInt8) : Bool := isLet c || isDig c || decide (c.toNat = 95)
def runB (p : UInt8 → Bool) : List UInt8 → Nat
 | [] => 0
 | c :: r => if p c = true then runB p r + 1 else 0
def skipG : Bool → List UInt8 → Nat
 | _, [] => 0
 | false, c :: r => if c.toNat = 32 ∨ c.toNat = 10 then skipG false r + 1 else if c.toNat = 35 then skipG true r + 1 else 0
 | true, c :: r => if c.toNat = 10 then skipG false r + 1 else skipG true r + 1
def skipL (l : List UInt8) : Nat := skipG false l
def signsL : List (List UInt8) := [[58, 61], [61, 61], [33, 61], [60, 61], [45, 62], [38, 38], [124, 124], [61, 62], [40], [41], [91], [93], [123], [125], [59], [44], [58], [46], [60], [43], [45], [42], [33], [63], [64]]
def headB (p : UInt8 → Bool) : List UInt8 → Bool
 | [] => false
 | c :: _ => p c
inductive OneR where
 | err (e : Nat)
 | tok (k : Nat) (n : Int) (len : Nat)
def oneP (l : List UInt8) : OneR :=
 if headB isLet l = true then (if 16 < runB isPart l then .err 6 else .tok 1 0 (runB isPart l))
 else if headB isDig l = true then (if (numP (l.take (runB isDig l))).2 = true then .tok 2 (numP (l.take (runB isDig l))).1 (runB isDig l) else .err 10)
 else match signsL.find? (fun x => x.isPrefixOf l) with
  | some x => .tok 3 0 x.length
  | none => .err 13
structure Tk where
 kind : Nat
 n : Int
 at_ : Nat
 text : List UInt8
deriving DecidableEq
structure ScR where
 toks : List Tk
 at_ : Nat
 e : Nat
def scanF (L : List UInt8) : Nat → Nat → List Tk → ScR
 | 0, _, acc => ⟨acc, 0, 0⟩
 | f + 1, a, acc =>
  if a < L.length then
   if 6000 ≤ acc.length then ⟨[], a, 11⟩
   else match oneP (L.drop a) with
    | .err e => ⟨[], a, e⟩
    | .tok k n len => scanF L f (a + len + skipL (L.drop (a + len))) (acc ++ [⟨k, n, a, (L.drop a).take len⟩])
  else ⟨acc, 0, 0⟩
def scanLex (L : List UInt8) : ScR := if 20000 < L.length then ⟨[], 0, 5⟩ else scanF L (L.length + 1) (skipL L) []
theorem runB_le (p : UInt8 → Bool) : ∀ l, runB p l ≤ l.length
 | [] => Nat.le_refl _
 | c :: r => by
  rw [runB]
  have := runB_le p r
  split <;> simp only [List.length_cons] <;> omega
theorem runB_pos {p : UInt8 → Bool} {l : List UInt8} (h : headB p l = true) : 0 < runB p l := by
 cases l with
 | nil => cases h
 | cons c r =>
  have h' : p c = true := h
  rw [runB, if_pos h']
  omega
theorem skipG_le : ∀ b l, skipG b l ≤ l.length
 | b, [] => by cases b <;> exact Nat.le_refl _
 | false, c :: r => by
  have h1 := skipG_le false r
  have h2 := skipG_le true r
  rw [skipG]
  split
  ·simp only [List.length_cons]; omega
  ·split <;> simp only [List.length_cons] <;> omega
 | true, c :: r => by
  have h1 := skipG_le false r
  have h2 := skipG_le true r
  rw [skipG]
  split <;> simp only [List.length_cons] <;> omega
theorem sign_pos : ∀ x ∈ signsL, 0 < x.length ∧ x.length ≤ 2 := by decide
theorem find_prefix {l x : List UInt8} (h : signsL.find? (fun x => x.isPrefixOf l) = some x) : x ∈ signsL ∧ x.isPrefixOf l = true := ⟨List.mem_of_find?_eq_some h, List.find?_some (p := fun x : List UInt8 => x.isPrefixOf l) h⟩
theorem prefix_take : ∀ {x l : List UInt8}, x.isPrefixOf l = true → x.length ≤ l.length ∧ l.take x.length = x
 | [], l, _ => ⟨Nat.zero_le _, rfl⟩
 | a :: x, [], h => by cases h
 | a :: x, b :: l, h => by
  rw [List.isPrefixOf, Bool.and_eq_true] at h
  obtain ⟨h1, h2⟩ := prefix_take h.2
  have : a = b := by simpa using h.1
  exact ⟨by simp only [List.length_cons]; omega, by simp [h2, this]⟩
theorem one_tok {l : List UInt8} {k : Nat} {n : Int} {len : Nat} (h : oneP l = .tok k n len) : 0 < len ∧ len ≤ l.length := by
 unfold oneP at h
 split at h
 ·rename_i hl
  split at h
  ·cases h
  ·injection h with _ _ h
   subst h
   exact ⟨by
    cases l with
    | nil => cases hl
    | cons c r =>
     have h' : isLet c = true := hl
     rw [runB, if_pos (by unfold isPart; rw [h']; rfl)]
     omega, runB_le _ _⟩
 ·split at h
  ·rename_i hd
   split at h
   ·injection h with _ _ h
    subst h
    exact ⟨runB_pos hd, runB_le _ _⟩
   ·cases h
  ·split at h
   ·rename_i x hx
    injection h with _ _ h
    subst h
    obtain ⟨h1, h2⟩ := find_prefix hx
    exact ⟨(sign_pos x h1).1, (prefix_take h2).1⟩
   ·cases h
end Go.Proofs.YtkehfolcfcbplaaGreatDoor
