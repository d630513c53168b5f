/- Formulas of linear time as trees, as lists of nodes and as texts, plain. No conditions. -/
import Derived.Test.YtkehfolcfcbplaaGreatDoorSLexO
namespace Go.Proofs.YtkehfolcfcbplaaGreatDoor
open Go.Lib
set_option linter.unusedVariables false
abbrev Nd := Int × Int
def takesP (op : Int) : Int :=
 if op = 1 ∨ op = 2 ∨ op = 3 then 0 else if op = 4 ∨ op = 8 ∨ op = 11 ∨ op = 12 then 1
 else if op = 5 ∨ op = 6 ∨ op = 7 ∨ op = 9 ∨ op = 10 then 2 else -1
def wrongG : List Nd → Int → Nat
 | [], n => if 1 < n then 5 else 0
 | x :: r, n => if takesP x.1 < 0 then 3 else if n < takesP x.1 then 4 else if x.1 = 3 ∧ (x.2 < 0 ∨ 8 ≤ x.2) then 10 else wrongG r (n - takesP x.1 + 1)
def wrongP (f : List Nd) : Nat := if f = [] then 4 else wrongG f 0
def checkP (f : List Nd) : Nat := if 24 < f.length then 5 else wrongP f
inductive Fm where
 | leaf (x : Nd)
 | un (x : Nd) (a : Fm)
 | bin (x : Nd) (a b : Fm)
def Fm.post : Fm → List Nd
 | .leaf x => [x]
 | .un x a => a.post ++ [x]
 | .bin x a b => a.post ++ (b.post ++ [x])
def Fm.ok : Fm → Prop
 | .leaf x => takesP x.1 = 0 ∧ (x.1 = 3 → 0 ≤ x.2 ∧ x.2 < 8)
 | .un x a => takesP x.1 = 1 ∧ a.ok
 | .bin x a b => takesP x.1 = 2 ∧ a.ok ∧ b.ok
def Fm.head : Fm → Nd
 | .leaf x => x
 | .un x _ => x
 | .bin x _ _ => x
theorem Fm.post_pos : ∀ t : Fm, 0 < t.post.length
 | .leaf x => Nat.zero_lt_one
 | .un x a => by rw [Fm.post, List.length_append]; exact Nat.succ_pos _
 | .bin x a b => by rw [Fm.post, List.length_append, List.length_append]; simp only [List.length_cons, List.length_nil]; omega
theorem takes_prop {op : Int} (h : op = 3) : takesP op = 0 := by subst h; rfl
theorem takes_le (op : Int) : takesP op = -1 ∨ takesP op = 0 ∨ takesP op = 1 ∨ takesP op = 2 := by
 unfold takesP
 split
 ·exact .inr (.inl rfl)
 ·split
  ·exact .inr (.inr (.inl rfl))
  ·split
   ·exact .inr (.inr (.inr rfl))
   ·exact .inl rfl
theorem wrong_post : ∀ (t : Fm), t.ok → ∀ (r : List Nd) (n : Int), 0 ≤ n → wrongG (t.post ++ r) n = wrongG r (n + 1)
 | .leaf x, h, r, n, hn => by
  show wrongG (x :: r) n = _
  rw [wrongG, h.1, if_neg (by omega), if_neg (by omega), if_neg (fun e => by have := h.2 e.1; omega)]
  congr 1
  omega
 | .un x a, h, r, n, hn => by
  rw [Fm.post, List.append_assoc, wrong_post a h.2 _ n hn]
  show wrongG (x :: r) (n + 1) = _
  rw [wrongG, h.1, if_neg (by omega), if_neg (by omega), if_neg (fun e => by have h1 := h.1; rw [takes_prop e.1] at h1; omega)]
  congr 1
  omega
 | .bin x a b, h, r, n, hn => by
  rw [Fm.post, List.append_assoc, wrong_post a h.2.1 _ n hn, List.append_assoc, wrong_post b h.2.2 _ (n + 1) (by omega)]
  show wrongG (x :: r) (n + 1 + 1) = _
  rw [wrongG, h.1, if_neg (by omega), if_neg (by omega), if_neg (fun e => by have h1 := h.1; rw [takes_prop e.1] at h1; omega)]
  congr 1
  omega
theorem wrongP_post {t : Fm} (h : t.ok) : wrongP t.post = 0 := by
 have h0 := t.post_pos
 unfold wrongP
 rw [if_neg (fun e => by rw [e] at h0; exact absurd h0 (Nat.lt_irrefl _))]
 have := wrong_post t h [] 0 (Int.le_refl _)
 rw [List.append_nil] at this
 rw [this]
 rfl
def stepT (x : Nd) : List Fm → List Fm
 | S => if takesP x.1 = 0 then .leaf x :: S else if takesP x.1 = 1 then (match S with | a :: S' => .un x a :: S' | [] => [])
  else (match S with | b :: a :: S' => .bin x a b :: S' | _ => [])
def stackT : List Nd → List Fm → List Fm
 | [], S => S
 | x :: r, S => stackT r (stepT x S)
def catT : List Fm → List Nd
 | [] => []
 | t :: S => catT S ++ t.post
theorem step_good {x : Nd} {S : List Fm} (hS : ∀ t ∈ S, t.ok) (h1 : ¬ takesP x.1 < 0) (h2 : ¬ (S.length : Int) < takesP x.1) (h3 : ¬ (x.1 = 3 ∧ (x.2 < 0 ∨ 8 ≤ x.2))) :
  (∀ t ∈ stepT x S, t.ok) ∧ ((stepT x S).length : Int) = S.length - takesP x.1 + 1 ∧ catT (stepT x S) = catT S ++ [x] := by
 unfold stepT
 rcases takes_le x.1 with h | h | h | h
 ·omega
 ·rw [if_pos h]
  refine ⟨fun t ht => ?_, by simp only [List.length_cons]; omega, rfl⟩
  rcases List.mem_cons.1 ht with rfl | ht
  ·exact ⟨h, fun e => by omega⟩
  ·exact hS t ht
 ·rw [if_neg (by omega), if_pos h]
  cases S with
  | nil => simp only [List.length_nil] at h2; omega
  | cons a S =>
   refine ⟨fun t ht => ?_, by simp only [List.length_cons]; omega, ?_⟩
   ·rcases List.mem_cons.1 ht with rfl | ht
    ·exact ⟨h, hS a (List.mem_cons_self ..)⟩
    ·exact hS t (List.mem_cons_of_mem _ ht)
   ·simp only [catT, Fm.post, List.append_assoc]
 ·rw [if_neg (by omega), if_neg (by omega)]
  match S, hS, h2 with
  | [], _, h2 => simp only [List.length_nil] at h2; omega
  | [a], _, h2 => simp only [List.length_cons, List.length_nil] at h2; omega
  | b :: a :: S, hS, h2 =>
   refine ⟨fun t ht => ?_, by simp only [List.length_cons]; omega, ?_⟩
   ·rcases List.mem_cons.1 ht with rfl | ht
    ·exact ⟨h, hS a (List.mem_cons_of_mem _ (List.mem_cons_self ..)), hS b (List.mem_cons_self ..)⟩
    ·exact hS t (List.mem_cons_of_mem _ (List.mem_cons_of_mem _ ht))
   ·simp only [catT, Fm.post, List.append_assoc]
theorem wrongG_stack : ∀ (f : List Nd) (S : List Fm), (∀ t ∈ S, t.ok) → wrongG f S.length = 0 → (∀ t ∈ stackT f S, t.ok) ∧ ¬ 1 < (stackT f S).length ∧ (0 < S.length + f.length → 0 < (stackT f S).length) ∧ catT (stackT f S) = catT S ++ f
 | [], S, hS, h => by
  rw [wrongG] at h
  refine ⟨hS, fun e => ?_, fun e => e, by rw [List.append_nil]; rfl⟩
  have e2 : 1 < S.length := e
  rw [if_pos (by omega)] at h
  cases h
 | x :: r, S, hS, h => by
  rw [wrongG] at h
  split at h
  ·cases h
  ·split at h
   ·cases h
   ·split at h
    ·cases h
    ·rename_i h1 h2 h3
     obtain ⟨g1, g2, g3⟩ := step_good hS h1 h2 h3
     rw [← g2] at h
     obtain ⟨k1, k2, k3, k4⟩ := wrongG_stack r (stepT x S) g1 h
     have hp : 0 < (stepT x S).length := by have := takes_le x.1; omega
     refine ⟨k1, k2, fun _ => k3 (by omega), ?_⟩
     show catT (stackT r (stepT x S)) = _
     rw [k4, g3, List.append_assoc]
     rfl
theorem tree_of {f : List Nd} (h : wrongP f = 0) : ∃ t : Fm, t.ok ∧ t.post = f ∧ stackT f [] = [t] := by
 unfold wrongP at h
 split at h
 ·cases h
 ·rename_i hf
  obtain ⟨k1, k2, k3, k4⟩ := wrongG_stack f [] (fun t ht => by cases ht) h
  have h0 : 0 < f.length := List.length_pos_iff.2 hf
  have k3 := k3 (by omega)
  generalize stackT f [] = S at k1 k2 k3 k4
  match S, k1, k2, k3, k4 with
  | [t], k1, _, _, k4 => exact ⟨t, k1 t (List.mem_cons_self ..), by simpa [catT] using k4, rfl⟩
  | [], _, _, k3, _ => exact absurd k3 (Nat.lt_irrefl _)
  | _ :: _ :: _, _, k2, _, _ => exact absurd (by simp only [List.length_cons]; omega) k2
theorem stack_post : ∀ (t : Fm), t.ok → ∀ (r : List Nd) (S : List Fm), stackT (t.post ++ r) S = stackT r (t :: S)
 | .leaf x, h, r, S => by
  show stackT r (stepT x S) = _
  unfold stepT
  rw [if_pos h.1]
 | .un x a, h, r, S => by
  rw [Fm.post, List.append_assoc, stack_post a h.2]
  show stackT r (stepT x (a :: S)) = _
  unfold stepT
  rw [if_neg (by rw [h.1]; decide), if_pos h.1]
 | .bin x a b, h, r, S => by
  rw [Fm.post, List.append_assoc, stack_post a h.2.1, List.append_assoc, stack_post b h.2.2]
  show stackT r (stepT x (b :: a :: S)) = _
  unfold stepT
  rw [if_neg (by rw [h.1]; decide), if_neg (by rw [h.1]; decide)]
theorem stack_one {t : Fm} (h : t.ok) : stackT t.post [] = [t] := by
 have := stack_post t h [] []
 rw [List.append_nil] at this
 exact this
def wordP (op : Int) : List UInt8 :=
 if op = 1 then [116, 114, 117, 101] else if op = 2 then [102, 97, 108, 115, 101] else if op = 4 then [33] else if op = 5 then [38, 38] else if op = 6 then [124, 124]
 else if op = 7 then [61, 62] else if op = 8 then [88] else if op = 9 then [85] else if op = 10 then [82] else if op = 11 then [70] else if op = 12 then [71] else []
def bindsP (op : Int) : Nat := if op = 5 then 3 else if op = 6 then 2 else if op = 7 then 1 else if op = 9 ∨ op = 10 then 4 else 5
def leftP (op : Int) : Nat := if op = 5 then 3 else if op = 6 then 2 else if op = 7 then 2 else 5
def rightP (op : Int) : Nat := if op = 5 then 4 else if op = 6 then 3 else if op = 7 then 1 else if op = 9 ∨ op = 10 then 4 else 5
def brk (least : Nat) (s : List UInt8) (b : Nat) : List UInt8 := if b < least then 40 :: (s ++ [41]) else s
def txt (nm : Int → List UInt8) : Fm → List UInt8
 | .leaf x => if x.1 = 3 then nm x.2 else wordP x.1
 | .un x a => wordP x.1 ++ ((if x.1 = 4 then [] else [32]) ++ brk 5 (txt nm a) (bindsP a.head.1))
 | .bin x a b => brk (leftP x.1) (txt nm a) (bindsP a.head.1) ++ (32 :: (wordP x.1 ++ (32 :: brk (rightP x.1) (txt nm b) (bindsP b.head.1))))
def ownF : List (List UInt8) := [wordP 1, wordP 2, wordP 4, wordP 5, wordP 6, wordP 7, wordP 8, wordP 9, wordP 10, wordP 11, wordP 12]
def nmP (N : List (List UInt8)) (i : Int) : List UInt8 := N.getD i.toNat []
def mayP (N : List (List UInt8)) (i : Nat) : Bool := nameP (N.getD i []) && !(ownF.contains (N.getD i [])) && !((N.take i).contains (N.getD i []))
def nameErr (N : List (List UInt8)) : List Nd → Nat
 | [] => 0
 | x :: r => if x.1 = 3 then (if (N.length : Int) ≤ x.2 then 8 else if mayP N x.2.toNat = true then nameErr N r else 6) else nameErr N r
def textP (f : List Nd) (N : List (List UInt8)) : List UInt8 × Nat :=
 if checkP f = 0 then (if nameErr N f = 0 then (match stackT f [] with | [t] => (txt (nmP N) t, 0) | _ => ([], 0)) else ([], nameErr N f)) else ([], checkP f)
theorem textP_tree {t : Fm} (h : t.ok) (h2 : t.post.length ≤ 24) {N : List (List UInt8)} (h3 : nameErr N t.post = 0) : textP t.post N = (txt (nmP N) t, 0) := by
 unfold textP checkP
 rw [if_neg (by omega : ¬ 24 < t.post.length), wrongP_post h, if_pos rfl, if_pos h3, stack_one h]
end Go.Proofs.YtkehfolcfcbplaaGreatDoor
