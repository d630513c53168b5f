/- What Parse gives, plain, and that a text leads back. No conditions. -/
import Derived.Test.YtkehfolcfcbplaaGreatDoorSLtR
namespace Go.Proofs.YtkehfolcfcbplaaGreatDoor
open Go.Lib
set_option linter.unusedVariables false
def differP : List UInt8 → List UInt8 → Nat
 | a :: l, b :: r => if a = b then differP l r + 1 else 0
 | _, _ => 0
def clsL (N : List (List UInt8)) (T : List Tk) : List Cls := T.map (fun t => clsP N t.kind t.text)
def stopP (L : List UInt8) (N : List (List UInt8)) (T : List Tk) (r : List Cls) : Nat × Nat :=
 match r with
 | [] => (L.length, 4)
 | c :: r' => (((T.map (·.at_)).getD (T.length - (r'.length + 1)) 0), errC c)
def resP (L : List UInt8) (N : List (List UInt8)) (T : List Tk) : Res → List Nd × Nat × Nat
 | .no r => ([], stopP L N T r)
 | .ok t r => match r with
  | [] => if 24 < t.post.length then ([], L.length, 5) else if txt (nmP N) t = L then (t.post, 0, 0) else ([], differP (txt (nmP N) t) L, 13)
  | c :: r' => ([], stopP L N T (c :: r'))
def ParseR (L : List UInt8) (N : List (List UInt8)) (o : List Nd × Nat × Nat) : Prop :=
 if (scanLex L).e = 0 then ∃ R, PrsR (.joint 1) (clsL N (scanLex L).toks) R ∧ o = resP L N (scanLex L).toks R
 else o = ([], (scanLex L).at_, (scanLex L).e)
theorem ParseR.det {L : List UInt8} {N : List (List UInt8)} {o p : List Nd × Nat × Nat} (h : ParseR L N o) (h2 : ParseR L N p) : o = p := by
 unfold ParseR at h h2
 split at h
 ·rename_i e
  rw [if_pos e] at h2
  obtain ⟨R, a, b⟩ := h
  obtain ⟨S, c, d⟩ := h2
  rw [b, d, a.det c]
 ·rename_i e
  rw [if_neg e] at h2
  rw [h, h2]
theorem parse_total (L : List UInt8) (N : List (List UInt8)) : ∃ o, ParseR L N o := by
 unfold ParseR
 split
 ·obtain ⟨R, h, _⟩ := prs_total (needP (.joint 1) (clsL N (scanLex L).toks).length) (.joint 1) (clsL N (scanLex L).toks) ⟨by decide, by decide⟩ (Nat.le_refl _)
  exact ⟨_, R, ⟨_, h⟩, rfl⟩
 ·exact ⟨_, rfl⟩
theorem opOf_cases (s : List UInt8) : opOf s = 0 ∨ (takesP (opOf s) = 0 ∧ opOf s ≠ 3) ∨ takesP (opOf s) = 1 ∨ takesP (opOf s) = 2 := by
 unfold opOf
 repeat (split; decide)
 exact .inl rfl
theorem cls_good (N : List (List UInt8)) (k : Nat) (s : List UInt8) : goodC N (clsP N k s) := by
 unfold clsP
 split
 ·trivial
 ·split
  ·trivial
  ·split
   ·trivial
   ·split
    ·split
     ·split
      ·rename_i i hi
       have h1 := List.mem_of_find?_eq_some hi
       have h2 := List.find?_some hi
       rw [List.mem_range] at h1
       rw [Bool.and_eq_true] at h2
       exact ⟨by omega, by omega, h2.2⟩
      ·trivial
     ·trivial
    ·rename_i h0
     rcases opOf_cases s with h | h | h | h
     ·exact absurd h h0
     ·rw [if_pos h.1]; exact h
     ·rw [if_neg (by omega), if_pos h]; exact h
     ·rw [if_neg (by omega), if_neg (by omega)]; exact h
theorem clsL_good (N : List (List UInt8)) (T : List Tk) : ∀ c ∈ clsL N T, goodC N c := by
 intro c hc
 obtain ⟨t, _, rfl⟩ := List.mem_map.1 hc
 exact cls_good _ _ _
theorem opOf_word {op : Int} (h : takesP op = 0 ∧ op ≠ 3 ∨ takesP op = 1 ∨ takesP op = 2) : opOf (wordP op) = op ∧ wordP op ≠ [40] ∧ wordP op ≠ [41] ∧ kindP op ≠ 2 := by
 unfold takesP at h
 split at h
 ·rename_i h1
  rcases h1 with rfl | rfl | rfl
  ·decide
  ·decide
  ·rcases h with h | h | h
   ·exact absurd rfl h.2
   ·cases h
   ·cases h
 ·split at h
  ·rename_i h1
   rcases h1 with rfl | rfl | rfl | rfl <;> decide
  ·split at h
   ·rename_i h1
    rcases h1 with rfl | rfl | rfl | rfl | rfl <;> decide
   ·rcases h with h | h | h
    ·cases h.1
    ·cases h
    ·cases h
theorem opOf_zero {s : List UInt8} (h : ownF.contains s = false) : opOf s = 0 := by
 have h2 : ∀ w ∈ ownF, s ≠ w := fun w hw e => by
  subst e
  rw [← Bool.not_eq_true, List.contains_iff_mem] at h
  exact h hw
 unfold opOf
 rw [if_neg (h2 _ (by decide)), if_neg (h2 _ (by decide)), if_neg (h2 _ (by decide)), if_neg (h2 _ (by decide)), if_neg (h2 _ (by decide)), if_neg (h2 _ (by decide)), if_neg (h2 _ (by decide)), if_neg (h2 _ (by decide)), if_neg (h2 _ (by decide)), if_neg (h2 _ (by decide)), if_neg (h2 _ (by decide))]
theorem may_facts {N : List (List UInt8)} {i : Nat} (h : mayP N i = true) : nameP (N.getD i []) = true ∧ ownF.contains (N.getD i []) = false ∧ (N.take i).contains (N.getD i []) = false := by
 unfold mayP at h
 simp only [Bool.and_eq_true, Bool.not_eq_true'] at h
 exact ⟨h.1.1, h.1.2, h.2⟩
theorem getD_mem {N : List (List UInt8)} {j i : Nat} (hj : j < i) (hi : i ≤ N.length) : N.getD j [] ∈ N.take i := by
 have h1 : j < N.length := by omega
 rw [List.mem_take_iff_getElem]
 exact ⟨j, by omega, by simp [List.getD, List.getElem?_eq_getElem h1]⟩
theorem find_range {p : Nat → Bool} {n i : Nat} (hi : i < n) (hp : p i = true) (hn : ∀ j, j < i → p j = false) : (List.range n).find? p = some i := by
 rw [List.find?_eq_some_iff_append]
 refine ⟨hp, List.range i, (List.range (n - i - 1)).map (· + (i + 1)), ?_, fun j hj => by rw [hn j (List.mem_range.1 hj)]; rfl⟩
 obtain ⟨d, rfl⟩ : ∃ d, n = i + (d + 1) := ⟨n - i - 1, by omega⟩
 rw [List.range_add, show i + (d + 1) - i - 1 = d by omega, List.range_succ_eq_map, List.map_cons, List.map_map]
 congr 2
 apply List.map_congr_left
 intro x _
 show i + (x + 1) = x + (i + 1)
 omega
theorem nameAt_may {N : List (List UInt8)} {i : Nat} (hi : i < N.length) (h8 : i < 8) (h : mayP N i = true) : nameAt N (N.getD i []) = some i := by
 obtain ⟨a, b, c⟩ := may_facts h
 refine find_range (by omega) (by rw [h, Bool.and_true, beq_self_eq_true]) (fun j hj => ?_)
 have : (N.getD j [] == N.getD i []) = false := by
  rw [beq_eq_false_iff_ne]
  intro e
  have hm := getD_mem (N := N) (i := i) hj (by omega)
  rw [e] at hm
  rw [← Bool.not_eq_true, List.contains_iff_mem] at c
  exact c hm
 rw [this, Bool.false_and]
theorem nameErr_append (N : List (List UInt8)) : ∀ (f g : List Nd), nameErr N (f ++ g) = 0 → nameErr N f = 0 ∧ nameErr N g = 0
 | [], g, h => ⟨rfl, h⟩
 | x :: f, g, h => by
  rw [List.cons_append, nameErr] at h
  rw [nameErr]
  split at h
  ·rename_i h3
   split at h
   ·cases h
   ·rename_i h4
    split at h
    ·rename_i h5
     rw [if_pos h3, if_neg h4, if_pos h5]
     exact nameErr_append N f g h
    ·cases h
  ·rename_i h3
   rw [if_neg h3]
   exact nameErr_append N f g h
theorem goodN_of (N : List (List UInt8)) : ∀ t : Fm, nameErr N t.post = 0 → GoodN N t
 | .leaf x, h => fun e => by
  change nameErr N [x] = 0 at h
  rw [nameErr, if_pos e] at h
  split at h
  ·cases h
  ·rename_i h1
   split at h
   ·rename_i h2; exact ⟨by omega, h2⟩
   ·cases h
 | .un x a, h => goodN_of N a (nameErr_append N _ _ h).1
 | .bin x a b, h => ⟨goodN_of N a (nameErr_append N _ _ h).1, goodN_of N b (nameErr_append N _ _ (nameErr_append N _ _ h).2).1⟩
theorem goodNm_of (N : List (List UInt8)) : ∀ t : Fm, GoodN N t → goodNm (nmP N) t
 | .leaf x, h => fun e => (may_facts (h e).2).1
 | .un x a, h => goodNm_of N a h
 | .bin x a b, h => ⟨goodNm_of N a h.1, goodNm_of N b h.2⟩
theorem head_word {c : UInt8} {r : List UInt8} (h : headB isLet (c :: r) = true) : c :: r ≠ [40] ∧ c :: r ≠ [41] := by
 have h' : isLet c = true := h
 constructor <;> intro e <;> injection e with e1 e2 <;> subst e1 <;> revert h' <;> decide
theorem word_len (op : Int) : (wordP op).length ≤ 5 := by
 unfold wordP
 repeat (split; decide)
 decide
theorem brk_len (l : Nat) (s : List UInt8) (b : Nat) : (brk l s b).length ≤ s.length + 2 := by
 unfold brk
 split
 ·simp
 ·omega
theorem brkK_len (l : Nat) (s : List (Nat × List UInt8)) (b : Nat) : (brkK l s b).length ≤ s.length + 2 := by
 unfold brkK
 split
 ·simp
 ·omega
theorem txt_len (nm : Int → List UInt8) : ∀ t : Fm, goodNm nm t → (txt nm t).length ≤ 20 * t.post.length ∧ (tokT nm t).length ≤ 5 * t.post.length
 | .leaf x, h => by
  refine ⟨?_, by show 1 ≤ 5 * 1; decide⟩
  show (if x.1 = 3 then nm x.2 else wordP x.1).length ≤ 20 * 1
  split
  ·rename_i e
   have := (name_facts (h e)).2.1
   omega
  ·have := word_len x.1
   omega
 | .un x a, h => by
  have ih := txt_len nm a h
  have hp := a.post_pos
  have h1 := word_len x.1
  have h2 := brk_len 5 (txt nm a) (bindsP a.head.1)
  have h3 := brkK_len 5 (tokT nm a) (bindsP a.head.1)
  have h4 : ((if x.1 = 4 then [] else [32]) : List UInt8).length ≤ 1 := by split <;> decide
  rw [txt, tokT, Fm.post]
  simp only [List.length_append, List.length_cons, List.length_nil]
  omega
 | .bin x a b, h => by
  have ia := txt_len nm a h.1
  have ib := txt_len nm b h.2
  have h1 := word_len x.1
  have h2 := brk_len (leftP x.1) (txt nm a) (bindsP a.head.1)
  have h3 := brkK_len (leftP x.1) (tokT nm a) (bindsP a.head.1)
  have h4 := brk_len (rightP x.1) (txt nm b) (bindsP b.head.1)
  have h5 := brkK_len (rightP x.1) (tokT nm b) (bindsP b.head.1)
  rw [txt, tokT, Fm.post]
  simp only [List.length_append, List.length_cons, List.length_nil]
  omega
theorem parse_text {L : List UInt8} {N : List (List UInt8)} {o : List Nd × Nat × Nat} (h : ParseR L N o) (h0 : o.2.2 = 0) : ∃ t : Fm, OkN N t ∧ o = (t.post, 0, 0) ∧ t.post.length ≤ 24 ∧ txt (nmP N) t = L := by
 unfold ParseR at h
 split at h
 ·rename_i e0
  obtain ⟨R, hR, rfl⟩ := h
  have hst : ∀ r, (stopP L N (scanLex L).toks r).2 = 0 → ∃ r', r = .bad 0 :: r' := fun r hr => by
   cases r with
   | nil => cases hr
   | cons c r =>
    cases c with
    | bad e => exact ⟨r, by rw [show e = 0 from hr]⟩
    | _ => cases hr
  have nobad : ∀ r, (∃ n, prs n (.joint 1) (clsL N (scanLex L).toks) = some (.no r)) ∨ (∃ n t, prs n (.joint 1) (clsL N (scanLex L).toks) = some (.ok t r)) → ∀ c ∈ r, c ∈ clsL N (scanLex L).toks := fun r hr => by
   obtain ⟨R, e, hl⟩ := prs_total (needP (.joint 1) (clsL N (scanLex L).toks).length) (.joint 1) (clsL N (scanLex L).toks) ⟨by decide, by decide⟩ (Nat.le_refl _)
   rcases hr with ⟨n, h⟩ | ⟨n, t, h⟩
   ·cases PrsR.det ⟨_, e⟩ ⟨_, h⟩
    exact fun c hc => List.IsSuffix.subset hl hc
   ·cases PrsR.det ⟨_, e⟩ ⟨_, h⟩
    exact fun c hc => List.IsSuffix.subset hl.1 hc
  have bad0 : ¬ ((Cls.bad 0) ∈ clsL N (scanLex L).toks) := fun hm => by
   obtain ⟨t, _, ht⟩ := List.mem_map.1 hm
   unfold clsP at ht
   split at ht
   ·cases ht
   ·split at ht
    ·cases ht
    ·split at ht
     ·cases ht
     ·split at ht
      ·split at ht
       ·split at ht <;> cases ht
       ·cases ht
      ·split at ht
       ·cases ht
       ·split at ht <;> cases ht
  obtain ⟨n, hn⟩ := hR
  cases R with
  | no r =>
   obtain ⟨r', rfl⟩ := hst r h0
   exact absurd (nobad _ (.inl ⟨n, hn⟩) _ (List.mem_cons_self ..)) bad0
  | ok t r =>
   cases r with
   | cons c r =>
    obtain ⟨r', e⟩ := hst (c :: r) h0
    rw [e] at hn
    exact absurd (nobad _ (.inr ⟨n, t, hn⟩) _ (List.mem_cons_self ..)) bad0
   | nil =>
    have ok := (prs_ok N n (.joint 1) _ t [] (clsL_good _ _) (fun k u e => by cases e) hn).1
    change (if 24 < t.post.length then _ else _ : List Nd × Nat × Nat).2.2 = 0 at h0
    show ∃ t' : Fm, OkN N t' ∧ (if 24 < t.post.length then _ else _ : List Nd × Nat × Nat) = _ ∧ _
    split at h0
    ·cases h0
    ·rename_i h24
     split at h0
     ·rename_i ht
      rw [if_neg h24, if_pos ht]
      exact ⟨t, ok, rfl, by omega, ht⟩
     ·cases h0
 ·rename_i e0
  subst h
  exact absurd h0 e0
theorem nameErr_of (N : List (List UInt8)) : ∀ (t : Fm), t.ok → GoodN N t → ∀ r, nameErr N (t.post ++ r) = nameErr N r
 | .leaf x, ho, h, r => by
  show nameErr N (x :: r) = _
  rw [nameErr]
  split
  ·rename_i e
   have h1 := h e
   rw [if_neg (by omega), if_pos h1.2]
  ·rfl
 | .un x a, ho, h, r => by
  rw [Fm.post, List.append_assoc, nameErr_of N a ho.2 h]
  show nameErr N (x :: r) = _
  rw [nameErr, if_neg (fun e => by have h1 := ho.1; rw [takes_prop e] at h1; cases h1)]
 | .bin x a b, ho, h, r => by
  rw [Fm.post, List.append_assoc, nameErr_of N a ho.2.1 h.1, List.append_assoc, nameErr_of N b ho.2.2 h.2]
  show nameErr N (x :: r) = _
  rw [nameErr, if_neg (fun e => by have h1 := ho.1; rw [takes_prop e] at h1; cases h1)]
end Go.Proofs.YtkehfolcfcbplaaGreatDoor
