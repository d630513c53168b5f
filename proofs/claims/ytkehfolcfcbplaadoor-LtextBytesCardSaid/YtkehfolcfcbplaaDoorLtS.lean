/- What Parse gives, plain, and that a text leads back. No conditions. -/
import Derived.Test.YtkehfolcfcbplaaDoorLtR
namespace Go.Proofs.YtkehfolcfcbplaaDoor
open Go.Lib
set_option linter.unusedVariables false

def differP : List UInt8 → List UInt8 → Nat
  | a :: l, b :: r => if a = b then differP l r + 1 else 0
  | _, _ => 0
/-- the classes of tokens -/
def clsL (N : List (List UInt8)) (T : List Tk) : List Cls := T.map (fun t => clsP N t.kind t.text)
/-- where and why the reading ends at a rest -/
def stopP (L : List UInt8) (N : List (List UInt8)) (T : List Tk) (r : List Cls) : Nat × Nat :=
  match r with
  | [] => (L.length, 4)
  | c :: r' => (((T.map (·.at_)).getD (T.length - (r'.length + 1)) 0), errC c)
def resP (L : List UInt8) (N : List (List UInt8)) (T : List Tk) : Res → List Nd × Nat × Nat
  | .no r => ([], stopP L N T r)
  | .ok t r => match r with
    | [] => if 24 < t.post.length then ([], L.length, 5) else if txt (nmP N) t = L then (t.post, 0, 0) else ([], differP (txt (nmP N) t) L, 13)
    | c :: r' => ([], stopP L N T (c :: r'))
/-- what Parse gives -/
def ParseR (L : List UInt8) (N : List (List UInt8)) (o : List Nd × Nat × Nat) : Prop :=
  if (scanLex L).e = 0 then ∃ R, PrsR (.joint 1) (clsL N (scanLex L).toks) R ∧ o = resP L N (scanLex L).toks R
  else o = ([], (scanLex L).at_, (scanLex L).e)
theorem ParseR.det {L : List UInt8} {N : List (List UInt8)} {o p : List Nd × Nat × Nat} (h : ParseR L N o) (h2 : ParseR L N p) : o = p := by
  unfold ParseR at h h2
  split at h
  · rename_i e
    rw [if_pos e] at h2
    obtain ⟨R, a, b⟩ := h
    obtain ⟨S, c, d⟩ := h2
    rw [b, d, a.det c]
  · rename_i e
    rw [if_neg e] at h2
    rw [h, h2]
theorem parse_total (L : List UInt8) (N : List (List UInt8)) : ∃ o, ParseR L N o := by
  unfold ParseR
  split
  · obtain ⟨R, h, _⟩ := prs_total (needP (.joint 1) (clsL N (scanLex L).toks).length) (.joint 1) (clsL N (scanLex L).toks) ⟨by decide, by decide⟩ (Nat.le_refl _)
    exact ⟨_, R, ⟨_, h⟩, rfl⟩
  · exact ⟨_, rfl⟩
theorem opOf_cases (s : List UInt8) : opOf s = 0 ∨ (takesP (opOf s) = 0 ∧ opOf s ≠ 3) ∨ takesP (opOf s) = 1 ∨ takesP (opOf s) = 2 := by
  unfold opOf
  repeat (split; decide)
  exact .inl rfl
theorem cls_good (N : List (List UInt8)) (k : Nat) (s : List UInt8) : goodC N (clsP N k s) := by
  unfold clsP
  split
  · trivial
  · split
    · trivial
    · split
      · trivial
      · split
        · split
          · split
            · rename_i i hi
              have h1 := List.mem_of_find?_eq_some hi
              have h2 := List.find?_some hi
              rw [List.mem_range] at h1
              rw [Bool.and_eq_true] at h2
              exact ⟨by omega, by omega, h2.2⟩
            · trivial
          · trivial
        · rename_i h0
          rcases opOf_cases s with h | h | h | h
          · exact absurd h h0
          · rw [if_pos h.1]; exact h
          · rw [if_neg (by omega), if_pos h]; exact h
          · rw [if_neg (by omega), if_neg (by omega)]; exact h
theorem clsL_good (N : List (List UInt8)) (T : List Tk) : ∀ c ∈ clsL N T, goodC N c := by
  intro c hc
  obtain ⟨t, _, rfl⟩ := List.mem_map.1 hc
  exact cls_good _ _ _
theorem opOf_word {op : Int} (h : takesP op = 0 ∧ op ≠ 3 ∨ takesP op = 1 ∨ takesP op = 2) : opOf (wordP op) = op ∧ wordP op ≠ [40] ∧ wordP op ≠ [41] ∧ kindP op ≠ 2 := by
  unfold takesP at h
  split at h
  · rename_i h1
    rcases h1 with rfl | rfl | rfl
    · decide
    · decide
    · rcases h with h | h | h
      · exact absurd rfl h.2
      · cases h
      · cases h
  · split at h
    · rename_i h1
      rcases h1 with rfl | rfl | rfl | rfl <;> decide
    · split at h
      · rename_i h1
        rcases h1 with rfl | rfl | rfl | rfl | rfl <;> decide
      · rcases h with h | h | h
        · cases h.1
        · cases h
        · cases h
theorem opOf_zero {s : List UInt8} (h : ownF.contains s = false) : opOf s = 0 := by
  have h2 : ∀ w ∈ ownF, s ≠ w := fun w hw e => by
    subst e
    rw [← Bool.not_eq_true, List.contains_iff_mem] at h
    exact h hw
  unfold opOf
  rw [if_neg (h2 _ (by decide)), if_neg (h2 _ (by decide)), if_neg (h2 _ (by decide)), if_neg (h2 _ (by decide)), if_neg (h2 _ (by decide)), if_neg (h2 _ (by decide)), if_neg (h2 _ (by decide)), if_neg (h2 _ (by decide)), if_neg (h2 _ (by decide)), if_neg (h2 _ (by decide)), if_neg (h2 _ (by decide))]
theorem may_facts {N : List (List UInt8)} {i : Nat} (h : mayP N i = true) : nameP (N.getD i []) = true ∧ ownF.contains (N.getD i []) = false ∧ (N.take i).contains (N.getD i []) = false := by
  unfold mayP at h
  simp only [Bool.and_eq_true, Bool.not_eq_true'] at h
  exact ⟨h.1.1, h.1.2, h.2⟩
theorem getD_mem {N : List (List UInt8)} {j i : Nat} (hj : j < i) (hi : i ≤ N.length) : N.getD j [] ∈ N.take i := by
  have h1 : j < N.length := by omega
  rw [List.mem_take_iff_getElem]
  exact ⟨j, by omega, by simp [List.getD, List.getElem?_eq_getElem h1]⟩
theorem find_range {p : Nat → Bool} {n i : Nat} (hi : i < n) (hp : p i = true) (hn : ∀ j, j < i → p j = false) : (List.range n).find? p = some i := by
  rw [List.find?_eq_some_iff_append]
  refine ⟨hp, List.range i, (List.range (n - i - 1)).map (· + (i + 1)), ?_, fun j hj => by rw [hn j (List.mem_range.1 hj)]; rfl⟩
  obtain ⟨d, rfl⟩ : ∃ d, n = i + (d + 1) := ⟨n - i - 1, by omega⟩
  rw [List.range_add, show i + (d + 1) - i - 1 = d by omega, List.range_succ_eq_map, List.map_cons, List.map_map]
  congr 2
  apply List.map_congr_left
  intro x _
  show i + (x + 1) = x + (i + 1)
  omega
theorem nameAt_may {N : List (List UInt8)} {i : Nat} (hi : i < N.length) (h8 : i < 8) (h : mayP N i = true) : nameAt N (N.getD i []) = some i := by
  obtain ⟨a, b, c⟩ := may_facts h
  refine find_range (by omega) (by rw [h, Bool.and_true, beq_self_eq_true]) (fun j hj => ?_)
  have : (N.getD j [] == N.getD i []) = false := by
    rw [beq_eq_false_iff_ne]
    intro e
    have hm := getD_mem (N := N) (i := i) hj (by omega)
    rw [e] at hm
    rw [← Bool.not_eq_true, List.contains_iff_mem] at c
    exact c hm
  rw [this, Bool.false_and]
theorem nameErr_append (N : List (List UInt8)) : ∀ (f g : List Nd), nameErr N (f ++ g) = 0 → nameErr N f = 0 ∧ nameErr N g = 0
  | [], g, h => ⟨rfl, h⟩
  | x :: f, g, h => by
    rw [List.cons_append, nameErr] at h
    rw [nameErr]
    split at h
    · rename_i h3
      split at h
      · cases h
      · rename_i h4
        split at h
        · rename_i h5
          rw [if_pos h3, if_neg h4, if_pos h5]
          exact nameErr_append N f g h
        · cases h
    · rename_i h3
      rw [if_neg h3]
      exact nameErr_append N f g h
theorem goodN_of (N : List (List UInt8)) : ∀ t : Fm, nameErr N t.post = 0 → GoodN N t
  | .leaf x, h => fun e => by
    change nameErr N [x] = 0 at h
    rw [nameErr, if_pos e] at h
    split at h
    · cases h
    · rename_i h1
      split at h
      · rename_i h2; exact ⟨by omega, h2⟩
      · cases h
  | .un x a, h => goodN_of N a (nameErr_append N _ _ h).1
  | .bin x a b, h => ⟨goodN_of N a (nameErr_append N _ _ h).1, goodN_of N b (nameErr_append N _ _ (nameErr_append N _ _ h).2).1⟩
theorem goodNm_of (N : List (List UInt8)) : ∀ t : Fm, GoodN N t → goodNm (nmP N) t
  | .leaf x, h => fun e => (may_facts (h e).2).1
  | .un x a, h => goodNm_of N a h
  | .bin x a b, h => ⟨goodNm_of N a h.1, goodNm_of N b h.2⟩
theorem cls_op (N : List (List UInt8)) {op : Int} (h : takesP op = 0 ∧ op ≠ 3 ∨ takesP op = 1 ∨ takesP op = 2) : clsP N (kindP op) (wordP op) = if takesP op = 0 then .con op else if takesP op = 1 then .un op else .bin op := by
  obtain ⟨a, b, c, d⟩ := opOf_word h
  unfold clsP
  rw [if_neg d, if_neg b, if_neg c, a, if_neg (fun e => by subst e; revert h; decide)]
theorem brk_map (N : List (List UInt8)) (l b : Nat) (K : List (Nat × List UInt8)) : (brkK l K b).map (fun x => clsP N x.1 x.2) = brkC l (K.map (fun x => clsP N x.1 x.2)) b := by
  unfold brkK brkC
  split
  · rw [List.map_cons, List.map_append]; rfl
  · rfl
theorem head_word {c : UInt8} {r : List UInt8} (h : headB isLet (c :: r) = true) : c :: r ≠ [40] ∧ c :: r ≠ [41] := by
  have h' : isLet c = true := h
  constructor <;> intro e <;> injection e with e1 e2 <;> subst e1 <;> revert h' <;> decide
theorem cls_tok (N : List (List UInt8)) : ∀ t : Fm, t.ok → GoodN N t → (tokT (nmP N) t).map (fun x => clsP N x.1 x.2) = clsT t
  | .leaf x, h, hn => by
    by_cases e : x.1 = 3
    · obtain ⟨h1, h2⟩ := hn e
      have h8 := h.2 e
      obtain ⟨a, b, c⟩ := may_facts h2
      have hna := nameAt_may (i := x.2.toNat) (by omega) (by omega) h2
      simp only [tokT, clsT, if_pos e, List.map_cons, List.map_nil]
      have hw : nmP N x.2 = N.getD x.2.toNat [] := rfl
      rw [hw]
      have hne : N.getD x.2.toNat [] ≠ [40] ∧ N.getD x.2.toNat [] ≠ [41] := by
        have := (name_facts a).1
        revert this
        cases N.getD x.2.toNat [] with
        | nil => intro h; cases h
        | cons c r => exact head_word
      unfold clsP
      rw [if_neg (by decide), if_neg hne.1, if_neg hne.2, opOf_zero b, if_pos rfl, if_pos rfl, hna]
    · have hk : kindP x.1 = 1 := (word_let (.inl h.1) e (fun e4 => by have := h.1; rw [e4] at this; cases this)).2.2.2
      simp only [tokT, clsT, if_neg e, List.map_cons, List.map_nil]
      rw [← hk, cls_op N (.inl ⟨h.1, e⟩), if_pos h.1]
  | .un x a, h, hn => by
    rw [tokT, clsT, List.map_cons, brk_map, cls_tok N a h.2 hn, cls_op N (.inr (.inl h.1)), if_neg (by rw [h.1]; decide), if_pos h.1]
  | .bin x a b, h, hn => by
    rw [tokT, clsT, List.map_append, List.map_cons, brk_map, brk_map, cls_tok N a h.2.1 hn.1, cls_tok N b h.2.2 hn.2, cls_op N (.inr (.inr h.1)), if_neg (by rw [h.1]; decide), if_neg (by rw [h.1]; decide)]
theorem word_len (op : Int) : (wordP op).length ≤ 5 := by
  unfold wordP
  repeat (split; decide)
  decide
theorem brk_len (l : Nat) (s : List UInt8) (b : Nat) : (brk l s b).length ≤ s.length + 2 := by
  unfold brk
  split
  · simp
  · omega
theorem brkK_len (l : Nat) (s : List (Nat × List UInt8)) (b : Nat) : (brkK l s b).length ≤ s.length + 2 := by
  unfold brkK
  split
  · simp
  · omega
theorem txt_len (nm : Int → List UInt8) : ∀ t : Fm, goodNm nm t → (txt nm t).length ≤ 20 * t.post.length ∧ (tokT nm t).length ≤ 5 * t.post.length
  | .leaf x, h => by
    refine ⟨?_, by show 1 ≤ 5 * 1; decide⟩
    show (if x.1 = 3 then nm x.2 else wordP x.1).length ≤ 20 * 1
    split
    · rename_i e
      have := (name_facts (h e)).2.1
      omega
    · have := word_len x.1
      omega
  | .un x a, h => by
    have ih := txt_len nm a h
    have hp := a.post_pos
    have h1 := word_len x.1
    have h2 := brk_len 5 (txt nm a) (bindsP a.head.1)
    have h3 := brkK_len 5 (tokT nm a) (bindsP a.head.1)
    have h4 : ((if x.1 = 4 then [] else [32]) : List UInt8).length ≤ 1 := by split <;> decide
    rw [txt, tokT, Fm.post]
    simp only [List.length_append, List.length_cons, List.length_nil]
    omega
  | .bin x a b, h => by
    have ia := txt_len nm a h.1
    have ib := txt_len nm b h.2
    have h1 := word_len x.1
    have h2 := brk_len (leftP x.1) (txt nm a) (bindsP a.head.1)
    have h3 := brkK_len (leftP x.1) (tokT nm a) (bindsP a.head.1)
    have h4 := brk_len (rightP x.1) (txt nm b) (bindsP b.head.1)
    have h5 := brkK_len (rightP x.1) (tokT nm b) (bindsP b.head.1)
    rw [txt, tokT, Fm.post]
    simp only [List.length_append, List.length_cons, List.length_nil]
    omega
/-- a formula's text is read as the formula -/
theorem parse_back {f : List Nd} {N : List (List UInt8)} (h : (textP f N).2 = 0) : ParseR (textP f N).1 N (f.map bareN, 0, 0) := by
  obtain ⟨t, ht, hf, h24, hne, htx⟩ := textP_ok h
  rw [← hf] at hne h24
  have hg := goodN_of N t hne
  have hgn := goodNm_of N t hg
  have hl := txt_len (nmP N) t hgn
  have lx := lexed (nmP N) t ht hgn
  have h1 := lx.lx [] [] .fin
  have h2 := (lx.st []).skip
  rw [List.append_nil] at h1 h2
  rw [List.append_nil] at h1
  obtain ⟨T, e1, e2⟩ := h1.whole h2 (by omega) (by omega)
  rw [htx]
  unfold ParseR
  rw [e1, if_pos rfl]
  refine ⟨.ok (bareT t) [], ?_, ?_⟩
  · have : clsL N T = clsT t := by
      rw [← cls_tok N t ht hg, ← e2, List.map_map]
      rfl
    show PrsR (.joint 1) (clsL N T) _
    rw [this]
    exact reads_all ht
  · show _ = if 24 < (bareT t).post.length then _ else _
    rw [bare_post, List.length_map, if_neg (by omega), bare_txt, if_pos rfl, hf]
/-- what is read well is a formula with that text -/
theorem parse_text {L : List UInt8} {N : List (List UInt8)} {o : List Nd × Nat × Nat} (h : ParseR L N o) (h0 : o.2.2 = 0) : ∃ t : Fm, OkN N t ∧ o = (t.post, 0, 0) ∧ t.post.length ≤ 24 ∧ txt (nmP N) t = L := by
  unfold ParseR at h
  split at h
  · rename_i e0
    obtain ⟨R, hR, rfl⟩ := h
    have hst : ∀ r, (stopP L N (scanLex L).toks r).2 = 0 → ∃ r', r = .bad 0 :: r' := fun r hr => by
      cases r with
      | nil => cases hr
      | cons c r =>
        cases c with
        | bad e => exact ⟨r, by rw [show e = 0 from hr]⟩
        | _ => cases hr
    have nobad : ∀ r, (∃ n, prs n (.joint 1) (clsL N (scanLex L).toks) = some (.no r)) ∨ (∃ n t, prs n (.joint 1) (clsL N (scanLex L).toks) = some (.ok t r)) → ∀ c ∈ r, c ∈ clsL N (scanLex L).toks := fun r hr => by
      obtain ⟨R, e, hl⟩ := prs_total (needP (.joint 1) (clsL N (scanLex L).toks).length) (.joint 1) (clsL N (scanLex L).toks) ⟨by decide, by decide⟩ (Nat.le_refl _)
      rcases hr with ⟨n, h⟩ | ⟨n, t, h⟩
      · cases PrsR.det ⟨_, e⟩ ⟨_, h⟩
        exact fun c hc => List.IsSuffix.subset hl hc
      · cases PrsR.det ⟨_, e⟩ ⟨_, h⟩
        exact fun c hc => List.IsSuffix.subset hl.1 hc
    have bad0 : ¬ ((Cls.bad 0) ∈ clsL N (scanLex L).toks) := fun hm => by
      obtain ⟨t, _, ht⟩ := List.mem_map.1 hm
      unfold clsP at ht
      split at ht
      · cases ht
      · split at ht
        · cases ht
        · split at ht
          · cases ht
          · split at ht
            · split at ht
              · split at ht <;> cases ht
              · cases ht
            · split at ht
              · cases ht
              · split at ht <;> cases ht
    obtain ⟨n, hn⟩ := hR
    cases R with
    | no r =>
      obtain ⟨r', rfl⟩ := hst r h0
      exact absurd (nobad _ (.inl ⟨n, hn⟩) _ (List.mem_cons_self ..)) bad0
    | ok t r =>
      cases r with
      | cons c r =>
        obtain ⟨r', e⟩ := hst (c :: r) h0
        rw [e] at hn
        exact absurd (nobad _ (.inr ⟨n, t, hn⟩) _ (List.mem_cons_self ..)) bad0
      | nil =>
        have ok := (prs_ok N n (.joint 1) _ t [] (clsL_good _ _) (fun k u e => by cases e) hn).1
        change (if 24 < t.post.length then _ else _ : List Nd × Nat × Nat).2.2 = 0 at h0
        show ∃ t' : Fm, OkN N t' ∧ (if 24 < t.post.length then _ else _ : List Nd × Nat × Nat) = _ ∧ _
        split at h0
        · cases h0
        · rename_i h24
          split at h0
          · rename_i ht
            rw [if_neg h24, if_pos ht]
            exact ⟨t, ok, rfl, by omega, ht⟩
          · cases h0
  · rename_i e0
    subst h
    exact absurd h0 e0
theorem nameErr_of (N : List (List UInt8)) : ∀ (t : Fm), t.ok → GoodN N t → ∀ r, nameErr N (t.post ++ r) = nameErr N r
  | .leaf x, ho, h, r => by
    show nameErr N (x :: r) = _
    rw [nameErr]
    split
    · rename_i e
      have h1 := h e
      rw [if_neg (by omega), if_pos h1.2]
    · rfl
  | .un x a, ho, h, r => by
    rw [Fm.post, List.append_assoc, nameErr_of N a ho.2 h]
    show nameErr N (x :: r) = _
    rw [nameErr, if_neg (fun e => by have h1 := ho.1; rw [takes_prop e] at h1; cases h1)]
  | .bin x a b, ho, h, r => by
    rw [Fm.post, List.append_assoc, nameErr_of N a ho.2.1 h.1, List.append_assoc, nameErr_of N b ho.2.2 h.2]
    show nameErr N (x :: r) = _
    rw [nameErr, if_neg (fun e => by have h1 := ho.1; rw [takes_prop e] at h1; cases h1)]
/-- what is read well has just that text -/
theorem text_back {L : List UInt8} {N : List (List UInt8)} {o : List Nd × Nat × Nat} (h : ParseR L N o) (h0 : o.2.2 = 0) : textP o.1 N = (L, 0) := by
  obtain ⟨t, ⟨h1, h2⟩, rfl, h4, h5⟩ := parse_text h h0
  have h3 := nameErr_of N t h1 h2 []
  rw [List.append_nil] at h3
  show textP t.post N = _
  rw [textP_tree h1 h4 (by rw [h3]; rfl), h5]
theorem bare_idem (f : List Nd) : (f.map bareN).map bareN = f.map bareN := by
  rw [List.map_map]
  exact List.map_congr_left (fun x _ => bareN_idem x)
theorem nameErr_bare (N : List (List UInt8)) : ∀ f, nameErr N (f.map bareN) = nameErr N f
  | [] => rfl
  | x :: f => by
    rw [List.map_cons, nameErr, nameErr, nameErr_bare N f]
    show (if x.1 = 3 then if (N.length : Int) ≤ (if x.1 = 3 then x.2 else 0) then 8 else if mayP N (if x.1 = 3 then x.2 else 0).toNat = true then _ else 6 else _) = _
    by_cases e : x.1 = 3
    · simp only [if_pos e]
    · simp only [if_neg e]
/-- a formula's text is its bare formula's -/
theorem textP_bare {f : List Nd} {N : List (List UInt8)} (h : (textP f N).2 = 0) : textP (f.map bareN) N = textP f N := by
  obtain ⟨t, ht, hf, h24, hne, htx⟩ := textP_ok h
  have h1 : (bareT t).post = f.map bareN := by rw [bare_post, hf]
  rw [← h1, textP_tree (bare_ok t ht) (by rw [bare_post, List.length_map, hf]; exact h24) (by rw [h1, nameErr_bare]; exact hne), bare_txt]
  exact Prod.ext htx.symm h.symm
/-- LtextBytes: another text is no text of it -/
theorem other_text {f : List Nd} {N : List (List UInt8)} (h : (textP f N).2 = 0) {M : List UInt8} (hM : M ≠ (textP f N).1) {o : List Nd × Nat × Nat} (ho : ParseR M N o) : o.2.2 ≠ 0 ∨ o.1 ≠ f.map bareN := by
  by_cases h0 : o.2.2 = 0
  · right
    intro e
    have h1 := text_back ho h0
    rw [e, textP_bare h] at h1
    rw [h1] at hM
    exact hM rfl
  · exact .inl h0
/-- LtextParts: a longer formula's text -/
theorem text_more {f : List Nd} {N : List (List UInt8)} (h : (textP f N).2 = 0) {x : Nd} (hx : takesP x.1 = 1) (hl : f.length < 24) :
    textP (f ++ [x]) N = (wordP x.1 ++ (if x.1 = 4 then [] else [32]) ++ (textP f N).1, 0) ∨ textP (f ++ [x]) N = (wordP x.1 ++ (if x.1 = 4 then [] else [32]) ++ (40 :: ((textP f N).1 ++ [41])), 0) := by
  obtain ⟨t, ht, hf, h24, hne, htx⟩ := textP_ok h
  have h1 : (Fm.un x t).post = f ++ [x] := by rw [Fm.post, hf]
  have hx3 : x.1 ≠ 3 := fun e => by rw [takes_prop e] at hx; cases hx
  have h2 : nameErr N (Fm.un x t).post = 0 := by
    rw [← hf] at hne
    rw [Fm.post, nameErr_of N t ht (goodN_of N t hne)]
    show nameErr N [x] = 0
    rw [nameErr, if_neg hx3]
    rfl
  rw [← h1, textP_tree (t := .un x t) ⟨hx, ht⟩ (by rw [h1, List.length_append]; simp only [List.length_cons, List.length_nil]; omega) h2, htx, txt]
  unfold brk
  by_cases h5 : bindsP t.head.1 < 5
  · rw [if_pos h5]
    refine .inr ?_
    simp only [List.append_assoc]
  · rw [if_neg h5]
    refine .inl ?_
    simp only [List.append_assoc]
theorem text_ne {f : List Nd} {N : List (List UInt8)} (h : (textP f N).2 = 0) : (textP f N).1 ≠ [] ∧ (textP f N).1.length ≤ 480 := by
  obtain ⟨t, ht, hf, h24, hne, htx⟩ := textP_ok h
  rw [← hf] at hne
  have hg := goodNm_of N t (goodN_of N t hne)
  have hl := (txt_len (nmP N) t hg).1
  have hs := (lexed (nmP N) t ht hg).st []
  rw [List.append_nil] at hs
  rw [htx]
  refine ⟨fun e => ?_, by rw [hf] at hl; omega⟩
  obtain ⟨c, r, e2, _⟩ := hs
  rw [e] at e2
  cases e2
end Go.Proofs.YtkehfolcfcbplaaDoor
