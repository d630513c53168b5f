/- The parts of a formula's text, read by levels, plain. No conditions. -/
import Derived.Test.YtkehfolcfcbplaaGreatDoorSLtP
namespace Go.Proofs.YtkehfolcfcbplaaGreatDoor
open Go.Lib
set_option linter.unusedVariables false
def beginP (x : Nd) (i : Nat) (st : List Nat) : Nat := if takesP x.1 ≤ 0 then i else st.getD ((takesP x.1).toNat - 1) 0
def spanG : List Nd → Nat → List Nat → List Nat
 | [], _, _ => []
 | x :: r, i, st => beginP x i st :: spanG r (i + 1) (beginP x i st :: st.drop (takesP x.1).toNat)
def spanS : List Nd → Nat → List Nat → List Nat
 | [], _, st => st
 | x :: r, i, st => spanS r (i + 1) (beginP x i st :: st.drop (takesP x.1).toNat)
theorem spanG_len : ∀ (f : List Nd) (i : Nat) (st : List Nat), (spanG f i st).length = f.length
 | [], _, _ => rfl
 | x :: r, i, st => by rw [spanG, List.length_cons, spanG_len r, List.length_cons]
theorem spanG_append : ∀ (p r : List Nd) (i : Nat) (st : List Nat), spanG (p ++ r) i st = spanG p i st ++ spanG r (i + p.length) (spanS p i st)
 | [], r, i, st => rfl
 | x :: p, r, i, st => by
  rw [List.cons_append, spanG, spanG, spanG_append p r, spanS, List.cons_append, List.length_cons]
  congr 2
  congr 1
  omega
theorem spanS_append : ∀ (p r : List Nd) (i : Nat) (st : List Nat), spanS (p ++ r) i st = spanS r (i + p.length) (spanS p i st)
 | [], r, i, st => rfl
 | x :: p, r, i, st => by
  rw [List.cons_append, spanS, spanS_append p r, spanS, List.length_cons]
  congr 1
  omega
theorem spanS_post : ∀ (t : Fm), t.ok → ∀ (i : Nat) (st : List Nat), spanS t.post i st = i :: st ∧ (spanG t.post i st).getLast? = some i
 | .leaf x, h, i, st => by
  have hb : beginP x i st = i := by unfold beginP; rw [if_pos (by have := h.1; omega)]
  have hd : st.drop (takesP x.1).toNat = st := by rw [h.1]; rfl
  refine ⟨?_, ?_⟩
  ·show beginP x i st :: st.drop _ = _
   rw [hb, hd]
  ·show [beginP x i st].getLast? = _
   rw [hb]
   rfl
 | .un x a, h, i, st => by
  have ha := (spanS_post a h.2 i st).1
  have hb : ∀ j, beginP x j (i :: st) = i := fun j => by unfold beginP; rw [if_neg (by have := h.1; omega), h.1]; rfl
  refine ⟨?_, ?_⟩
  ·rw [Fm.post, spanS_append, ha]
   show beginP x _ (i :: st) :: (i :: st).drop (takesP x.1).toNat = _
   rw [hb, h.1]
   rfl
  ·rw [Fm.post, spanG_append, ha, List.getLast?_append]
   show ([beginP x _ (i :: st)].getLast?).or _ = _
   rw [hb]
   rfl
 | .bin x a b, h, i, st => by
  have ha := (spanS_post a h.2.1 i st).1
  have hc := (spanS_post b h.2.2 (i + a.post.length) (i :: st)).1
  have hb : ∀ j k, beginP x j (k :: i :: st) = i := fun j k => by unfold beginP; rw [if_neg (by have := h.1; omega), h.1]; rfl
  refine ⟨?_, ?_⟩
  ·rw [Fm.post, spanS_append, ha, spanS_append, hc]
   show beginP x _ (_ :: i :: st) :: (_ :: i :: st).drop (takesP x.1).toNat = _
   rw [hb, h.1]
   rfl
  ·rw [Fm.post, spanG_append, ha, spanG_append, hc, List.getLast?_append, List.getLast?_append]
   show (([beginP x _ (_ :: i :: st)].getLast?).or _).or _ = _
   rw [hb]
   rfl
theorem span_at {f pre suf : List Nd} {t : Fm} (h : t.ok) (e : f = pre ++ (t.post ++ suf)) : (spanG f 0 [])[pre.length + t.post.length - 1]? = some pre.length := by
 have hp := t.post_pos
 have h2 := (spanS_post t h (0 + pre.length) (spanS pre 0 [])).2
 rw [List.getLast?_eq_getElem?, spanG_len] at h2
 rw [e, spanG_append, List.getElem?_append_right (by rw [spanG_len]; omega), spanG_len, spanG_append, List.getElem?_append_left (by rw [spanG_len]; omega)]
 rw [show pre.length + t.post.length - 1 - pre.length = t.post.length - 1 by omega, h2, Nat.zero_add]
inductive Cls where
 | lp
 | rp
 | un (op : Int)
 | con (op : Int)
 | bin (op : Int)
 | prop (i : Nat)
 | bad (e : Nat)
def opOf (s : List UInt8) : Int :=
 if s = wordP 1 then 1 else if s = wordP 2 then 2 else if s = wordP 4 then 4 else if s = wordP 5 then 5 else if s = wordP 6 then 6 else if s = wordP 7 then 7
 else if s = wordP 8 then 8 else if s = wordP 9 then 9 else if s = wordP 10 then 10 else if s = wordP 11 then 11 else if s = wordP 12 then 12 else 0
def nameAt (N : List (List UInt8)) (s : List UInt8) : Option Nat := (List.range (min N.length 8)).find? (fun i => (N.getD i [] == s) && mayP N i)
def clsP (N : List (List UInt8)) (k : Nat) (s : List UInt8) : Cls :=
 if k = 2 then .bad 3 else if s = [40] then .lp else if s = [41] then .rp
 else if opOf s = 0 then (if k = 1 then (match nameAt N s with | some i => .prop i | none => .bad 8) else .bad 3)
 else if takesP (opOf s) = 0 then .con (opOf s) else if takesP (opOf s) = 1 then .un (opOf s) else .bin (opOf s)
def errC : Cls → Nat
 | .bad e => e
 | _ => 3
inductive Res where
 | ok (t : Fm) (r : List Cls)
 | no (r : List Cls)
inductive Md where
 | leaf
 | joint (k : Nat)
 | loop (k : Nat) (t : Fm)
def stepLeaf (g : Md → List Cls → Option Res) : List Cls → Option Res
 | .un op :: r => (match g .leaf r with
  | some (.ok t r') => some (.ok (.un (op, 0) t) r')
  | x => x)
 | .con op :: r => some (.ok (.leaf (op, 0)) r)
 | .prop i :: r => some (.ok (.leaf (3, (i : Int))) r)
 | .lp :: r => (match g (.joint 1) r with
  | some (.ok t (.rp :: r')) => some (.ok t r')
  | some (.ok t r') => some (.no r')
  | x => x)
 | rem => some (.no rem)
def downM (k : Nat) : Md := if k = 4 then .leaf else .joint (k + 1)
def rightM (k : Nat) (op : Int) : Md := if rightP op = k then .joint k else downM k
def stepLoop (g : Md → List Cls → Option Res) (k : Nat) (t : Fm) : List Cls → Option Res
 | .bin op :: r => if bindsP op = k then (match g (rightM k op) r with
   | some (.ok u r') => g (.loop k (.bin (op, 0) t u)) r'
   | x => x)
  else some (.ok t (.bin op :: r))
 | rem => some (.ok t rem)
def stepJoint (g : Md → List Cls → Option Res) (k : Nat) (rem : List Cls) : Option Res :=
 match g (downM k) rem with
 | some (.ok t r) => g (.loop k t) r
 | x => x
def stepM (g : Md → List Cls → Option Res) : Md → List Cls → Option Res
 | .leaf, rem => stepLeaf g rem
 | .joint k, rem => stepJoint g k rem
 | .loop k t, rem => stepLoop g k t rem
def prs : Nat → Md → List Cls → Option Res
 | 0, _, _ => none
 | f + 1, m, rem => stepM (prs f) m rem
theorem stepM_mono {g g' : Md → List Cls → Option Res} (hg : ∀ m rem R, g m rem = some R → g' m rem = some R) : ∀ (m : Md) (rem : List Cls) (R : Res), stepM g m rem = some R → stepM g' m rem = some R
 | .leaf, [], R, h => h
 | .leaf, .un op :: r, R, h => by
  change (match g .leaf r with | some (.ok t r') => some (.ok (.un (op, 0) t) r') | x => x) = some R at h
  show (match g' .leaf r with | some (.ok t r') => some (.ok (.un (op, 0) t) r') | x => x) = some R
  cases hq : g .leaf r with
  | none => rw [hq] at h; cases h
  | some Q => rw [hg _ _ _ hq]; rw [hq] at h; exact h
 | .leaf, .con op :: r, R, h => h
 | .leaf, .prop i :: r, R, h => h
 | .leaf, .lp :: r, R, h => by
  change (match g (.joint 1) r with | some (.ok t (.rp :: r')) => some (.ok t r') | some (.ok t r') => some (.no r') | x => x) = some R at h
  show (match g' (.joint 1) r with | some (.ok t (.rp :: r')) => some (.ok t r') | some (.ok t r') => some (.no r') | x => x) = some R
  cases hq : g (.joint 1) r with
  | none => rw [hq] at h; cases h
  | some Q => rw [hg _ _ _ hq]; rw [hq] at h; exact h
 | .leaf, .rp :: r, R, h => h
 | .leaf, .bin op :: r, R, h => h
 | .leaf, .bad e :: r, R, h => h
 | .joint k, rem, R, h => by
  change stepJoint g k rem = some R at h
  show stepJoint g' k rem = some R
  unfold stepJoint at h ⊢
  cases hq : g (downM k) rem with
  | none => rw [hq] at h; cases h
  | some Q =>
   rw [hg _ _ _ hq]
   rw [hq] at h
   cases Q with
   | no r => exact h
   | ok t r => exact hg _ _ _ h
 | .loop k t, [], R, h => h
 | .loop k t, .bin op :: r, R, h => by
  change (if bindsP op = k then _ else _) = some R at h
  show (if bindsP op = k then _ else _) = some R
  split at h
  ·rename_i hb
   rw [if_pos hb]
   cases hq : g (rightM k op) r with
   | none => rw [hq] at h; cases h
   | some Q =>
    rw [hg _ _ _ hq]
    rw [hq] at h
    cases Q with
    | no r => exact h
    | ok t r => exact hg _ _ _ h
  ·rename_i hb
   rw [if_neg hb]
   exact h
 | .loop k t, .lp :: r, R, h => h
 | .loop k t, .rp :: r, R, h => h
 | .loop k t, .un op :: r, R, h => h
 | .loop k t, .con op :: r, R, h => h
 | .loop k t, .prop i :: r, R, h => h
 | .loop k t, .bad e :: r, R, h => h
theorem prs_mono : ∀ (f : Nat) (m : Md) (rem : List Cls) (R : Res), prs f m rem = some R → prs (f + 1) m rem = some R
 | 0, m, rem, R, h => by cases h
 | f + 1, m, rem, R, h => stepM_mono (prs_mono f) m rem R h
theorem prs_more {f g : Nat} {m : Md} {rem : List Cls} {R : Res} (h : prs f m rem = some R) (hg : f ≤ g) : prs g m rem = some R := by
 obtain ⟨d, rfl⟩ := Nat.exists_eq_add_of_le hg
 clear hg
 induction d with
 | zero => exact h
 | succ d ih => exact prs_mono _ _ _ _ ih
def PrsR (m : Md) (rem : List Cls) (R : Res) : Prop := ∃ f, prs f m rem = some R
theorem PrsR.det {m : Md} {rem : List Cls} {R S : Res} (h : PrsR m rem R) (h2 : PrsR m rem S) : R = S := by
 obtain ⟨f, hf⟩ := h
 obtain ⟨g, hg⟩ := h2
 have a := prs_more hf (Nat.le_max_left f g)
 rw [prs_more hg (Nat.le_max_right f g)] at a
 cases a
 rfl
def needP : Md → Nat → Nat
 | .leaf, n => 10 * n + 1
 | .joint k, n => 10 * n + 1 + 2 * (5 - k)
 | .loop _ _, n => 10 * n + 1
def goodM : Md → Prop
 | .joint k => 1 ≤ k ∧ k ≤ 4
 | .loop k _ => 1 ≤ k ∧ k ≤ 4
 | .leaf => True
def Left : Md → List Cls → Res → Prop
 | .loop _ _, rem, .ok _ r => r <:+ rem
 | _, rem, .ok _ r => r <:+ rem ∧ r.length < rem.length
 | _, rem, .no r => r <:+ rem
theorem down_need {k : Nat} (hk : 1 ≤ k ∧ k ≤ 4) (n : Nat) : goodM (downM k) ∧ needP (downM k) n + 2 ≤ 10 * n + 1 + 2 * (5 - k) ∧ ∀ rem R, Left (downM k) rem R → Left .leaf rem R := by
 unfold downM
 split
 ·rename_i h
  refine ⟨trivial, ?_, fun rem R h => h⟩
  simp only [needP]
  omega
 ·refine ⟨⟨by omega, by omega⟩, ?_, fun rem R h => by cases R <;> exact h⟩
  simp only [needP]
  omega
theorem right_need {k : Nat} (hk : 1 ≤ k ∧ k ≤ 4) (op : Int) (n : Nat) : goodM (rightM k op) ∧ needP (rightM k op) n ≤ 10 * n + 1 + 2 * (5 - k) ∧ ∀ rem R, Left (rightM k op) rem R → Left .leaf rem R := by
 unfold rightM
 split
 ·exact ⟨hk, Nat.le_refl _, fun rem R h => by cases R <;> exact h⟩
 ·obtain ⟨a, b, c⟩ := down_need hk n
  exact ⟨a, by omega, c⟩
theorem prs_total : ∀ (n : Nat) (m : Md) (rem : List Cls), goodM m → needP m rem.length ≤ n → ∃ R, prs n m rem = some R ∧ Left m rem R
 | 0, m, rem, hm, h => by cases m <;> simp only [needP] at h <;> omega
 | n + 1, .leaf, .un op :: r, hm, h => by
  simp only [needP, List.length_cons] at h
  obtain ⟨R, e, hl⟩ := prs_total n .leaf r trivial (by simp only [needP]; omega)
  show ∃ R, (match prs n .leaf r with | some (.ok t r') => some (.ok (.un (op, 0) t) r') | x => x) = some R ∧ _
  rw [e]
  cases R with
  | ok t r' => exact ⟨_, rfl, hl.1.trans (List.suffix_cons _ _), by have := hl.2; simp only [List.length_cons]; omega⟩
  | no r' => exact ⟨_, rfl, List.IsSuffix.trans hl (List.suffix_cons _ _)⟩
 | n + 1, .leaf, .con op :: r, hm, h => ⟨_, rfl, List.suffix_cons _ _, by simp⟩
 | n + 1, .leaf, .prop i :: r, hm, h => ⟨_, rfl, List.suffix_cons _ _, by simp⟩
 | n + 1, .leaf, .lp :: r, hm, h => by
  simp only [needP, List.length_cons] at h
  obtain ⟨R, e, hl⟩ := prs_total n (.joint 1) r ⟨by decide, by decide⟩ (by simp only [needP]; omega)
  show ∃ R, (match prs n (.joint 1) r with | some (.ok t (.rp :: r')) => some (.ok t r') | some (.ok t r') => some (.no r') | x => x) = some R ∧ _
  rw [e]
  cases R with
  | ok t r' =>
   have h1 := hl.1.trans (List.suffix_cons Cls.lp r)
   have h2 := hl.2
   cases r' with
   | nil => exact ⟨_, rfl, h1⟩
   | cons c r' =>
    cases c with
    | rp => exact ⟨_, rfl, (List.suffix_cons _ _).trans h1, by simp only [List.length_cons] at h2 ⊢; omega⟩
    | _ => exact ⟨_, rfl, h1⟩
  | no r' => exact ⟨_, rfl, List.IsSuffix.trans hl (List.suffix_cons _ _)⟩
 | n + 1, .leaf, [], hm, h => ⟨_, rfl, List.suffix_refl _⟩
 | n + 1, .leaf, .rp :: r, hm, h => ⟨_, rfl, List.suffix_refl _⟩
 | n + 1, .leaf, .bin op :: r, hm, h => ⟨_, rfl, List.suffix_refl _⟩
 | n + 1, .leaf, .bad e :: r, hm, h => ⟨_, rfl, List.suffix_refl _⟩
 | n + 1, .joint k, rem, hm, h => by
  simp only [needP] at h
  have hk : 1 ≤ k ∧ k ≤ 4 := hm
  obtain ⟨d1, d2, d3⟩ := down_need hk rem.length
  obtain ⟨R, e, hl⟩ := prs_total n (downM k) rem d1 (by omega)
  replace hl := d3 _ _ hl
  show ∃ R, (match prs n (downM k) rem with | some (.ok t r) => prs n (.loop k t) r | x => x) = some R ∧ _
  rw [e]
  cases R with
  | no r' => exact ⟨_, rfl, hl⟩
  | ok t r' =>
   have hlt := hl.2
   obtain ⟨R, e, hl2⟩ := prs_total n (.loop k t) r' hk (by simp only [needP]; omega)
   dsimp only
   rw [e]
   cases R with
   | no r2 => exact ⟨_, rfl, List.IsSuffix.trans hl2 hl.1⟩
   | ok t r2 => exact ⟨_, rfl, List.IsSuffix.trans hl2 hl.1, by have := List.IsSuffix.length_le hl2; omega⟩
 | n + 1, .loop k t, .bin op :: r, hm, h => by
  simp only [needP, List.length_cons] at h
  have hk : 1 ≤ k ∧ k ≤ 4 := hm
  show ∃ R, (if bindsP op = k then (match prs n (rightM k op) r with | some (.ok u r') => prs n (.loop k (.bin (op, 0) t u)) r' | x => x) else some (.ok t (.bin op :: r))) = some R ∧ _
  split
  ·obtain ⟨d1, d2, d3⟩ := right_need hk op r.length
   obtain ⟨R, e, hl⟩ := prs_total n (rightM k op) r d1 (by omega)
   replace hl := d3 _ _ hl
   rw [e]
   cases R with
   | no r' => exact ⟨_, rfl, List.IsSuffix.trans hl (List.suffix_cons _ _)⟩
   | ok u r' =>
    have hlt := hl.2
    obtain ⟨R, e, hl2⟩ := prs_total n (.loop k (.bin (op, 0) t u)) r' hk (by simp only [needP]; omega)
    dsimp only
    rw [e]
    cases R with
    | no r2 => exact ⟨_, rfl, (List.IsSuffix.trans hl2 hl.1).trans (List.suffix_cons _ _)⟩
    | ok t r2 => exact ⟨_, rfl, (List.IsSuffix.trans hl2 hl.1).trans (List.suffix_cons _ _)⟩
  ·exact ⟨_, rfl, List.suffix_refl _⟩
 | n + 1, .loop k t, [], hm, h => ⟨_, rfl, List.suffix_refl _⟩
 | n + 1, .loop k t, .lp :: r, hm, h => ⟨_, rfl, List.suffix_refl _⟩
 | n + 1, .loop k t, .rp :: r, hm, h => ⟨_, rfl, List.suffix_refl _⟩
 | n + 1, .loop k t, .un op :: r, hm, h => ⟨_, rfl, List.suffix_refl _⟩
 | n + 1, .loop k t, .con op :: r, hm, h => ⟨_, rfl, List.suffix_refl _⟩
 | n + 1, .loop k t, .prop i :: r, hm, h => ⟨_, rfl, List.suffix_refl _⟩
 | n + 1, .loop k t, .bad e :: r, hm, h => ⟨_, rfl, List.suffix_refl _⟩
def GoodN (N : List (List UInt8)) : Fm → Prop
 | .leaf x => x.1 = 3 → x.2 < N.length ∧ mayP N x.2.toNat = true
 | .un _ a => GoodN N a
 | .bin _ a b => GoodN N a ∧ GoodN N b
def OkN (N : List (List UInt8)) (t : Fm) : Prop := t.ok ∧ GoodN N t
def goodC (N : List (List UInt8)) : Cls → Prop
 | .un op => takesP op = 1
 | .con op => takesP op = 0 ∧ op ≠ 3
 | .bin op => takesP op = 2
 | .prop i => i < 8 ∧ i < N.length ∧ mayP N i = true
 | _ => True
theorem down_loop {k k' : Nat} {u : Fm} : downM k ≠ .loop k' u := by unfold downM; split <;> intro e <;> cases e
theorem right_loop {k k' : Nat} {op : Int} {u : Fm} : rightM k op ≠ .loop k' u := by
 unfold rightM
 split
 ·intro e; cases e
 ·exact down_loop
theorem prs_ok (N : List (List UInt8)) : ∀ (n : Nat) (m : Md) (rem : List Cls) (t : Fm) (r : List Cls), (∀ c ∈ rem, goodC N c) → (∀ k u, m = .loop k u → OkN N u) → prs n m rem = some (.ok t r) → OkN N t ∧ ∀ c ∈ r, goodC N c
 | 0, m, rem, t, r, hc, hm, h => by cases h
 | n + 1, .leaf, .un op :: r0, t, r, hc, hm, h => by
  change (match prs n .leaf r0 with | some (.ok t r') => some (.ok (.un (op, 0) t) r') | x => x) = some (.ok t r) at h
  cases hq : prs n .leaf r0 with
  | none => rw [hq] at h; cases h
  | some Q =>
   rw [hq] at h
   cases Q with
   | no r' => cases h
   | ok u r' =>
    injection h with h
    injection h with h1 h2
    subst h1; subst h2
    obtain ⟨a, b⟩ := prs_ok N n .leaf r0 u r' (fun c hc' => hc c (List.mem_cons_of_mem _ hc')) (fun k u e => by cases e) hq
    exact ⟨⟨⟨hc _ (List.mem_cons_self ..), a.1⟩, a.2⟩, b⟩
 | n + 1, .leaf, .con op :: r0, t, r, hc, hm, h => by
  injection (show some (Res.ok (.leaf (op, 0)) r0) = some (.ok t r) from h) with h
  injection h with h1 h2
  subst h1; subst h2
  have h3 := hc _ (List.mem_cons_self ..)
  exact ⟨⟨⟨h3.1, fun e => absurd e h3.2⟩, fun e => absurd e h3.2⟩, fun c hc' => hc c (List.mem_cons_of_mem _ hc')⟩
 | n + 1, .leaf, .prop i :: r0, t, r, hc, hm, h => by
  injection (show some (Res.ok (.leaf (3, (i : Int))) r0) = some (.ok t r) from h) with h
  injection h with h1 h2
  subst h1; subst h2
  have h8 := hc _ (List.mem_cons_self ..)
  have h9 : i < 8 := h8.1
  have h10 : i < N.length := h8.2.1
  exact ⟨⟨⟨rfl, fun e => ⟨by omega, by omega⟩⟩, fun e => ⟨by omega, h8.2.2⟩⟩, fun c hc' => hc c (List.mem_cons_of_mem _ hc')⟩
 | n + 1, .leaf, .lp :: r0, t, r, hc, hm, h => by
  change (match prs n (.joint 1) r0 with | some (.ok t (.rp :: r')) => some (.ok t r') | some (.ok t r') => some (.no r') | x => x) = some (.ok t r) at h
  cases hq : prs n (.joint 1) r0 with
  | none => rw [hq] at h; cases h
  | some Q =>
   rw [hq] at h
   cases Q with
   | no r' => cases h
   | ok u r' =>
    obtain ⟨a, b⟩ := prs_ok N n (.joint 1) r0 u r' (fun c hc' => hc c (List.mem_cons_of_mem _ hc')) (fun k u e => by cases e) hq
    cases r' with
    | nil => cases h
    | cons c r' =>
     cases c with
     | rp =>
      injection h with h
      injection h with h1 h2
      subst h1; subst h2
      exact ⟨a, fun c hc' => b c (List.mem_cons_of_mem _ hc')⟩
     | _ => cases h
 | n + 1, .leaf, [], t, r, hc, hm, h => by cases h
 | n + 1, .leaf, .rp :: _, t, r, hc, hm, h => by cases h
 | n + 1, .leaf, .bin _ :: _, t, r, hc, hm, h => by cases h
 | n + 1, .leaf, .bad _ :: _, t, r, hc, hm, h => by cases h
 | n + 1, .joint k, rem, t, r, hc, hm, h => by
  change (match prs n (downM k) rem with | some (.ok t r) => prs n (.loop k t) r | x => x) = some (.ok t r) at h
  cases hq : prs n (downM k) rem with
  | none => rw [hq] at h; cases h
  | some Q =>
   rw [hq] at h
   cases Q with
   | no r' => cases h
   | ok u r' =>
    obtain ⟨a, b⟩ := prs_ok N n (downM k) rem u r' hc (fun k u e => absurd e down_loop) hq
    exact prs_ok N n (.loop k u) r' t r b (fun k' u' e => by cases e; exact a) h
 | n + 1, .loop k t0, .bin op :: r0, t, r, hc, hm, h => by
  change (if bindsP op = k then (match prs n (rightM k op) r0 with | some (.ok u r') => prs n (.loop k (.bin (op, 0) t0 u)) r' | x => x) else some (.ok t0 (.bin op :: r0))) = some (.ok t r) at h
  split at h
  ·cases hq : prs n (rightM k op) r0 with
   | none => rw [hq] at h; cases h
   | some Q =>
    rw [hq] at h
    cases Q with
    | no r' => cases h
    | ok u r' =>
     obtain ⟨a, b⟩ := prs_ok N n (rightM k op) r0 u r' (fun c hc' => hc c (List.mem_cons_of_mem _ hc')) (fun k u e => absurd e right_loop) hq
     exact prs_ok N n (.loop k _) r' t r b (fun k' u' e => by cases e; exact ⟨⟨hc _ (List.mem_cons_self ..), (hm k t0 rfl).1, a.1⟩, (hm k t0 rfl).2, a.2⟩) h
  ·injection h with h
   injection h with h1 h2
   subst h1; subst h2
   exact ⟨hm k _ rfl, hc⟩
 | n + 1, .loop k t0, [], t, r, hc, hm, h => by cases h; exact ⟨hm k _ rfl, hc⟩
 | n + 1, .loop k t0, .lp :: _, t, r, hc, hm, h => by cases h; exact ⟨hm k _ rfl, hc⟩
 | n + 1, .loop k t0, .rp :: _, t, r, hc, hm, h => by cases h; exact ⟨hm k _ rfl, hc⟩
 | n + 1, .loop k t0, .un _ :: _, t, r, hc, hm, h => by cases h; exact ⟨hm k _ rfl, hc⟩
 | n + 1, .loop k t0, .con _ :: _, t, r, hc, hm, h => by cases h; exact ⟨hm k _ rfl, hc⟩
 | n + 1, .loop k t0, .prop _ :: _, t, r, hc, hm, h => by cases h; exact ⟨hm k _ rfl, hc⟩
 | n + 1, .loop k t0, .bad _ :: _, t, r, hc, hm, h => by cases h; exact ⟨hm k _ rfl, hc⟩
end Go.Proofs.YtkehfolcfcbplaaGreatDoor
