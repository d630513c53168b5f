/- A formula's text is read as that formula, plain. No conditions. -/
import Derived.Test.YtkehfolcfcbplaaGreatDoorSLtQ
namespace Go.Proofs.YtkehfolcfcbplaaGreatDoor
open Go.Lib
set_option linter.unusedVariables false
def bareN (x : Nd) : Nd := (x.1, if x.1 = 3 then x.2 else 0)
def bareT : Fm → Fm
 | .leaf x => .leaf (bareN x)
 | .un x a => .un (bareN x) (bareT a)
 | .bin x a b => .bin (bareN x) (bareT a) (bareT b)
def brkC (least : Nat) (s : List Cls) (b : Nat) : List Cls := if b < least then .lp :: (s ++ [.rp]) else s
def clsT : Fm → List Cls
 | .leaf x => [if x.1 = 3 then .prop x.2.toNat else .con x.1]
 | .un x a => .un x.1 :: brkC 5 (clsT a) (bindsP a.head.1)
 | .bin x a b => brkC (leftP x.1) (clsT a) (bindsP a.head.1) ++ (.bin x.1 :: brkC (rightP x.1) (clsT b) (bindsP b.head.1))
def hl : List Cls → Nat
 | .bin op :: _ => bindsP op
 | _ => 0
theorem PrsR.leafUn {op : Int} {r r' : List Cls} {t : Fm} (h : PrsR .leaf r (.ok t r')) : PrsR .leaf (.un op :: r) (.ok (.un (op, 0) t) r') := by
 obtain ⟨f, hf⟩ := h
 refine ⟨f + 1, ?_⟩
 show (match prs f .leaf r with | some (Res.ok t r') => some (Res.ok (.un (op, 0) t) r') | x => x) = _
 rw [hf]
theorem PrsR.leafLp {r r' : List Cls} {t : Fm} (h : PrsR (.joint 1) r (.ok t (.rp :: r'))) : PrsR .leaf (.lp :: r) (.ok t r') := by
 obtain ⟨f, hf⟩ := h
 refine ⟨f + 1, ?_⟩
 show (match prs f (.joint 1) r with | some (Res.ok t (.rp :: r')) => some (Res.ok t r') | some (Res.ok t r') => some (Res.no r') | x => x) = _
 rw [hf]
theorem PrsR.jointM {k : Nat} {rem r : List Cls} {t : Fm} {R : Res} (h : PrsR (downM k) rem (.ok t r)) (h2 : PrsR (.loop k t) r R) : PrsR (.joint k) rem R := by
 obtain ⟨f, hf⟩ := h
 obtain ⟨g, hg⟩ := h2
 refine ⟨max f g + 1, ?_⟩
 show (match prs (max f g) (downM k) rem with | some (.ok t r) => prs (max f g) (.loop k t) r | x => x) = _
 rw [prs_more hf (Nat.le_max_left f g)]
 exact prs_more hg (Nat.le_max_right f g)
theorem PrsR.joint4 {rem r : List Cls} {t : Fm} {R : Res} (h : PrsR .leaf rem (.ok t r)) (h2 : PrsR (.loop 4 t) r R) : PrsR (.joint 4) rem R := PrsR.jointM (k := 4) h h2
theorem PrsR.joint {k : Nat} (hk : k ≠ 4) {rem r : List Cls} {t : Fm} {R : Res} (h : PrsR (.joint (k + 1)) rem (.ok t r)) (h2 : PrsR (.loop k t) r R) : PrsR (.joint k) rem R :=
 PrsR.jointM (k := k) (by unfold downM; rw [if_neg hk]; exact h) h2
theorem PrsR.stop {k : Nat} (hk : 0 < k) {t : Fm} {r : List Cls} (h : hl r ≠ k) : PrsR (.loop k t) r (.ok t r) := by
 refine ⟨1, ?_⟩
 cases r with
 | nil => rfl
 | cons c r =>
  cases c with
  | bin op =>
   have h' : ¬ bindsP op = k := h
   show (if bindsP op = k then _ else _) = _
   rw [if_neg h']
  | _ => rfl
theorem PrsR.goM {k : Nat} {op : Int} (hb : bindsP op = k) {r r' : List Cls} {t u : Fm} {R : Res} (h : PrsR (rightM k op) r (.ok u r')) (h2 : PrsR (.loop k (.bin (op, 0) t u)) r' R) : PrsR (.loop k t) (.bin op :: r) R := by
 obtain ⟨f, hf⟩ := h
 obtain ⟨g, hg⟩ := h2
 refine ⟨max f g + 1, ?_⟩
 show (if bindsP op = k then (match prs (max f g) (rightM k op) r with | some (.ok u r') => prs (max f g) (.loop k (.bin (op, 0) t u)) r' | x => x) else some (.ok t (.bin op :: r))) = _
 rw [if_pos hb, prs_more hf (Nat.le_max_left f g)]
 exact prs_more hg (Nat.le_max_right f g)
theorem PrsR.goRight {k : Nat} {op : Int} (hb : bindsP op = k) (hr : rightP op = k) {r r' : List Cls} {t u : Fm} {R : Res} (h : PrsR (.joint k) r (.ok u r')) (h2 : PrsR (.loop k (.bin (op, 0) t u)) r' R) : PrsR (.loop k t) (.bin op :: r) R :=
 PrsR.goM hb (by unfold rightM; rw [if_pos hr]; exact h) h2
theorem PrsR.goLeft {k : Nat} {op : Int} (hb : bindsP op = k) (hr : rightP op ≠ k) (h4 : k ≠ 4) {r r' : List Cls} {t u : Fm} {R : Res} (h : PrsR (.joint (k + 1)) r (.ok u r')) (h2 : PrsR (.loop k (.bin (op, 0) t u)) r' R) : PrsR (.loop k t) (.bin op :: r) R :=
 PrsR.goM hb (by unfold rightM downM; rw [if_neg hr, if_neg h4]; exact h) h2
theorem PrsR.down {j : Nat} (hj : j ≤ 4) {rem rest : List Cls} {t : Fm} (h : PrsR (.joint j) rem (.ok t rest)) : ∀ d k, j = k + d + 1 → 0 < k → hl rest ≤ k → ∀ R, PrsR (.loop k t) rest R → PrsR (.joint k) rem R
 | 0, k, e, hk, hh, R, hR => by
  subst e
  exact PrsR.joint (by omega) h hR
 | d + 1, k, e, hk, hh, R, hR =>
  PrsR.joint (by omega) (PrsR.down hj h d (k + 1) (by omega) (by omega) (by omega) _ (PrsR.stop (by omega) (by omega))) hR
theorem PrsR.lift {rem rest : List Cls} {t : Fm} (h : PrsR .leaf rem (.ok t rest)) {k : Nat} (hk : 0 < k) (h4 : k ≤ 4) (hh : hl rest ≤ k) {R : Res} (hR : PrsR (.loop k t) rest R) : PrsR (.joint k) rem R := by
 by_cases e : k = 4
 ·subst e
  exact PrsR.joint4 h hR
 ·exact PrsR.down (j := 4) (Nat.le_refl _) (PrsR.joint4 h (PrsR.stop (by decide) (by omega))) (4 - k - 1) k (by omega) hk hh R hR
theorem binds_two {op : Int} (h : takesP op = 2) : (op = 5 ∧ bindsP op = 3 ∧ leftP op = 3 ∧ rightP op = 4) ∨ (op = 6 ∧ bindsP op = 2 ∧ leftP op = 2 ∧ rightP op = 3) ∨ (op = 7 ∧ bindsP op = 1 ∧ leftP op = 2 ∧ rightP op = 1) ∨ ((op = 9 ∨ op = 10) ∧ bindsP op = 4 ∧ leftP op = 5 ∧ rightP op = 4) := by
 unfold takesP at h
 split at h
 ·cases h
 ·split at h
  ·cases h
  ·split at h
   ·rename_i h3
    rcases h3 with rfl | rfl | rfl | rfl | rfl <;> decide
   ·cases h
theorem binds_one {op : Int} (h : takesP op = 1 ∨ takesP op = 0) : bindsP op = 5 := by
 unfold takesP at h
 unfold bindsP
 split at h
 ·rename_i h1
  rcases h1 with rfl | rfl | rfl <;> rfl
 ·split at h
  ·rename_i h1
   rcases h1 with rfl | rfl | rfl | rfl <;> rfl
  ·split at h <;> rcases h with h | h <;> cases h
theorem binds_pos (op : Int) : 1 ≤ bindsP op ∧ bindsP op ≤ 5 := by
 unfold bindsP
 repeat (split; omega)
 omega
structure Reads (t : Fm) : Prop where
 leaf : bindsP t.head.1 = 5 → ∀ rest, PrsR .leaf (clsT t ++ rest) (.ok (bareT t) rest)
 joint : ∀ k, 0 < k → k ≤ 4 → k ≤ bindsP t.head.1 → ∀ rest, hl rest ≤ k → (k = 1 ∨ k = 4 → hl rest < k) → ∀ R, PrsR (.loop k (bareT t)) rest R → PrsR (.joint k) (clsT t ++ rest) R
theorem Reads.leafB {t : Fm} (h : Reads t) (rest : List Cls) : PrsR .leaf (brkC 5 (clsT t) (bindsP t.head.1) ++ rest) (.ok (bareT t) rest) := by
 unfold brkC
 split
 ·rename_i hb
  have := h.joint 1 (by decide) (by decide) (binds_pos _).1 (.rp :: rest) (Nat.zero_le _) (fun _ => Nat.zero_lt_one) _ (PrsR.stop (by decide) (by show (0 : Nat) ≠ 1; decide))
  have := PrsR.leafLp this
  rw [List.cons_append, List.append_assoc]
  exact this
 ·exact h.leaf (by have := binds_pos t.head.1; omega) rest
theorem Reads.jointB {t : Fm} (h : Reads t) {k : Nat} (hk : 0 < k) (h4 : k ≤ 4) {rest : List Cls} (hh : hl rest ≤ k) (h1 : k = 1 ∨ k = 4 → hl rest < k) {R : Res} (hR : PrsR (.loop k (bareT t)) rest R) : PrsR (.joint k) (brkC k (clsT t) (bindsP t.head.1) ++ rest) R := by
 by_cases hb : bindsP t.head.1 < k
 ·have h5 := h.leafB rest
  unfold brkC at h5 ⊢
  rw [if_pos (by omega)] at h5
  rw [if_pos hb]
  exact PrsR.lift h5 hk h4 hh hR
 ·unfold brkC
  rw [if_neg hb]
  exact h.joint k hk h4 (by omega) rest hh h1 R hR
theorem reads : ∀ t : Fm, t.ok → Reads t
 | .leaf x, h => by
  have hl0 : ∀ rest, PrsR .leaf (clsT (.leaf x) ++ rest) (.ok (bareT (.leaf x)) rest) := fun rest => by
   refine ⟨1, ?_⟩
   by_cases e : x.1 = 3
   ·have h2 : (x.2.toNat : Int) = x.2 := by have := h.2 e; omega
    simp only [clsT, bareT, bareN, if_pos e, List.cons_append, List.nil_append]
    show some (Res.ok (.leaf (3, (x.2.toNat : Int))) rest) = _
    rw [h2, e]
   ·simp only [clsT, bareT, bareN, if_neg e, List.cons_append, List.nil_append]
    rfl
  exact ⟨fun _ => hl0, fun k hk h4 _ rest hh _ R hR => PrsR.lift (hl0 rest) hk h4 hh hR⟩
 | .un x a, h => by
  have ih := reads a h.2
  have hx : x.1 ≠ 3 := fun e => by have := h.1; rw [takes_prop e] at this; cases this
  have hl0 : ∀ rest, PrsR .leaf (clsT (.un x a) ++ rest) (.ok (bareT (.un x a)) rest) := fun rest => by
   have := PrsR.leafUn (op := x.1) (ih.leafB rest)
   rw [clsT, List.cons_append, bareT, bareN, if_neg hx]
   exact this
  exact ⟨fun _ => hl0, fun k hk h4 _ rest hh _ R hR => PrsR.lift (hl0 rest) hk h4 hh hR⟩
 | .bin x a b, h => by
  have ia := reads a h.2.1
  have ib := reads b h.2.2
  have hx : x.1 ≠ 3 := fun e => by have := h.1; rw [takes_prop e] at this; cases this
  have hbare : bareT (.bin x a b) = .bin (x.1, 0) (bareT a) (bareT b) := by rw [bareT, bareN, if_neg hx]
  have hB := binds_two h.1
  have hb4 : bindsP x.1 ≤ 4 := by omega
  have hb1 := binds_pos x.1
  have top : ∀ rest, hl rest ≤ bindsP x.1 → (bindsP x.1 = 1 ∨ bindsP x.1 = 4 → hl rest < bindsP x.1) → ∀ R, PrsR (.loop (bindsP x.1) (bareT (.bin x a b))) rest R → PrsR (.joint (bindsP x.1)) (clsT (.bin x a b) ++ rest) R := by
   intro rest hh h1 R hR
   rw [hbare] at hR
   rw [clsT, List.append_assoc, List.cons_append]
   obtain ⟨k, hk⟩ : ∃ k, k = bindsP x.1 := ⟨_, rfl⟩
   rw [← hk] at hR hh h1 hb4 hb1 ⊢
   have hlb : ∀ l, hl (.bin x.1 :: l) = k := fun l => hk.symm
   rcases hB with ⟨_, e1, e2, e3⟩ | ⟨_, e1, e2, e3⟩ | ⟨_, e1, e2, e3⟩ | ⟨_, e1, e2, e3⟩
   ·have hk3 : k = 3 := by omega
    rw [e2, e3]
    subst hk3
    refine ia.jointB (by decide) (by decide) (by rw [hlb]; exact Nat.le_refl _) (fun e => by omega) ?_
    exact PrsR.goLeft e1 (by omega) (by decide) (ib.jointB (k := 4) (by decide) (by decide) (by omega) (fun _ => by omega) (PrsR.stop (by decide) (by omega))) hR
   ·have hk3 : k = 2 := by omega
    rw [e2, e3]
    subst hk3
    refine ia.jointB (by decide) (by decide) (by rw [hlb]; exact Nat.le_refl _) (fun e => by omega) ?_
    exact PrsR.goLeft e1 (by omega) (by decide) (ib.jointB (k := 3) (by decide) (by decide) (by omega) (fun _ => by omega) (PrsR.stop (by decide) (by omega))) hR
   ·have hk3 : k = 1 := by omega
    rw [e2, e3]
    subst hk3
    have h1 := h1 (.inl rfl)
    refine PrsR.joint (by decide) (ia.jointB (k := 2) (by decide) (by decide) (by rw [hlb]; decide) (fun e => by omega) (PrsR.stop (by decide) (by rw [hlb]; decide))) ?_
    exact PrsR.goRight e1 e3 (ib.jointB (k := 1) (by decide) (by decide) (by omega) (fun _ => h1) (PrsR.stop (by decide) (by omega))) hR
   ·have hk3 : k = 4 := by omega
    rw [e2, e3]
    subst hk3
    have h1 := h1 (.inr rfl)
    refine PrsR.joint4 (ia.leafB _) ?_
    exact PrsR.goRight e1 e3 (ib.jointB (k := 4) (by decide) (by decide) (by omega) (fun _ => h1) (PrsR.stop (by decide) (by omega))) hR
  refine ⟨fun e => by have : bindsP x.1 = 5 := e; omega, fun k hk h4 hkb rest hh h1 R hR => ?_⟩
  have hkb : k ≤ bindsP x.1 := hkb
  by_cases e : k = bindsP x.1
  ·subst e
   exact top rest hh h1 R hR
  ·have := top rest (by omega) (fun _ => by omega) _ (PrsR.stop (by omega) (by omega))
   exact PrsR.down hb4 this (bindsP x.1 - k - 1) k (by omega) hk hh R hR
def Cl (r : List UInt8) : Prop := r = [] ∨ (∃ s, r = 32 :: s) ∨ ∃ s, r = 41 :: s
theorem Cl.head {r : List UInt8} (h : Cl r) {p : UInt8 → Bool} (hp : p 32 = false) (hp2 : p 41 = false) : headB p r = false := by
 rcases h with rfl | ⟨s, rfl⟩ | ⟨s, rfl⟩
 ·rfl
 ·exact hp
 ·exact hp2
inductive Lx : List UInt8 → List (Nat × List UInt8) → Prop
 | nil : Lx [] []
 | tok (k : Nat) (w r r' : List UInt8) (T : List (Nat × List UInt8)) : oneP (w ++ r) = .tok k 0 w.length → (r = r' ∨ r = 32 :: r') → skipL r' = 0 → Lx r' T → Lx (w ++ r) ((k, w) :: T)
theorem Lx.scan (M : List UInt8) {s : List UInt8} {K : List (Nat × List UInt8)} (h : Lx s K) : ∀ (f a : Nat) (acc : List Tk), s.length < f → acc.length + K.length ≤ 6000 → a ≤ M.length → M.drop a = s → ∃ T, scanF M f a acc = ⟨acc ++ T, 0, 0⟩ ∧ T.map (fun t => (t.kind, t.text)) = K := by
 induction h with
 | nil =>
  intro f a acc hf h6 ha hM
  obtain ⟨f, rfl⟩ : ∃ g, f = g + 1 := ⟨f - 1, by omega⟩
  have : M.length ≤ a := by
   have := congrArg List.length hM
   simp only [List.length_drop, List.length_nil] at this
   omega
  refine ⟨[], ?_, rfl⟩
  rw [scanF, if_neg (by omega), List.append_nil]
 | tok k w r r' K h1 h2 h3 _ ih =>
  intro f a acc hf h6 ha hM
  obtain ⟨f, rfl⟩ : ∃ g, f = g + 1 := ⟨f - 1, by omega⟩
  have hw := (one_tok h1).1
  have hlen : M.length - a = w.length + r.length := by
   have := congrArg List.length hM
   rw [List.length_drop, List.length_append] at this
   exact this
  simp only [List.length_cons] at h6
  rw [List.length_append] at hf
  have hdrop : M.drop (a + w.length) = r := by rw [← List.drop_drop, hM, List.drop_left]
  rw [scanF, if_pos (by omega), if_neg (by omega), hM, h1]
  simp only [hdrop, List.take_left]
  have hsk : ∃ d, skipL r = d ∧ r.drop d = r' ∧ d + r'.length = r.length := by
   rcases h2 with rfl | rfl
   ·exact ⟨0, h3, rfl, by omega⟩
   ·refine ⟨1, ?_, rfl, by simp only [List.length_cons]; omega⟩
    show skipG false _ = 1
    rw [skipG, if_pos (.inl (by decide))]
    unfold skipL at h3
    rw [h3]
  obtain ⟨d, e1, e2, e3⟩ := hsk
  rw [e1]
  obtain ⟨T, g1, g2⟩ := ih f (a + w.length + d) (acc ++ [⟨k, 0, a, w⟩]) (by omega) (by simp only [List.length_append, List.length_cons, List.length_nil]; omega) (by omega) (by rw [← List.drop_drop, hdrop, e2])
  refine ⟨⟨k, 0, a, w⟩ :: T, ?_, by rw [List.map_cons, g2]⟩
  rw [g1]
  simp
theorem Lx.whole {s : List UInt8} {K : List (Nat × List UInt8)} (h : Lx s K) (hs : skipL s = 0) (hl : s.length ≤ 20000) (hk : K.length ≤ 6000) : ∃ T, scanLex s = ⟨T, 0, 0⟩ ∧ T.map (fun t => (t.kind, t.text)) = K := by
 unfold scanLex
 rw [if_neg (by omega), hs]
 obtain ⟨T, a, b⟩ := h.scan s (s.length + 1) 0 [] (by omega) (by simpa using hk) (Nat.zero_le _) rfl
 exact ⟨T, by rw [a, List.nil_append], b⟩
def brkK (least : Nat) (s : List (Nat × List UInt8)) (b : Nat) : List (Nat × List UInt8) := if b < least then (3, [40]) :: (s ++ [(3, [41])]) else s
def kindP (op : Int) : Nat := if op = 4 ∨ op = 5 ∨ op = 6 ∨ op = 7 then 3 else 1
def tokT (nm : Int → List UInt8) : Fm → List (Nat × List UInt8)
 | .leaf x => [(1, if x.1 = 3 then nm x.2 else wordP x.1)]
 | .un x a => (kindP x.1, wordP x.1) :: brkK 5 (tokT nm a) (bindsP a.head.1)
 | .bin x a b => brkK (leftP x.1) (tokT nm a) (bindsP a.head.1) ++ ((kindP x.1, wordP x.1) :: brkK (rightP x.1) (tokT nm b) (bindsP b.head.1))
def St (s : List UInt8) : Prop := ∃ c r, s = c :: r ∧ (isLet c = true ∨ c = 33 ∨ c = 40)
theorem St.skip {s : List UInt8} (h : St s) : skipL s = 0 := by
 obtain ⟨c, r, rfl, h⟩ := h
 show skipG false (c :: r) = 0
 have hc : ¬ (c.toNat = 32 ∨ c.toNat = 10) ∧ ¬ c.toNat = 35 := by
  rcases h with h | rfl | rfl
  ·unfold isLet at h
   simp only [Bool.or_eq_true, Bool.and_eq_true, decide_eq_true_eq] at h
   omega
  ·decide
  ·decide
 rw [skipG, if_neg hc.1, if_neg hc.2]
theorem one_open (r : List UInt8) : oneP ([40] ++ r) = .tok 3 0 [(40 : UInt8)].length := by cases r <;> rfl
theorem one_close (r : List UInt8) : oneP ([41] ++ r) = .tok 3 0 [(41 : UInt8)].length := by cases r <;> rfl
inductive Beh : List UInt8 → List (Nat × List UInt8) → Prop
 | fin : Beh [] []
 | blank (s : List UInt8) (K : List (Nat × List UInt8)) : skipL s = 0 → Lx s K → Beh (32 :: s) K
 | close (s : List UInt8) (K : List (Nat × List UInt8)) : Beh s K → Beh (41 :: s) ((3, [41]) :: K)
theorem Beh.word {r : List UInt8} {K : List (Nat × List UInt8)} (h : Beh r K) : ∀ {w : List UInt8} {k : Nat}, (oneP (w ++ r) = .tok k 0 w.length) → Lx (w ++ r) ((k, w) :: K) := by
 induction h with
 | fin =>
  intro w k h1
  exact Lx.tok k w [] [] [] h1 (.inl rfl) rfl .nil
 | blank s K h2 h3 =>
  intro w k h1
  exact Lx.tok k w (32 :: s) s K h1 (.inr rfl) h2 h3
 | close s K h2 ih =>
  intro w k h1
  exact Lx.tok k w (41 :: s) (41 :: s) _ h1 (.inl rfl) rfl (ih (w := [41]) (k := 3) (one_close s))
def goodNm (nm : Int → List UInt8) : Fm → Prop
 | .leaf x => x.1 = 3 → nameP (nm x.2) = true
 | .un _ a => goodNm nm a
 | .bin _ a b => goodNm nm a ∧ goodNm nm b
theorem name_facts {w : List UInt8} (h : nameP w = true) : headB isLet w = true ∧ w.length ≤ 16 ∧ runB isPart w = w.length := by
 unfold nameP at h
 simp only [Bool.and_eq_true, decide_eq_true_eq] at h
 exact ⟨h.1.1.1, h.1.1.2, h.1.2⟩
structure Lexed (nm : Int → List UInt8) (t : Fm) : Prop where
 st : ∀ r, St (txt nm t ++ r)
 lx : ∀ r K, Beh r K → Lx (txt nm t ++ r) (tokT nm t ++ K)
theorem Lexed.brk {nm : Int → List UInt8} {t : Fm} (h : Lexed nm t) (least b : Nat) : (∀ r, St (brk least (txt nm t) b ++ r)) ∧ ∀ r K, Beh r K → Lx (brk least (txt nm t) b ++ r) (brkK least (tokT nm t) b ++ K) := by
 unfold Go.Proofs.YtkehfolcfcbplaaGreatDoor.brk brkK
 split
 ·refine ⟨fun r => ⟨40, txt nm t ++ [41] ++ r, by simp, .inr (.inr rfl)⟩, fun r K hr => ?_⟩
  have h1 := h.lx (41 :: r) _ (.close r K hr)
  have h2 := Lx.tok 3 [40] _ _ _ (one_open _) (.inl rfl) (h.st _).skip h1
  simpa using h2
 ·exact ⟨h.st, h.lx⟩
end Go.Proofs.YtkehfolcfcbplaaGreatDoor
