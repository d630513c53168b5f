/- What the reader of formulas gives, and what is known of its steps, plain; the closures of joint, walked. Conditions: not too many tokens. -/
import Derived.Test.YtkehfolcfcbplaaGreatDoorSLtR4
namespace Go.Proofs.YtkehfolcfcbplaaGreatDoor
open Go.RowKit
set_option linter.unusedVariables false
set_option linter.unusedSimpArgs false
theorem prs_left {n : Nat} {m : Md} {rem : List Cls} {R : Res} (hm : goodM m) (h : prs n m rem = some R) : Left m rem R := by
 obtain ⟨S, e, hl⟩ := prs_total (needP m rem.length) m rem hm (Nat.le_refl _)
 cases PrsR.det ⟨_, h⟩ ⟨_, e⟩
 exact hl
theorem left_suf {m : Md} {rem : List Cls} : ∀ {R : Res}, Left m rem R → (∀ t r, R = .ok t r → r <:+ rem) ∧ (∀ r, R = .no r → r <:+ rem)
 | .ok t r, h => ⟨fun t' r' e => (by
   cases e
   cases m with
   | loop k t0 => exact h
   | leaf => exact h.1
   | joint k => exact h.1), fun r' e => (by cases e)⟩
 | .no r, h => ⟨fun t' r' e => (by cases e), fun r' e => (by
   cases e
   cases m with
   | loop k t0 => exact h
   | leaf => exact h
   | joint k => exact h)⟩
theorem suf_drop {C rem r : List Cls} {a : Nat} (h : r <:+ rem) (e : rem = C.drop a) : r = C.drop (C.length - r.length) ∧ r.length ≤ C.length := by
 subst e
 have h1 : r <:+ C := h.trans (List.drop_suffix _ _)
 exact ⟨List.suffix_iff_eq_drop.1 h1, h1.length_le⟩
def SizeP : Md → List Cls → Fm → List Cls → Prop
 | .loop _ t0, rem, t, r => t.post.length + r.length ≤ t0.post.length + rem.length
 | _, rem, t, r => t.post.length + r.length ≤ rem.length
theorem SizeP.down {k : Nat} {rem r : List Cls} {t : Fm} (h : SizeP (downM k) rem t r) : t.post.length + r.length ≤ rem.length := by
 unfold downM at h
 split at h <;> exact h
theorem SizeP.right {k : Nat} {op : Int} {rem r : List Cls} {t : Fm} (h : SizeP (rightM k op) rem t r) : t.post.length + r.length ≤ rem.length := by
 unfold rightM at h
 split at h
 ·exact h
 ·exact SizeP.down h
theorem prs_size : ∀ (n : Nat) (m : Md) (rem : List Cls) (t : Fm) (r : List Cls), prs n m rem = some (.ok t r) → SizeP m rem t r
 | 0, m, rem, t, r, h => by cases h
 | n + 1, .leaf, .un op :: r0, t, r, h => by
  change (match prs n .leaf r0 with | some (.ok t r') => some (.ok (.un (op, 0) t) r') | x => x) = some (.ok t r) at h
  cases hq : prs n .leaf r0 with
  | none => rw [hq] at h; cases h
  | some Q =>
   rw [hq] at h
   cases Q with
   | no r' => cases h
   | ok u r' =>
    injection h with h
    injection h with h1 h2
    subst h1; subst h2
    have ih : u.post.length + r'.length ≤ r0.length := prs_size n .leaf r0 u r' hq
    show (u.post ++ [_]).length + _ ≤ _
    rw [List.length_append]
    simp only [List.length_cons, List.length_nil]
    omega
 | n + 1, .leaf, .con op :: r0, t, r, h => by
  injection (show some (Res.ok (.leaf (op, 0)) r0) = some (.ok t r) from h) with h
  injection h with h1 h2
  subst h1; subst h2
  show 1 + r0.length ≤ (Cls.con op :: r0).length
  rw [List.length_cons]; omega
 | n + 1, .leaf, .prop i :: r0, t, r, h => by
  injection (show some (Res.ok (.leaf (3, (i : Int))) r0) = some (.ok t r) from h) with h
  injection h with h1 h2
  subst h1; subst h2
  show 1 + r0.length ≤ (Cls.prop i :: r0).length
  rw [List.length_cons]; omega
 | n + 1, .leaf, .lp :: r0, t, r, h => by
  change (match prs n (.joint 1) r0 with | some (.ok t (.rp :: r')) => some (.ok t r') | some (.ok t r') => some (.no r') | x => x) = some (.ok t r) at h
  cases hq : prs n (.joint 1) r0 with
  | none => rw [hq] at h; cases h
  | some Q =>
   rw [hq] at h
   cases Q with
   | no r' => cases h
   | ok u r' =>
    have ih : u.post.length + r'.length ≤ r0.length := prs_size n (.joint 1) r0 u r' hq
    cases r' with
    | nil => cases h
    | cons c r' =>
     cases c with
     | rp =>
      injection h with h
      injection h with h1 h2
      subst h1; subst h2
      show u.post.length + r'.length ≤ (Cls.lp :: r0).length
      rw [List.length_cons] at ih ⊢; omega
     | _ => cases h
 | n + 1, .leaf, [], t, r, h => by cases h
 | n + 1, .leaf, .rp :: _, t, r, h => by cases h
 | n + 1, .leaf, .bin _ :: _, t, r, h => by cases h
 | n + 1, .leaf, .bad _ :: _, t, r, h => by cases h
 | n + 1, .joint k, rem, t, r, h => by
  change (match prs n (downM k) rem with | some (.ok t r) => prs n (.loop k t) r | x => x) = some (.ok t r) at h
  cases hq : prs n (downM k) rem with
  | none => rw [hq] at h; cases h
  | some Q =>
   rw [hq] at h
   cases Q with
   | no r' => cases h
   | ok u r' =>
    have i1 := (prs_size n (downM k) rem u r' hq).down
    have i2 : t.post.length + r.length ≤ u.post.length + r'.length := prs_size n (.loop k u) r' t r h
    show t.post.length + r.length ≤ rem.length
    omega
 | n + 1, .loop k t0, .bin op :: r0, t, r, h => by
  change (if bindsP op = k then (match prs n (rightM k op) r0 with | some (.ok u r') => prs n (.loop k (.bin (op, 0) t0 u)) r' | x => x) else some (.ok t0 (.bin op :: r0))) = some (.ok t r) at h
  split at h
  ·cases hq : prs n (rightM k op) r0 with
   | none => rw [hq] at h; cases h
   | some Q =>
    rw [hq] at h
    cases Q with
    | no r' => cases h
    | ok u r' =>
     have i1 := (prs_size n (rightM k op) r0 u r' hq).right
     have i2 : t.post.length + r.length ≤ (Fm.bin (op, 0) t0 u).post.length + r'.length := prs_size n (.loop k (.bin (op, 0) t0 u)) r' t r h
     show t.post.length + r.length ≤ t0.post.length + (Cls.bin op :: r0).length
     have e : (Fm.bin (op, 0) t0 u).post.length = t0.post.length + u.post.length + 1 := by rw [Fm.post, List.length_append, List.length_append]; simp only [List.length_cons, List.length_nil]; omega
     rw [List.length_cons]
     omega
  ·injection h with h
   injection h with h1 h2
   subst h1; subst h2
   exact Nat.le_refl _
 | n + 1, .loop k t0, [], t, r, h => by cases h; exact Nat.le_refl _
 | n + 1, .loop k t0, .lp :: _, t, r, h => by cases h; exact Nat.le_refl _
 | n + 1, .loop k t0, .rp :: _, t, r, h => by cases h; exact Nat.le_refl _
 | n + 1, .loop k t0, .un _ :: _, t, r, h => by cases h; exact Nat.le_refl _
 | n + 1, .loop k t0, .con _ :: _, t, r, h => by cases h; exact Nat.le_refl _
 | n + 1, .loop k t0, .prop _ :: _, t, r, h => by cases h; exact Nat.le_refl _
 | n + 1, .loop k t0, .bad _ :: _, t, r, h => by cases h; exact Nat.le_refl _
def RdP (X : RdX) (R : Res) (w : World) (O : List Nd) (oa : Option Addr) (oc : Nat) (e : Ending) (w' : World) : Prop := match R with
 | .ok t r => e = .returned (.bool true) ∧ ∃ oa' oc', RdS X w' (X.T.length - r.length) (O ++ t.post) oa' oc' 0 0 ∧ RdG X.g w w' (Value.slice oa O.length oc).ownBlock (Value.slice oa' (O ++ t.post).length oc').ownBlock
 | .no r => e = .returned (.bool false) ∧ ∃ a' O' oa' oc', RdS X w' a' O' oa' oc' (stopAt X (X.T.length - r.length)).1 (stopAt X (X.T.length - r.length)).2 ∧ RdG X.g w w' (Value.slice oa O.length oc).ownBlock (Value.slice oa' O'.length oc').ownBlock
def RdLeaf (X : RdX) (n : Nat) : Prop := ∀ (R : Res) (a : Nat) (w : World) (O : List Nd) (oa : Option Addr) (oc : Nat), prs n .leaf ((clsL X.N X.T).drop a) = some R → RdS X w a O oa oc 0 0 → Calls Tryz.prog 24 #[.pointer (some ⟨X.g, 0, none⟩)] w (RdP X R w O oa oc)
def RdJoint (X : RdX) (n : Nat) : Prop := ∀ (k : Nat) (R : Res) (a : Nat) (w : World) (O : List Nd) (oa : Option Addr) (oc : Nat), 1 ≤ k → k ≤ 4 → prs n (.joint k) ((clsL X.N X.T).drop a) = some R → RdS X w a O oa oc 0 0 → Calls Tryz.prog 11 #[.pointer (some ⟨X.g, 0, none⟩), .int .i64 (k : Int)] w (RdP X R w O oa oc)
theorem j1_any (X : RdX) (w : World) (h2 h3 k : Nat) (hk : k ≤ 4) (c2 : w.cell? ⟨h2, 0, none⟩ = some (.pointer (some ⟨X.g, 0, none⟩))) (c3 : w.cell? ⟨h3, 0, none⟩ = some (.int .i64 (k : Int))) (b : Bool) (Q : World → Prop)
  (h : Calls Tryz.prog 11 #[.pointer (some ⟨X.g, 0, none⟩), .int .i64 ((k : Int) + 1)] w fun e w' => e = .returned (.bool b) ∧ Q w') :
  Calls Tryz.prog 25 #[.pointer (some ⟨h2, 0, none⟩), .pointer (some ⟨h3, 0, none⟩)] w fun e w' => e = .returned (.bool b) ∧ Q w' := by
 replace h := Lib.hid h
 have hkI : (k : Int) ≤ 4 := by omega
 have hk0 : (0 : Int) ≤ (k : Int) := by omega
 clear hk
 go_enter Tryz.func25, Tryz.ntmps25
 go_wp2_with fail
 refine h.out.mono ?_
 rintro e w1 ⟨rfl, hq⟩
 replace hq := Lib.hid hq
 go_wp2
 go_ret
 exact ⟨rfl, hq.out⟩
theorem j2_any (X : RdX) (w : World) (h2 h3 k : Nat) (hk : k ≤ 4) (c2 : w.cell? ⟨h2, 0, none⟩ = some (.pointer (some ⟨X.g, 0, none⟩))) (c3 : w.cell? ⟨h3, 0, none⟩ = some (.int .i64 (k : Int))) (b : Bool) (Q : World → Prop)
  (h : Calls Tryz.prog 11 #[.pointer (some ⟨X.g, 0, none⟩), .int .i64 (k : Int)] w fun e w' => e = .returned (.bool b) ∧ Q w') :
  Calls Tryz.prog 27 #[.pointer (some ⟨h2, 0, none⟩), .pointer (some ⟨h3, 0, none⟩)] w fun e w' => e = .returned (.bool b) ∧ Q w' := by
 replace h := Lib.hid h
 clear hk
 go_enter Tryz.func27, Tryz.ntmps27
 go_wp2_with fail
 refine h.out.mono ?_
 rintro e w1 ⟨rfl, hq⟩
 replace hq := Lib.hid hq
 go_wp2
 go_ret
 exact ⟨rfl, hq.out⟩
def resB : Res → Bool
 | .ok _ _ => true
 | .no _ => false
def RdQ (X : RdX) (R : Res) (w : World) (O : List Nd) (oa : Option Addr) (oc : Nat) (w' : World) : Prop := match R with
 | .ok t r => ∃ oa' oc', RdS X w' (X.T.length - r.length) (O ++ t.post) oa' oc' 0 0 ∧ RdG X.g w w' (Value.slice oa O.length oc).ownBlock (Value.slice oa' (O ++ t.post).length oc').ownBlock
 | .no r => ∃ a' O' oa' oc', RdS X w' a' O' oa' oc' (stopAt X (X.T.length - r.length)).1 (stopAt X (X.T.length - r.length)).2 ∧ RdG X.g w w' (Value.slice oa O.length oc).ownBlock (Value.slice oa' O'.length oc').ownBlock
theorem RdP.parts {X : RdX} {R : Res} {w : World} {O : List Nd} {oa : Option Addr} {oc : Nat} {e : Ending} {w' : World} : RdP X R w O oa oc e w' ↔ e = .returned (.bool (resB R)) ∧ RdQ X R w O oa oc w' := by
 cases R <;> exact Iff.rfl
end Go.Proofs.YtkehfolcfcbplaaGreatDoor
