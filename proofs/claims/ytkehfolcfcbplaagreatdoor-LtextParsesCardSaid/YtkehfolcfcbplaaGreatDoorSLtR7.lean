/- What binds as a level, or more, is read, walked. Conditions: what leaf and joint do, with fewer steps. -/
import Derived.Test.YtkehfolcfcbplaaGreatDoorSLtR6
namespace Go.Proofs.YtkehfolcfcbplaaGreatDoor
open Go.RowKit
set_option linter.unusedVariables false
set_option linter.unusedSimpArgs false
theorem joint_step {C : List Cls} {a n k : Nat} {R : Res} (h : prs (n + 1) (.joint k) (C.drop a) = some R) : ∃ Q, prs n (downM k) (C.drop a) = some Q ∧ (∀ t r, Q = .ok t r → prs n (.loop k t) r = some R) ∧ (∀ r, Q = .no r → R = .no r) := by
 change (match prs n (downM k) (C.drop a) with | some (.ok t r) => prs n (.loop k t) r | x => x) = some R at h
 cases hq : prs n (downM k) (C.drop a) with
 | none => rw [hq] at h; cases h
 | some Q =>
  rw [hq] at h
  refine ⟨Q, rfl, fun t r e => ?_, fun r e => ?_⟩
  ·subst e; exact h
  ·subst e; exact (Option.some.inj h).symm
theorem sign_two {c : Option Cls} {k : Nat} {op : Int} (h : op = signOp c k) (h0 : op ≠ 0) : c = some (.bin op) ∧ bindsP op = k := by
 unfold signOp at h
 split at h
 ·rename_i o
  split at h
  ·rename_i hb
   subst h
   exact ⟨rfl, hb⟩
  ·exact absurd h h0
 ·exact absurd h h0
theorem loop_stop {C : List Cls} {a n k : Nat} {t : Fm} {R : Res} (hk : 0 < k) (hC : ∀ c ∈ C, ∀ op, c = .bin op → op ≠ 0) (h : prs n (.loop k t) (C.drop a) = some R) (h0 : signOp C[a]? k = 0) : R = .ok t (C.drop a) := by
 cases n with
 | zero => cases h
 | succ n =>
  change stepLoop (prs n) k t (C.drop a) = some R at h
  by_cases ha : a < C.length
  ·rw [List.drop_eq_getElem_cons ha] at h ⊢
   rw [List.getElem?_eq_getElem ha] at h0
   have hm := hC C[a] (List.getElem_mem ha)
   generalize C[a] = c at h h0 hm ⊢
   cases c with
   | bin op =>
    change (if bindsP op = k then op else 0) = 0 at h0
    change (if bindsP op = k then _ else some (Res.ok t (.bin op :: C.drop (a + 1)))) = some R at h
    by_cases hb : bindsP op = k
    ·rw [if_pos hb] at h0
     exact absurd h0 (hm op rfl)
    ·rw [if_neg hb] at h
     exact (Option.some.inj h).symm
   | _ => exact (Option.some.inj h).symm
  ·rw [List.drop_of_length_le (by omega)] at h ⊢
   exact (Option.some.inj h).symm
theorem loop_go {C : List Cls} {a n k : Nat} {t : Fm} {R : Res} {op : Int} (h : prs n (.loop k t) (C.drop a) = some R) (hc : C[a]? = some (.bin op)) (hb : bindsP op = k) : ∃ Q, prs n (rightM k op) (C.drop (a + 1)) = some Q ∧ (∀ u r, Q = .ok u r → prs n (.loop k (.bin (op, 0) t u)) r = some R) ∧ (∀ r, Q = .no r → R = .no r) := by
 cases n with
 | zero => cases h
 | succ n =>
  have ha := (List.getElem?_eq_some_iff.1 hc).1
  have hca : C[a] = .bin op := (List.getElem?_eq_some_iff.1 hc).2
  rw [List.drop_eq_getElem_cons ha, hca] at h
  change (if bindsP op = k then (match prs n (rightM k op) (C.drop (a + 1)) with | some (.ok u r') => prs n (.loop k (.bin (op, 0) t u)) r' | x => x) else some (.ok t (.bin op :: C.drop (a + 1)))) = some R at h
  rw [if_pos hb] at h
  cases hq : prs n (rightM k op) (C.drop (a + 1)) with
  | none => rw [hq] at h; cases h
  | some Q =>
   rw [hq] at h
   refine ⟨Q, prs_mono n _ _ _ hq, fun u r e => ?_, fun r e => ?_⟩
   ·subst e; exact prs_mono n _ _ _ h
   ·subst e; exact (Option.some.inj h).symm
abbrev TPR : Nat := 38
structure JH (X : RdX) (w2 : World) (R : Res) (n k h2 h3 : Nat) (O : List Nd) (s : Option Nat) (q : Nat) (wr : World) (t : Fm) (a1 : Nat) (op : Int) (oa1 : Option Addr) (oc1 : Nat) : Prop where
 hq : q = X.T.length - a1
 eop : op = signOp (clsL X.N X.T)[a1]? k
 prs : prs n (.loop k t) ((clsL X.N X.T).drop a1) = some R
 rs : RdS X wr (if op = 0 then a1 else a1 + 1) (O ++ t.post) oa1 oc1 0 0
 gr : RdG X.g w2 wr s (Value.slice oa1 (O ++ t.post).length oc1).ownBlock
 le : (O ++ t.post).length ≤ a1
 al : a1 ≤ X.T.length
 b2 : RowAt wr h2 TPR [.pointer (some ⟨X.g, 0, none⟩)]
 b3 : RowAt wr h3 3 [.int .i64 (k : Int)]
structure JB (X : RdX) (w2 : World) (h2 h3 : Nat) (s : Option Nat) : Prop where
 l2 : h2 < w2.heap.size
 l3 : h3 < w2.heap.size
 g2 : h2 ≠ X.g
 g3 : h3 ≠ X.g
 s2 : s ≠ some h2
 s3 : s ≠ some h3
theorem JB.own {X : RdX} {w2 v : World} {h2 h3 : Nat} {s s' : Option Nat} (h : JB X w2 h2 h3 s) (g : RdG X.g w2 v s s') : s' ≠ some h2 ∧ s' ≠ some h3 :=
 ⟨fun e => by
  rcases g.new h2 e with h1 | h1
  ·exact h.s2 h1
  ·have := h.l2; omega, fun e => by
  rcases g.new h3 e with h1 | h1
  ·exact h.s3 h1
  ·have := h.l3; omega⟩
theorem JB.rows {X : RdX} {w2 v v' : World} {h2 h3 : Nat} {s s' s'' : Option Nat} {l2 l3 : List Value} {T2 T3 : Nat} (h : JB X w2 h2 h3 s) (g : RdG X.g w2 v s s') (k : RdG X.g v v' s' s'') (b2 : RowAt v h2 T2 l2) (b3 : RowAt v h3 T3 l3) : RowAt v' h2 T2 l2 ∧ RowAt v' h3 T3 l3 :=
 ⟨k.row b2 h.g2 (h.own g).1, k.row b3 h.g3 (h.own g).2⟩
set_option maxRecDepth 20000 in
set_option maxHeartbeats 16000000 in
theorem joint_any (X : RdX) (hX : RdOk X) (n : Nat) (IL : RdLeaf X n) (IJ : RdJoint X n) : RdJoint X (n + 1) := by
 intro k R a w O oa oc hk1 hk4 hp h
 obtain ⟨Q, hq, hQ1, hQ2⟩ := joint_step hp
 have hCl := cls_len X.N X.T
 have HX := Lib.hid hX
 have ILH := Lib.hid IL
 have IJH := Lib.hid IJ
 have CB : Hid (∀ c ∈ clsL X.N X.T, ∀ op, c = .bin op → op ≠ 0) := fun c hc op e e0 => by
  have hg := clsL_good X.N X.T c hc
  rw [e, e0] at hg
  cases hg
 obtain ⟨s, hs⟩ : ∃ s, s = (Value.slice oa O.length oc).ownBlock := ⟨_, rfl⟩
 obtain ⟨w1, hw1⟩ : ∃ w1, w1 = w.alloc (.cells #[.pointer (some ⟨X.g, 0, none⟩)] TPR) := ⟨_, rfl⟩
 obtain ⟨w2, hw2⟩ : ∃ w2, w2 = w1.alloc (.cells #[.int .i64 (k : Int)] 3) := ⟨_, rfl⟩
 obtain ⟨h2, hh2⟩ : ∃ h2, h2 = w.heap.size := ⟨_, rfl⟩
 obtain ⟨h3, hh3⟩ : ∃ h3, h3 = w.heap.size + 1 := ⟨_, rfl⟩
 have s1 : w1.heap.size = w.heap.size + 1 := by rw [hw1]; simp
 have s2 : w2.heap.size = w.heap.size + 2 := by rw [hw2]; simp [s1]
 have bw1 : Below w.heap.size w w1 := by rw [hw1]; exact balloc (Below.refl _ _) _
 have bw2 : Below w1.heap.size w1 w2 := by rw [hw2]; exact balloc (Below.refl _ _) _
 have r2 : RowAt w2 h2 TPR [.pointer (some ⟨X.g, 0, none⟩)] := by
  have : RowAt w1 h2 TPR [.pointer (some ⟨X.g, 0, none⟩)] := by rw [hw1]; exact RowAt.new #[.pointer (some ⟨X.g, 0, none⟩)] hh2
  exact this.below bw2
 have r3 : RowAt w2 h3 3 [.int .i64 (k : Int)] := by rw [hw2]; exact RowAt.new #[.int .i64 (k : Int)] (by rw [hh3, s1])
 have b02 := btrans bw1 bw2
 have rs2 := h.below b02
 have jb : JB X w2 h2 h3 s := by
  have hgl := h.box.lt
  have hol : ∀ j, s = some j → j < w.heap.size := fun j hj => (OwnR.lt h.own (hs ▸ hj)).2
  exact ⟨by omega, by omega, by omega, by omega, fun e => by have := hol _ e; omega, fun e => by have := hol _ e; omega⟩
 have g02 : Hid (RdG X.g w w2 s s) := RdG.below b02
 have hkI : (k : Int) ≤ 4 := by omega
 have hk0 : (1 : Int) ≤ (k : Int) := by omega
 have hq0 := hq
 have hlo := left_suf (prs_left (n := n) (m := downM k) (rem := (clsL X.N X.T).drop a) (R := Q) (by
  unfold downM
  split
  ·trivial
  ·exact ⟨by omega, by omega⟩) hq)
 have hsz : ∀ t r, Q = .ok t r → t.post.length + r.length ≤ X.T.length - a := fun t r e => by
  rw [e] at hq0
  have h1 := (prs_size n (downM k) _ t r hq0).down
  rw [List.length_drop, hCl] at h1
  exact h1
 have hle := h.le
 -- what stands behind the first call
 have FIRST : Hid (∀ t r, Q = .ok t r → X.T.length - r.length ≤ X.T.length ∧ (clsL X.N X.T).drop (X.T.length - r.length) = r ∧ (O ++ t.post).length ≤ X.T.length - r.length ∧ prs n (.loop k t) ((clsL X.N X.T).drop (X.T.length - r.length)) = some R) := fun t r e => by
  obtain ⟨d1, d2⟩ := suf_drop (hlo.1 t r e) rfl
  rw [hCl] at d1 d2
  have h1 := hsz t r e
  refine ⟨by omega, d1.symm, by rw [List.length_append]; omega, ?_⟩
  rw [← d1]
  exact hQ1 t r e
 have NOR : Hid (∀ r, Q = .no r → R = .no r) := hQ2
 by_cases hk4e : k = 4
 ·have CQ := IL Q a w2 O oa oc (by have := hq; unfold downM at this; rw [if_pos hk4e] at this; exact this) rs2
  replace CQ := Lib.hid CQ
  replace hs := Lib.hid hs
  replace r2 := Lib.hid r2
  replace r3 := Lib.hid r3
  replace jb := Lib.hid jb
  replace rs2 := Lib.hid rs2
  replace hCl := Lib.hid hCl
  replace hw1 := Lib.hid hw1
  replace hw2 := Lib.hid hw2
  replace hh2 := Lib.hid hh2
  replace hh3 := Lib.hid hh3
  clear hq hQ1 hQ2 hp h hX IL IJ s1 s2 bw1 bw2 b02 hq0 hlo hsz hle hk1
  have hk5 : ¬ (k : Int) + 1 < 5 := by omega
  replace hk4e := Lib.hid hk4e
  go_enter Tryz.func11, Tryz.ntmps11
  go_upto_region 1 with (fail)
  rw [← hw1.out, ← hw2.out, ← hh3.out, ← hh2.out]
  have c2 : w2.cell? ⟨h2, 0, none⟩ = some (.pointer (some ⟨X.g, 0, none⟩)) := r2.out.cell 0
  have c3 : w2.cell? ⟨h3, 0, none⟩ = some (.int .i64 (k : Int)) := r3.out.cell 0
  go_wp2_with fail
  refine CQ.out.mono ?_
  rintro e w3 hpo
  obtain ⟨he, hpq⟩ := RdP.parts.1 hpo
  subst he
  clear CQ c2 c3
  cases Q with
  | no r =>
   obtain ⟨a3, O3, oa3, oc3, rs3, gr3⟩ := hpq
   have hR := NOR.out r rfl
   have fin : Hid (RdP X R w O oa oc (.returned (.bool false)) w3) := by
    show RdP _ _ _ _ _ _ _ _
    rw [hR]
    exact RdP.noI rfl rs3 (by rw [← hs.out] at gr3 ⊢; exact g02.out.trans gr3)
   clear FIRST NOR hR rs3 gr3 hpo
   simp only [resB]
   go_wp2
   go_ret
   exact fin.out
  | ok t r =>
   obtain ⟨oa3, oc3, rs3, gr3⟩ := hpq
   obtain ⟨f1, f2, f3, f4⟩ := FIRST.out t r rfl
   obtain ⟨a3, ha3⟩ : ∃ a3, a3 = X.T.length - r.length := ⟨_, rfl⟩
   rw [← ha3] at rs3 f1 f2 f3 f4
   rw [← hs.out] at gr3
   obtain ⟨b2, b3⟩ := jb.out.rows (RdG.refl _ _ _) gr3 r2.out r3.out
   have c2 : w3.cell? ⟨h2, 0, none⟩ = some (.pointer (some ⟨X.g, 0, none⟩)) := b2.cell 0
   have c3 : w3.cell? ⟨h3, 0, none⟩ = some (.int .i64 (k : Int)) := b3.cell 0
   have SG := Lib.hid (sign_any X HX.out w3 a3 _ oa3 oc3 rs3 k (by omega))
   replace gr3 := Lib.hid gr3
   replace f1 := Lib.hid f1
   replace f3 := Lib.hid f3
   replace f4 := Lib.hid f4
   replace b2 := Lib.hid b2
   replace b3 := Lib.hid b3
   clear FIRST NOR rs3 f2 ha3 r2 r3 hpo
   simp only [resB]
   go_wp2_with fail
   refine SG.out.mono ?_
   rintro e w4 ⟨rfl, rs4, gr4⟩
   obtain ⟨op, hop⟩ : ∃ op, op = signOp (clsL X.N X.T)[a3]? k := ⟨_, rfl⟩
   rw [← hop] at rs4 ⊢
   obtain ⟨b24, b34⟩ := jb.out.rows gr3.out gr4 b2.out b3.out
   have J0 : Hid (JH X w2 R n k h2 h3 O s (X.T.length - a3) w4 t a3 op oa3 oc3) := ⟨rfl, hop, f4.out, rs4, gr3.out.trans gr4, f3.out, f1.out, b24, b34⟩
   clear rs4 gr4 hop b24 b34 SG gr3 f1 f3 f4 b2 b3 c2 c3
   go_wp2
   go_loopg [4, 6] (X.T.length - a3) (fun q r4 r6 wr => ∃ (t : Fm) (a1 : Nat) (op : Int) (oa1 : Option Addr) (oc1 : Nat), r4 = .bool false ∧ r6 = .int .i64 op ∧ Hid (JH X w2 R n k h2 h3 O s q wr t a1 op oa1 oc1))
   case atStart => exact ⟨t, a3, op, oa3, oc3, rfl, rfl, J0⟩
   case round =>
    clear J0
    obtain ⟨t, a1, op, oa1, oc1, rfl, rfl, jh⟩ := hrel
    by_cases h0 : op = 0
    ·have hR := loop_stop (by omega) CB.out jh.out.prs (by rw [← jh.out.eop, h0])
     have hrs := jh.out.rs
     rw [if_pos h0] at hrs
     have fin : Hid (RdP X R w O oa oc (.returned (.bool true)) wr) := by
      show RdP _ _ _ _ _ _ _ _
      rw [hR]
      exact RdP.okI rfl (by rw [List.length_drop, hCl.out]; have := jh.out.al; omega) hrs (by rw [← hs.out]; exact g02.out.trans jh.out.gr)
     subst h0
     clear hR hrs jh
     go_wp2
     go_ret
     exact fin.out
    ·obtain ⟨hc, hb⟩ := sign_two jh.out.eop h0
     have ht2 : takesP op = 2 := clsL_good X.N X.T _ (List.mem_of_getElem? hc)
     obtain ⟨Q, hq, hQ1, hQ2⟩ := loop_go jh.out.prs hc hb
     obtain ⟨on, hon, hon13, hway⟩ := way_at (op := op) (by omega)
     subst hon
     have hopI : (0 : Int) < (on : Int) := by omega
     have hon13I : (on : Int) < 13 := by omega
     have ha1 : a1 < X.T.length := by have := (List.getElem?_eq_some_iff.1 hc).1; have := hCl.out; omega
     have rs1 := jh.out.rs
     rw [if_neg h0] at rs1
     have WY := (HX.out.door.below rs1.bel).way hon13 hway
     have y3 : wr.cell? ⟨0, on * 4 + 3, none⟩ = some (.int .i64 (if takesP (on : Int) = 0 then 0 else (rightP (on : Int) : Int))) := WY 3 _ rfl
     rw [if_neg (by omega)] at y3
     have c2 : wr.cell? ⟨h2, 0, none⟩ = some (.pointer (some ⟨X.g, 0, none⟩)) := jh.out.b2.cell 0
     have c3 : wr.cell? ⟨h3, 0, none⟩ = some (.int .i64 (k : Int)) := jh.out.b3.cell 0
     have gq := jh.out.hq
     -- the size of what is read
     have hlo := left_suf (prs_left (n := n) (m := rightM k (on : Int)) (rem := (clsL X.N X.T).drop (a1 + 1)) (R := Q) (by
      unfold rightM downM
      split
      ·exact ⟨by omega, hk4⟩
      ·split
       ·trivial
       ·exact ⟨by omega, by omega⟩) hq)
     have hsz : ∀ u r, Q = .ok u r → u.post.length + r.length ≤ X.T.length - (a1 + 1) := fun u r e => by
      have hq0 := hq
      rw [e] at hq0
      have h1 := (prs_size n (rightM k (on : Int)) _ u r hq0).right
      rw [List.length_drop, hCl.out] at h1
      exact h1
     have NEXT : Hid (∀ u r, Q = .ok u r → ∃ a2, a2 = X.T.length - r.length ∧ a2 ≤ X.T.length ∧ a1 < a2 ∧ (O ++ t.post ++ u.post).length < a2 ∧ prs n (.loop k (.bin ((on : Int), 0) t u)) ((clsL X.N X.T).drop a2) = some R) := fun u r e => by
      obtain ⟨d1, d2⟩ := suf_drop (hlo.1 u r e) rfl
      rw [hCl.out] at d1 d2
      have h1 := hsz u r e
      have h3 := jh.out.le
      refine ⟨_, rfl, by omega, by omega, by rw [List.length_append]; omega, ?_⟩
      rw [← d1]
      exact hQ1 u r e
     have NO2 : Hid (∀ r, Q = .no r → R = .no r) := hQ2
     have jgr := Lib.hid jh.out.gr
     have jle := Lib.hid jh.out.le
     have jb2 := Lib.hid jh.out.b2
     have jb3 := Lib.hid jh.out.b3
     replace gq := Lib.hid gq
     replace hq := Lib.hid hq
     have h0H := Lib.hid h0
     have hbH := Lib.hid hb
     clear hQ1 hQ2 hlo hsz hway WY jh hc ht2 h0 hb
     obtain ⟨rn, hrn⟩ : ∃ rn, rn = rightP (on : Int) := ⟨_, rfl⟩
     rw [← hrn] at y3
     by_cases hrk : rn = k
     ·have hrB : ((rn : Int) == (k : Int)) = true := by rw [hrk]; exact beq_self_eq_true _
      have hrN : (rn == k) = true := by rw [hrk]; exact beq_self_eq_true _
      have hm : rightM k (on : Int) = .joint k := by unfold rightM; rw [if_pos (by rw [← hrn, hrk])]
      have hq' := hq.out
      rw [hm] at hq'
      have CR := Lib.hid (fun v hv => IJH.out k Q (a1 + 1) v (O ++ t.post) oa1 oc1 (by omega) hk4 hq' hv)
      clear hm hq' hrk hrn hq
      go_wp2_with fail
      go_quiet (fail)
      obtain ⟨wq, hwq⟩ : ∃ wq, wq = wr.drewN nq := ⟨_, rfl⟩
      have bq : Below wr.heap.size wr wq := by rw [hwq]; exact bdrewN (Below.refl _ _) _
      rw [← hwq]
      have rsq := rs1.below bq
      have jgq := jgr.out.trans (RdG.below (s := (Value.slice oa1 (O ++ t.post).length oc1).ownBlock) bq)
      have b2q := jb2.out.below bq
      have b3q := jb3.out.below bq
      have c2 : wq.cell? ⟨h2, 0, none⟩ = some (.pointer (some ⟨X.g, 0, none⟩)) := b2q.cell 0
      have c3 : wq.cell? ⟨h3, 0, none⟩ = some (.int .i64 (k : Int)) := b3q.cell 0
      have C1 := j2_any X wq h2 h3 k hk4 c2 c3 (resB Q) (RdQ X Q wq (O ++ t.post) oa1 oc1) ((CR.out wq rsq).mono fun e w' h => RdP.parts.1 h)
      replace rsq := Lib.hid rsq
      replace jgq := Lib.hid jgq
      replace b2q := Lib.hid b2q
      replace b3q := Lib.hid b3q
      replace C1 := Lib.hid C1
      replace hwq := Lib.hid hwq
      clear rs1 jgr jb2 jb3 CR y3 bq
      go_wp2_with fail
      refine C1.out.mono ?_
      rintro e w5 ⟨rfl, hpq⟩
      clear C1 c2 c3
      cases Q with
      | no r =>
       obtain ⟨a5, O5, oa5, oc5, rs5, gr5⟩ := hpq
       have hR := NO2.out r rfl
       have fin : Hid (RdP X R w O oa oc (.returned (.bool false)) w5) := by
        show RdP _ _ _ _ _ _ _ _
        rw [hR]
        exact RdP.noI rfl rs5 (by rw [← hs.out]; exact g02.out.trans (jgq.out.trans gr5))
       clear hR rs5 gr5 NEXT NO2
       simp only [resB]
       go_wp2
       go_ret
       exact fin.out
      | ok u r =>
       obtain ⟨oa5, oc5, rs5, gr5⟩ := hpq
       obtain ⟨a2, ha2, n1, n2, n3, n4⟩ := NEXT.out u r rfl
       rw [← ha2] at rs5
       have g5 := jgq.out.trans gr5
       obtain ⟨b25, b35⟩ := jb.out.rows jgq.out gr5 b2q.out b3q.out
       have c2 : w5.cell? ⟨h2, 0, none⟩ = some (.pointer (some ⟨X.g, 0, none⟩)) := b25.cell 0
       have P1 := Lib.hid (put_any X HX.out w5 a2 _ oa5 oc5 rs5 n3 (on : Int) 0)
       replace g5 := Lib.hid g5
       replace b25 := Lib.hid b25
       replace b35 := Lib.hid b35
       replace n1 := Lib.hid n1
       replace n2 := Lib.hid n2
       replace n3 := Lib.hid n3
       replace n4 := Lib.hid n4
       clear rs5 gr5 NEXT NO2 jgq b2q b3q ha2
       simp only [resB]
       go_wp2_with fail
       refine P1.out.mono ?_
       rintro e w6 ⟨rfl, oa6, oc6, rs6, gr6⟩
       have g6 := g5.out.trans gr6
       obtain ⟨b26, b36⟩ := jb.out.rows g5.out gr6 b25.out b35.out
       have c2 : w6.cell? ⟨h2, 0, none⟩ = some (.pointer (some ⟨X.g, 0, none⟩)) := b26.cell 0
       have c3 : w6.cell? ⟨h3, 0, none⟩ = some (.int .i64 (k : Int)) := b36.cell 0
       have hO6 : O ++ t.post ++ u.post ++ [((on : Int), (0 : Int))] = O ++ (Fm.bin ((on : Int), 0) t u).post := by rw [Fm.post, List.append_assoc, List.append_assoc]
       rw [hO6] at rs6 gr6 g6
       have SG := Lib.hid (sign_any X HX.out w6 a2 _ oa6 oc6 rs6 k (by omega))
       have hl6 : Hid ((O ++ (Fm.bin ((on : Int), 0) t u).post).length ≤ a2) := by
        show _ ≤ _
        rw [← hO6, List.length_append]
        have := n3.out
        simp only [List.length_cons, List.length_nil]
        omega
       replace g6 := Lib.hid g6
       replace b26 := Lib.hid b26
       replace b36 := Lib.hid b36
       clear rs6 gr6 hO6 P1 g5 b25 b35
       go_wp2_with fail
       refine SG.out.mono ?_
       rintro e w7 ⟨rfl, rs7, gr7⟩
       obtain ⟨op7, hop7⟩ : ∃ op7, op7 = signOp (clsL X.N X.T)[a2]? k := ⟨_, rfl⟩
       rw [← hop7] at rs7 ⊢
       obtain ⟨b27, b37⟩ := jb.out.rows g6.out gr7 b26.out b36.out
       have J7 : Hid (JH X w2 R n k h2 h3 O s (X.T.length - a2) w7 (.bin ((on : Int), 0) t u) a2 op7 oa6 oc6) := ⟨rfl, hop7, n4.out, rs7, g6.out.trans gr7, hl6.out, n1.out, b27, b37⟩
       clear rs7 gr7 hop7 b27 b37 SG g6 b26 b36 c2 c3
       go_wp2
       go_roundg (X.T.length - a2)
       case rel => exact ⟨_, a2, op7, oa6, oc6, rfl, rfl, J7⟩
       case measure => have := gq.out; have := n2.out; have := n1.out; omega
     ·have hrB : ((rn : Int) == (k : Int)) = false := by rw [beq_eq_false_iff_ne]; omega
      have hrN : (rn == k) = false := by rw [beq_eq_false_iff_ne]; exact hrk
      have hm : rightM k (on : Int) = downM k := by unfold rightM; rw [if_neg (by rw [← hrn]; exact hrk)]
      have hq' := hq.out
      rw [hm] at hq'
      have hd : downM k = .leaf := by unfold downM; rw [if_pos hk4e.out]
      rw [hd] at hq'
      have CR := Lib.hid (fun v hv => ILH.out Q (a1 + 1) v (O ++ t.post) oa1 oc1 hq' hv)
      clear hd
      clear hm hq' hrk hrn hq
      go_wp2_with fail
      go_quiet (fail)
      obtain ⟨wq, hwq⟩ : ∃ wq, wq = wr.drewN nq := ⟨_, rfl⟩
      have bq : Below wr.heap.size wr wq := by rw [hwq]; exact bdrewN (Below.refl _ _) _
      rw [← hwq]
      have rsq := rs1.below bq
      have jgq := jgr.out.trans (RdG.below (s := (Value.slice oa1 (O ++ t.post).length oc1).ownBlock) bq)
      have b2q := jb2.out.below bq
      have b3q := jb3.out.below bq
      have c2 : wq.cell? ⟨h2, 0, none⟩ = some (.pointer (some ⟨X.g, 0, none⟩)) := b2q.cell 0
      have c3 : wq.cell? ⟨h3, 0, none⟩ = some (.int .i64 (k : Int)) := b3q.cell 0
      have C1 := (CR.out wq rsq).mono fun e w' h => RdP.parts.1 h
      replace rsq := Lib.hid rsq
      replace jgq := Lib.hid jgq
      replace b2q := Lib.hid b2q
      replace b3q := Lib.hid b3q
      replace C1 := Lib.hid C1
      replace hwq := Lib.hid hwq
      clear rs1 jgr jb2 jb3 CR y3 bq
      go_wp2_with fail
      refine C1.out.mono ?_
      rintro e w5 ⟨rfl, hpq⟩
      clear C1 c2 c3
      cases Q with
      | no r =>
       obtain ⟨a5, O5, oa5, oc5, rs5, gr5⟩ := hpq
       have hR := NO2.out r rfl
       have fin : Hid (RdP X R w O oa oc (.returned (.bool false)) w5) := by
        show RdP _ _ _ _ _ _ _ _
        rw [hR]
        exact RdP.noI rfl rs5 (by rw [← hs.out]; exact g02.out.trans (jgq.out.trans gr5))
       clear hR rs5 gr5 NEXT NO2
       simp only [resB]
       go_wp2
       go_ret
       exact fin.out
      | ok u r =>
       obtain ⟨oa5, oc5, rs5, gr5⟩ := hpq
       obtain ⟨a2, ha2, n1, n2, n3, n4⟩ := NEXT.out u r rfl
       rw [← ha2] at rs5
       have g5 := jgq.out.trans gr5
       obtain ⟨b25, b35⟩ := jb.out.rows jgq.out gr5 b2q.out b3q.out
       have c2 : w5.cell? ⟨h2, 0, none⟩ = some (.pointer (some ⟨X.g, 0, none⟩)) := b25.cell 0
       have P1 := Lib.hid (put_any X HX.out w5 a2 _ oa5 oc5 rs5 n3 (on : Int) 0)
       replace g5 := Lib.hid g5
       replace b25 := Lib.hid b25
       replace b35 := Lib.hid b35
       replace n1 := Lib.hid n1
       replace n2 := Lib.hid n2
       replace n3 := Lib.hid n3
       replace n4 := Lib.hid n4
       clear rs5 gr5 NEXT NO2 jgq b2q b3q ha2
       simp only [resB]
       go_wp2_with fail
       refine P1.out.mono ?_
       rintro e w6 ⟨rfl, oa6, oc6, rs6, gr6⟩
       have g6 := g5.out.trans gr6
       obtain ⟨b26, b36⟩ := jb.out.rows g5.out gr6 b25.out b35.out
       have c2 : w6.cell? ⟨h2, 0, none⟩ = some (.pointer (some ⟨X.g, 0, none⟩)) := b26.cell 0
       have c3 : w6.cell? ⟨h3, 0, none⟩ = some (.int .i64 (k : Int)) := b36.cell 0
       have hO6 : O ++ t.post ++ u.post ++ [((on : Int), (0 : Int))] = O ++ (Fm.bin ((on : Int), 0) t u).post := by rw [Fm.post, List.append_assoc, List.append_assoc]
       rw [hO6] at rs6 gr6 g6
       have SG := Lib.hid (sign_any X HX.out w6 a2 _ oa6 oc6 rs6 k (by omega))
       have hl6 : Hid ((O ++ (Fm.bin ((on : Int), 0) t u).post).length ≤ a2) := by
        show _ ≤ _
        rw [← hO6, List.length_append]
        have := n3.out
        simp only [List.length_cons, List.length_nil]
        omega
       replace g6 := Lib.hid g6
       replace b26 := Lib.hid b26
       replace b36 := Lib.hid b36
       clear rs6 gr6 hO6 P1 g5 b25 b35
       go_wp2_with fail
       refine SG.out.mono ?_
       rintro e w7 ⟨rfl, rs7, gr7⟩
       obtain ⟨op7, hop7⟩ : ∃ op7, op7 = signOp (clsL X.N X.T)[a2]? k := ⟨_, rfl⟩
       rw [← hop7] at rs7 ⊢
       obtain ⟨b27, b37⟩ := jb.out.rows g6.out gr7 b26.out b36.out
       have J7 : Hid (JH X w2 R n k h2 h3 O s (X.T.length - a2) w7 (.bin ((on : Int), 0) t u) a2 op7 oa6 oc6) := ⟨rfl, hop7, n4.out, rs7, g6.out.trans gr7, hl6.out, n1.out, b27, b37⟩
       clear rs7 gr7 hop7 b27 b37 SG g6 b26 b36 c2 c3
       go_wp2
       go_roundg (X.T.length - a2)
       case rel => exact ⟨_, a2, op7, oa6, oc6, rfl, rfl, J7⟩
       case measure => have := gq.out; have := n2.out; have := n1.out; omega
 ·have CQ := IJ (k + 1) Q a w2 O oa oc (by omega) (by omega) (by have := hq; unfold downM at this; rw [if_neg hk4e] at this; exact this) rs2
  rw [show ((k + 1 : Nat) : Int) = (k : Int) + 1 from by omega] at CQ
  replace CQ := Lib.hid CQ
  replace hs := Lib.hid hs
  replace r2 := Lib.hid r2
  replace r3 := Lib.hid r3
  replace jb := Lib.hid jb
  replace rs2 := Lib.hid rs2
  replace hCl := Lib.hid hCl
  replace hw1 := Lib.hid hw1
  replace hw2 := Lib.hid hw2
  replace hh2 := Lib.hid hh2
  replace hh3 := Lib.hid hh3
  clear hq hQ1 hQ2 hp h hX IL IJ s1 s2 bw1 bw2 b02 hq0 hlo hsz hle hk1
  have hk5 : (k : Int) + 1 < 5 := by omega
  replace hk4e := Lib.hid hk4e
  go_enter Tryz.func11, Tryz.ntmps11
  go_upto_region 1 with (fail)
  rw [← hw1.out, ← hw2.out, ← hh3.out, ← hh2.out]
  have c2 : w2.cell? ⟨h2, 0, none⟩ = some (.pointer (some ⟨X.g, 0, none⟩)) := r2.out.cell 0
  have c3 : w2.cell? ⟨h3, 0, none⟩ = some (.int .i64 (k : Int)) := r3.out.cell 0
  go_wp2_with fail
  refine (j1_any X w2 h2 h3 k hk4 c2 c3 (resB Q) (RdQ X Q w2 O oa oc) (CQ.out.mono fun e w' h => RdP.parts.1 h)).mono ?_
  rintro e w3 hpo
  obtain ⟨he, hpq⟩ := hpo
  subst he
  clear CQ c2 c3
  cases Q with
  | no r =>
   obtain ⟨a3, O3, oa3, oc3, rs3, gr3⟩ := hpq
   have hR := NOR.out r rfl
   have fin : Hid (RdP X R w O oa oc (.returned (.bool false)) w3) := by
    show RdP _ _ _ _ _ _ _ _
    rw [hR]
    exact RdP.noI rfl rs3 (by rw [← hs.out] at gr3 ⊢; exact g02.out.trans gr3)
   clear FIRST NOR hR rs3 gr3
   simp only [resB]
   go_wp2
   go_ret
   exact fin.out
  | ok t r =>
   obtain ⟨oa3, oc3, rs3, gr3⟩ := hpq
   obtain ⟨f1, f2, f3, f4⟩ := FIRST.out t r rfl
   obtain ⟨a3, ha3⟩ : ∃ a3, a3 = X.T.length - r.length := ⟨_, rfl⟩
   rw [← ha3] at rs3 f1 f2 f3 f4
   rw [← hs.out] at gr3
   obtain ⟨b2, b3⟩ := jb.out.rows (RdG.refl _ _ _) gr3 r2.out r3.out
   have c2 : w3.cell? ⟨h2, 0, none⟩ = some (.pointer (some ⟨X.g, 0, none⟩)) := b2.cell 0
   have c3 : w3.cell? ⟨h3, 0, none⟩ = some (.int .i64 (k : Int)) := b3.cell 0
   have SG := Lib.hid (sign_any X HX.out w3 a3 _ oa3 oc3 rs3 k (by omega))
   replace gr3 := Lib.hid gr3
   replace f1 := Lib.hid f1
   replace f3 := Lib.hid f3
   replace f4 := Lib.hid f4
   replace b2 := Lib.hid b2
   replace b3 := Lib.hid b3
   clear FIRST NOR rs3 f2 ha3 r2 r3
   simp only [resB]
   go_wp2_with fail
   refine SG.out.mono ?_
   rintro e w4 ⟨rfl, rs4, gr4⟩
   obtain ⟨op, hop⟩ : ∃ op, op = signOp (clsL X.N X.T)[a3]? k := ⟨_, rfl⟩
   rw [← hop] at rs4 ⊢
   obtain ⟨b24, b34⟩ := jb.out.rows gr3.out gr4 b2.out b3.out
   have J0 : Hid (JH X w2 R n k h2 h3 O s (X.T.length - a3) w4 t a3 op oa3 oc3) := ⟨rfl, hop, f4.out, rs4, gr3.out.trans gr4, f3.out, f1.out, b24, b34⟩
   clear rs4 gr4 hop b24 b34 SG gr3 f1 f3 f4 b2 b3 c2 c3
   go_wp2
   go_loopg [4, 6] (X.T.length - a3) (fun q r4 r6 wr => ∃ (t : Fm) (a1 : Nat) (op : Int) (oa1 : Option Addr) (oc1 : Nat), r4 = .bool false ∧ r6 = .int .i64 op ∧ Hid (JH X w2 R n k h2 h3 O s q wr t a1 op oa1 oc1))
   case atStart => exact ⟨t, a3, op, oa3, oc3, rfl, rfl, J0⟩
   case round =>
    clear J0
    obtain ⟨t, a1, op, oa1, oc1, rfl, rfl, jh⟩ := hrel
    by_cases h0 : op = 0
    ·have hR := loop_stop (by omega) CB.out jh.out.prs (by rw [← jh.out.eop, h0])
     have hrs := jh.out.rs
     rw [if_pos h0] at hrs
     have fin : Hid (RdP X R w O oa oc (.returned (.bool true)) wr) := by
      show RdP _ _ _ _ _ _ _ _
      rw [hR]
      exact RdP.okI rfl (by rw [List.length_drop, hCl.out]; have := jh.out.al; omega) hrs (by rw [← hs.out]; exact g02.out.trans jh.out.gr)
     subst h0
     clear hR hrs jh
     go_wp2
     go_ret
     exact fin.out
    ·obtain ⟨hc, hb⟩ := sign_two jh.out.eop h0
     have ht2 : takesP op = 2 := clsL_good X.N X.T _ (List.mem_of_getElem? hc)
     obtain ⟨Q, hq, hQ1, hQ2⟩ := loop_go jh.out.prs hc hb
     obtain ⟨on, hon, hon13, hway⟩ := way_at (op := op) (by omega)
     subst hon
     have hopI : (0 : Int) < (on : Int) := by omega
     have hon13I : (on : Int) < 13 := by omega
     have ha1 : a1 < X.T.length := by have := (List.getElem?_eq_some_iff.1 hc).1; have := hCl.out; omega
     have rs1 := jh.out.rs
     rw [if_neg h0] at rs1
     have WY := (HX.out.door.below rs1.bel).way hon13 hway
     have y3 : wr.cell? ⟨0, on * 4 + 3, none⟩ = some (.int .i64 (if takesP (on : Int) = 0 then 0 else (rightP (on : Int) : Int))) := WY 3 _ rfl
     rw [if_neg (by omega)] at y3
     have c2 : wr.cell? ⟨h2, 0, none⟩ = some (.pointer (some ⟨X.g, 0, none⟩)) := jh.out.b2.cell 0
     have c3 : wr.cell? ⟨h3, 0, none⟩ = some (.int .i64 (k : Int)) := jh.out.b3.cell 0
     have gq := jh.out.hq
     -- the size of what is read
     have hlo := left_suf (prs_left (n := n) (m := rightM k (on : Int)) (rem := (clsL X.N X.T).drop (a1 + 1)) (R := Q) (by
      unfold rightM downM
      split
      ·exact ⟨by omega, hk4⟩
      ·split
       ·trivial
       ·exact ⟨by omega, by omega⟩) hq)
     have hsz : ∀ u r, Q = .ok u r → u.post.length + r.length ≤ X.T.length - (a1 + 1) := fun u r e => by
      have hq0 := hq
      rw [e] at hq0
      have h1 := (prs_size n (rightM k (on : Int)) _ u r hq0).right
      rw [List.length_drop, hCl.out] at h1
      exact h1
     have NEXT : Hid (∀ u r, Q = .ok u r → ∃ a2, a2 = X.T.length - r.length ∧ a2 ≤ X.T.length ∧ a1 < a2 ∧ (O ++ t.post ++ u.post).length < a2 ∧ prs n (.loop k (.bin ((on : Int), 0) t u)) ((clsL X.N X.T).drop a2) = some R) := fun u r e => by
      obtain ⟨d1, d2⟩ := suf_drop (hlo.1 u r e) rfl
      rw [hCl.out] at d1 d2
      have h1 := hsz u r e
      have h3 := jh.out.le
      refine ⟨_, rfl, by omega, by omega, by rw [List.length_append]; omega, ?_⟩
      rw [← d1]
      exact hQ1 u r e
     have NO2 : Hid (∀ r, Q = .no r → R = .no r) := hQ2
     have jgr := Lib.hid jh.out.gr
     have jle := Lib.hid jh.out.le
     have jb2 := Lib.hid jh.out.b2
     have jb3 := Lib.hid jh.out.b3
     replace gq := Lib.hid gq
     replace hq := Lib.hid hq
     have h0H := Lib.hid h0
     have hbH := Lib.hid hb
     clear hQ1 hQ2 hlo hsz hway WY jh hc ht2 h0 hb
     obtain ⟨rn, hrn⟩ : ∃ rn, rn = rightP (on : Int) := ⟨_, rfl⟩
     rw [← hrn] at y3
     by_cases hrk : rn = k
     ·have hrB : ((rn : Int) == (k : Int)) = true := by rw [hrk]; exact beq_self_eq_true _
      have hrN : (rn == k) = true := by rw [hrk]; exact beq_self_eq_true _
      have hm : rightM k (on : Int) = .joint k := by unfold rightM; rw [if_pos (by rw [← hrn, hrk])]
      have hq' := hq.out
      rw [hm] at hq'
      have CR := Lib.hid (fun v hv => IJH.out k Q (a1 + 1) v (O ++ t.post) oa1 oc1 (by omega) hk4 hq' hv)
      clear hm hq' hrk hrn hq
      go_wp2_with fail
      go_quiet (fail)
      obtain ⟨wq, hwq⟩ : ∃ wq, wq = wr.drewN nq := ⟨_, rfl⟩
      have bq : Below wr.heap.size wr wq := by rw [hwq]; exact bdrewN (Below.refl _ _) _
      rw [← hwq]
      have rsq := rs1.below bq
      have jgq := jgr.out.trans (RdG.below (s := (Value.slice oa1 (O ++ t.post).length oc1).ownBlock) bq)
      have b2q := jb2.out.below bq
      have b3q := jb3.out.below bq
      have c2 : wq.cell? ⟨h2, 0, none⟩ = some (.pointer (some ⟨X.g, 0, none⟩)) := b2q.cell 0
      have c3 : wq.cell? ⟨h3, 0, none⟩ = some (.int .i64 (k : Int)) := b3q.cell 0
      have C1 := j2_any X wq h2 h3 k hk4 c2 c3 (resB Q) (RdQ X Q wq (O ++ t.post) oa1 oc1) ((CR.out wq rsq).mono fun e w' h => RdP.parts.1 h)
      replace rsq := Lib.hid rsq
      replace jgq := Lib.hid jgq
      replace b2q := Lib.hid b2q
      replace b3q := Lib.hid b3q
      replace C1 := Lib.hid C1
      replace hwq := Lib.hid hwq
      clear rs1 jgr jb2 jb3 CR y3 bq
      go_wp2_with fail
      refine C1.out.mono ?_
      rintro e w5 ⟨rfl, hpq⟩
      clear C1 c2 c3
      cases Q with
      | no r =>
       obtain ⟨a5, O5, oa5, oc5, rs5, gr5⟩ := hpq
       have hR := NO2.out r rfl
       have fin : Hid (RdP X R w O oa oc (.returned (.bool false)) w5) := by
        show RdP _ _ _ _ _ _ _ _
        rw [hR]
        exact RdP.noI rfl rs5 (by rw [← hs.out]; exact g02.out.trans (jgq.out.trans gr5))
       clear hR rs5 gr5 NEXT NO2
       simp only [resB]
       go_wp2
       go_ret
       exact fin.out
      | ok u r =>
       obtain ⟨oa5, oc5, rs5, gr5⟩ := hpq
       obtain ⟨a2, ha2, n1, n2, n3, n4⟩ := NEXT.out u r rfl
       rw [← ha2] at rs5
       have g5 := jgq.out.trans gr5
       obtain ⟨b25, b35⟩ := jb.out.rows jgq.out gr5 b2q.out b3q.out
       have c2 : w5.cell? ⟨h2, 0, none⟩ = some (.pointer (some ⟨X.g, 0, none⟩)) := b25.cell 0
       have P1 := Lib.hid (put_any X HX.out w5 a2 _ oa5 oc5 rs5 n3 (on : Int) 0)
       replace g5 := Lib.hid g5
       replace b25 := Lib.hid b25
       replace b35 := Lib.hid b35
       replace n1 := Lib.hid n1
       replace n2 := Lib.hid n2
       replace n3 := Lib.hid n3
       replace n4 := Lib.hid n4
       clear rs5 gr5 NEXT NO2 jgq b2q b3q ha2
       simp only [resB]
       go_wp2_with fail
       refine P1.out.mono ?_
       rintro e w6 ⟨rfl, oa6, oc6, rs6, gr6⟩
       have g6 := g5.out.trans gr6
       obtain ⟨b26, b36⟩ := jb.out.rows g5.out gr6 b25.out b35.out
       have c2 : w6.cell? ⟨h2, 0, none⟩ = some (.pointer (some ⟨X.g, 0, none⟩)) := b26.cell 0
       have c3 : w6.cell? ⟨h3, 0, none⟩ = some (.int .i64 (k : Int)) := b36.cell 0
       have hO6 : O ++ t.post ++ u.post ++ [((on : Int), (0 : Int))] = O ++ (Fm.bin ((on : Int), 0) t u).post := by rw [Fm.post, List.append_assoc, List.append_assoc]
       rw [hO6] at rs6 gr6 g6
       have SG := Lib.hid (sign_any X HX.out w6 a2 _ oa6 oc6 rs6 k (by omega))
       have hl6 : Hid ((O ++ (Fm.bin ((on : Int), 0) t u).post).length ≤ a2) := by
        show _ ≤ _
        rw [← hO6, List.length_append]
        have := n3.out
        simp only [List.length_cons, List.length_nil]
        omega
       replace g6 := Lib.hid g6
       replace b26 := Lib.hid b26
       replace b36 := Lib.hid b36
       clear rs6 gr6 hO6 P1 g5 b25 b35
       go_wp2_with fail
       refine SG.out.mono ?_
       rintro e w7 ⟨rfl, rs7, gr7⟩
       obtain ⟨op7, hop7⟩ : ∃ op7, op7 = signOp (clsL X.N X.T)[a2]? k := ⟨_, rfl⟩
       rw [← hop7] at rs7 ⊢
       obtain ⟨b27, b37⟩ := jb.out.rows g6.out gr7 b26.out b36.out
       have J7 : Hid (JH X w2 R n k h2 h3 O s (X.T.length - a2) w7 (.bin ((on : Int), 0) t u) a2 op7 oa6 oc6) := ⟨rfl, hop7, n4.out, rs7, g6.out.trans gr7, hl6.out, n1.out, b27, b37⟩
       clear rs7 gr7 hop7 b27 b37 SG g6 b26 b36 c2 c3
       go_wp2
       go_roundg (X.T.length - a2)
       case rel => exact ⟨_, a2, op7, oa6, oc6, rfl, rfl, J7⟩
       case measure => have := gq.out; have := n2.out; have := n1.out; omega
     ·have hrB : ((rn : Int) == (k : Int)) = false := by rw [beq_eq_false_iff_ne]; omega
      have hrN : (rn == k) = false := by rw [beq_eq_false_iff_ne]; exact hrk
      have hm : rightM k (on : Int) = downM k := by unfold rightM; rw [if_neg (by rw [← hrn]; exact hrk)]
      have hq' := hq.out
      rw [hm] at hq'
      have hd : downM k = .joint (k + 1) := by unfold downM; rw [if_neg hk4e.out]
      rw [hd] at hq'
      have CR := Lib.hid (fun v hv => IJH.out (k + 1) Q (a1 + 1) v (O ++ t.post) oa1 oc1 (by omega) (by have := hk4e.out; omega) hq' hv)
      rw [show ((k + 1 : Nat) : Int) = (k : Int) + 1 from by omega] at CR
      clear hd
      clear hm hq' hrk hrn hq
      go_wp2_with fail
      go_quiet (fail)
      obtain ⟨wq, hwq⟩ : ∃ wq, wq = wr.drewN nq := ⟨_, rfl⟩
      have bq : Below wr.heap.size wr wq := by rw [hwq]; exact bdrewN (Below.refl _ _) _
      rw [← hwq]
      have rsq := rs1.below bq
      have jgq := jgr.out.trans (RdG.below (s := (Value.slice oa1 (O ++ t.post).length oc1).ownBlock) bq)
      have b2q := jb2.out.below bq
      have b3q := jb3.out.below bq
      have c2 : wq.cell? ⟨h2, 0, none⟩ = some (.pointer (some ⟨X.g, 0, none⟩)) := b2q.cell 0
      have c3 : wq.cell? ⟨h3, 0, none⟩ = some (.int .i64 (k : Int)) := b3q.cell 0
      have C1 := j1_any X wq h2 h3 k hk4 c2 c3 (resB Q) (RdQ X Q wq (O ++ t.post) oa1 oc1) ((CR.out wq rsq).mono fun e w' h => RdP.parts.1 h)
      replace rsq := Lib.hid rsq
      replace jgq := Lib.hid jgq
      replace b2q := Lib.hid b2q
      replace b3q := Lib.hid b3q
      replace C1 := Lib.hid C1
      replace hwq := Lib.hid hwq
      clear rs1 jgr jb2 jb3 CR y3 bq
      go_wp2_with fail
      refine C1.out.mono ?_
      rintro e w5 ⟨rfl, hpq⟩
      clear C1 c2 c3
      cases Q with
      | no r =>
       obtain ⟨a5, O5, oa5, oc5, rs5, gr5⟩ := hpq
       have hR := NO2.out r rfl
       have fin : Hid (RdP X R w O oa oc (.returned (.bool false)) w5) := by
        show RdP _ _ _ _ _ _ _ _
        rw [hR]
        exact RdP.noI rfl rs5 (by rw [← hs.out]; exact g02.out.trans (jgq.out.trans gr5))
       clear hR rs5 gr5 NEXT NO2
       simp only [resB]
       go_wp2
       go_ret
       exact fin.out
      | ok u r =>
       obtain ⟨oa5, oc5, rs5, gr5⟩ := hpq
       obtain ⟨a2, ha2, n1, n2, n3, n4⟩ := NEXT.out u r rfl
       rw [← ha2] at rs5
       have g5 := jgq.out.trans gr5
       obtain ⟨b25, b35⟩ := jb.out.rows jgq.out gr5 b2q.out b3q.out
       have c2 : w5.cell? ⟨h2, 0, none⟩ = some (.pointer (some ⟨X.g, 0, none⟩)) := b25.cell 0
       have P1 := Lib.hid (put_any X HX.out w5 a2 _ oa5 oc5 rs5 n3 (on : Int) 0)
       replace g5 := Lib.hid g5
       replace b25 := Lib.hid b25
       replace b35 := Lib.hid b35
       replace n1 := Lib.hid n1
       replace n2 := Lib.hid n2
       replace n3 := Lib.hid n3
       replace n4 := Lib.hid n4
       clear rs5 gr5 NEXT NO2 jgq b2q b3q ha2
       simp only [resB]
       go_wp2_with fail
       refine P1.out.mono ?_
       rintro e w6 ⟨rfl, oa6, oc6, rs6, gr6⟩
       have g6 := g5.out.trans gr6
       obtain ⟨b26, b36⟩ := jb.out.rows g5.out gr6 b25.out b35.out
       have c2 : w6.cell? ⟨h2, 0, none⟩ = some (.pointer (some ⟨X.g, 0, none⟩)) := b26.cell 0
       have c3 : w6.cell? ⟨h3, 0, none⟩ = some (.int .i64 (k : Int)) := b36.cell 0
       have hO6 : O ++ t.post ++ u.post ++ [((on : Int), (0 : Int))] = O ++ (Fm.bin ((on : Int), 0) t u).post := by rw [Fm.post, List.append_assoc, List.append_assoc]
       rw [hO6] at rs6 gr6 g6
       have SG := Lib.hid (sign_any X HX.out w6 a2 _ oa6 oc6 rs6 k (by omega))
       have hl6 : Hid ((O ++ (Fm.bin ((on : Int), 0) t u).post).length ≤ a2) := by
        show _ ≤ _
        rw [← hO6, List.length_append]
        have := n3.out
        simp only [List.length_cons, List.length_nil]
        omega
       replace g6 := Lib.hid g6
       replace b26 := Lib.hid b26
       replace b36 := Lib.hid b36
       clear rs6 gr6 hO6 P1 g5 b25 b35
       go_wp2_with fail
       refine SG.out.mono ?_
       rintro e w7 ⟨rfl, rs7, gr7⟩
       obtain ⟨op7, hop7⟩ : ∃ op7, op7 = signOp (clsL X.N X.T)[a2]? k := ⟨_, rfl⟩
       rw [← hop7] at rs7 ⊢
       obtain ⟨b27, b37⟩ := jb.out.rows g6.out gr7 b26.out b36.out
       have J7 : Hid (JH X w2 R n k h2 h3 O s (X.T.length - a2) w7 (.bin ((on : Int), 0) t u) a2 op7 oa6 oc6) := ⟨rfl, hop7, n4.out, rs7, g6.out.trans gr7, hl6.out, n1.out, b27, b37⟩
       clear rs7 gr7 hop7 b27 b37 SG g6 b26 b36 c2 c3
       go_wp2
       go_roundg (X.T.length - a2)
       case rel => exact ⟨_, a2, op7, oa6, oc6, rfl, rfl, J7⟩
       case measure => have := gq.out; have := n2.out; have := n1.out; omega
theorem read_all (X : RdX) (hX : RdOk X) : ∀ n, RdLeaf X n ∧ RdJoint X n
 | 0 => ⟨fun R a w O oa oc h => (by cases h), fun k R a w O oa oc _ _ h => (by cases h)⟩
 | n + 1 => ⟨leaf_any X hX n (read_all X hX n).1 (read_all X hX n).2, joint_any X hX n (read_all X hX n).1 (read_all X hX n).2⟩
end Go.Proofs.YtkehfolcfcbplaaGreatDoor
