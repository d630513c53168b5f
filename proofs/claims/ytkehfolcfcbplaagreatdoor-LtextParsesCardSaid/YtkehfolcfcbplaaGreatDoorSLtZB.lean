/- The document's joint, walked. Conditions: what leaf does, and what joint does with fewer steps. The document's leaf, walked. Conditions: what leaf and joint do with fewer steps. The document's reading of formulas, walked: it gives what ParseR says. Conditions: not too many names, no text over 2^48 bytes. The walk of 'LtextParses'. Conditions: what the listed variables hold. -/
import Derived.Test.YtkehfolcfcbplaaGreatDoorSLtZA
import Derived.Test.YtkehfolcfcbplaaGreatDoorSLtR8
import Derived.Test.YtkehfolcfcbplaaGreatDoorSLtR6
import Derived.Test.YtkehfolcfcbplaaGreatDoorSLtR9
import Derived.Test.YtkehfolcfcbplaaGreatDoorSLtB
import Derived.Test.YtkehfolcfcbplaaGreatDoorSStruct
namespace Go.Proofs.YtkehfolcfcbplaaGreatDoor
open Go.RowKit
set_option linter.unusedVariables false
set_option linter.unusedSimpArgs false
theorem RzP.val {X : RdX} {R : Res} {w : World} {a : Nat} {e : Ending} {w' : World} (h : RzP X R w a e w') : ∃ oa on oc, e = .returned (.slice oa on oc) := by
 cases R with
 | ok t r => obtain ⟨oa, oc, h1, _⟩ := h; exact ⟨_, _, _, h1⟩
 | no r => obtain ⟨oa, oc, on, cs, a', h1, _⟩ := h; exact ⟨_, _, _, h1⟩
theorem RzP.row {X : RdX} {R : Res} {w : World} {a : Nat} {w' : World} {oa : Option Addr} {on oc : Nat} (h : RzP X R w a (.returned (.slice oa on oc)) w') (htl : X.T.length ≤ 6000) (hb : ∀ t r, R = .ok t r → t.post.length ≤ 6000) : ∃ O : List Nd, on = O.length ∧ OwnR w' w.heap.size TNd 2 oa on oc (pcells O) ∧ on ≤ 12000 ∧ Keeps w w' (fun j => j = X.g) ∧ ∃ a' pl wy, RzS X w' a' pl wy := by
 cases R with
 | ok t r =>
  obtain ⟨oa', oc', h1, h2, h3, h4⟩ := h
  injection h1 with h1
  injection h1 with e1 e2 e3
  subst e1; subst e2; subst e3
  have := hb t r rfl
  exact ⟨t.post, rfl, h2, by omega, h4, _, _, _, h3⟩
 | no r =>
  obtain ⟨oa', oc', on', O, a', h1, h2, h3, h4, h5, h6⟩ := h
  injection h1 with h1
  injection h1 with e1 e2 e3
  subst e1; subst e2; subst e3
  exact ⟨O, h2.1, h2.2, by omega, h6, _, _, _, h5⟩
theorem SrcAt.ownN {w : World} {base : Nat} {a : Option Addr} {n c : Nat} {O : List Nd} (h : OwnR w base TNd 2 a n c (pcells O)) (hn : n = O.length) : SrcAt w a (pcells O) := by
 cases O with
 | nil => exact .inl rfl
 | cons x r =>
  obtain ⟨g, e, _, _⟩ := OwnR.addr h (by rw [hn]; exact Nat.succ_pos _)
  subst e
  refine .inr ⟨g, 0, rfl, fun j u hj => ?_⟩
  have hjl := (List.getElem?_eq_some_iff.1 hj).1
  rw [pcells_len, ← hn] at hjl
  rw [Nat.zero_add, OwnR.cell h j hjl]
  exact hj
theorem pcells_inj : ∀ (A B : List Nd), pcells A = pcells B → A = B
 | [], [], _ => rfl
 | [], x :: r, h => by simp [pcells] at h
 | x :: r, [], h => by simp [pcells] at h
 | x :: r, y :: q, h => by
  have h2 : Value.int .i64 x.1 :: Value.int .i64 x.2 :: pcells r = Value.int .i64 y.1 :: Value.int .i64 y.2 :: pcells q := h
  injection h2 with h3 h4
  injection h4 with h4 h5
  injection h3 with _ h3
  injection h4 with _ h4
  rw [pcells_inj r q h5, Prod.ext h3 h4]
theorem OwnR.same {w : World} {base e sz n cap : Nat} {a : Option Addr} {c1 c2 : List Value} (h1 : OwnR w base e sz a n cap c1) (h2 : OwnR w base e sz a n cap c2) : c1 = c2 := by
 have l1 := OwnR.len h1
 have l2 := OwnR.len h2
 by_cases h0 : 0 < n
 ·obtain ⟨g, e, _, _⟩ := OwnR.addr h1 h0
  subst e
  refine List.ext_getElem? fun j => ?_
  by_cases hj : j < n * sz
  ·rw [← OwnR.cell h1 j hj, ← OwnR.cell h2 j hj]
  ·rw [List.getElem?_eq_none (by omega), List.getElem?_eq_none (by omega)]
 ·have : n = 0 := by omega
  subst this
  rw [Nat.zero_mul] at l1 l2
  rw [List.eq_nil_of_length_eq_zero l1, List.eq_nil_of_length_eq_zero l2]
theorem pcells_one (O : List Nd) : ∀ u ∈ pcells O, u.oneCell' = true := by
 intro u hu
 obtain ⟨x, _, hx⟩ := List.mem_flatMap.1 hu
 exact nd_one u hx
theorem right_mode {op : Int} {k : Nat} (hb : bindsP op = k) (ht : takesP op = 2) : rightM k op = modeM (if k = 4 ∨ k = 1 then k else k + 1) := by
 have hop : op = 5 ∨ op = 6 ∨ op = 7 ∨ op = 9 ∨ op = 10 := by
  unfold takesP at ht
  split at ht
  ·cases ht
  ·split at ht
   ·cases ht
   ·split at ht
    ·assumption
    ·cases ht
 rcases hop with rfl | rfl | rfl | rfl | rfl <;> (subst hb; rfl)
structure JzG (X : RdX) (w : World) (R : Res) (n k a q : Nat) (wr : World) (t : Fm) (a1 : Nat) (oa : Option Addr) (oc : Nat) : Prop where
 prs : prs n (.loop k t) ((clsL X.N X.T).drop a1) = some R
 own : OwnR wr w.heap.size TNd 2 oa t.post.length oc (pcells t.post)
 rs : RzS X wr a1 0 0
 kp : Keeps w wr (fun j => j = X.g)
 le : t.post.length + a ≤ a1
 al : a1 ≤ X.T.length
 hq : q = X.T.length - a1 + 1
structure JzE (X : RdX) (w : World) (R : Res) (a q : Nat) (wr : World) (oa : Option Addr) (on oc : Nat) : Prop where
 rz : RzP X R w a (.returned (.slice oa on oc)) wr
 er : ∃ a' pl wy, RzS X wr a' pl wy ∧ wy ≠ 0
 hq : q = 0
def JzS (X : RdX) (w : World) (R : Res) (n k a q : Nat) (wr : World) (oa : Option Addr) (on oc : Nat) : Prop := (∃ t a1, on = t.post.length ∧ JzG X w R n k a q wr t a1 oa oc) ∨ JzE X w R a q wr oa on oc
theorem stop_ne (X : RdX) (a : Nat) : (stopAt X a).2 ≠ 0 := by
 unfold stopAt
 split
 ·exact fun e => by cases e
 ·rename_i t ht
  have h1 := errC_ne X.N t.kind t.text
  show (errC (clsP X.N t.kind t.text) : Int) ≠ 0
  omega
theorem JzE.of_no {X : RdX} {w : World} {r : List Cls} {a : Nat} {wr : World} {oa : Option Addr} {on oc : Nat} (h : RzP X (.no r) w a (.returned (.slice oa on oc)) wr) : JzE X w (.no r) a 0 wr oa on oc := by
 refine ⟨h, ?_, rfl⟩
 obtain ⟨oa', oc', on', cs, a', h1, h2, h3, h4, h5, h6⟩ := h
 exact ⟨a', _, _, h5, stop_ne X _⟩
set_option maxRecDepth 12000 in
set_option maxHeartbeats 16000000 in
theorem rjoint_any (X : RdX) (hX : RzOk X) (n : Nat) (IL : RzLeaf X (n + 1)) (IJ : RzJoint X n) : RzJoint X (n + 1) := by
 intro k R a w hk1 hk5 hp ha h
 by_cases hk : k = 5
 ·subst hk
  have CL := Lib.hid (IL R a w hp ha h)
  clear IL IJ hp h hX
  go_enter Tryz.func16, Tryz.ntmps16
  go_wp2_with fail
  refine CL.out.mono ?_
  rintro e w1 hr
  obtain ⟨oa, on, oc, rfl⟩ := hr.val
  replace hr := Lib.hid hr
  go_wp2
  go_ret
  exact hr.out
 ·have hk4 : k ≤ 4 := by omega
  have hm : modeM k = .joint k := by unfold modeM; rw [if_neg hk]
  rw [hm] at hp
  obtain ⟨Q, hq, hQ1, hQ2⟩ := joint_step hp
  have hCl := cls_len X.N X.T
  have hlo := left_suf (prs_left (n := n) (m := downM k) (rem := (clsL X.N X.T).drop a) (R := Q) (by
   unfold downM
   split
   ·trivial
   ·exact ⟨by omega, by omega⟩) hq)
  have hsz : ∀ t r, Q = .ok t r → t.post.length + r.length ≤ X.T.length - a := fun t r e => by
   have hq0 := hq
   rw [e] at hq0
   have h1 := (prs_size n (downM k) _ t r hq0).down
   rw [List.length_drop, hCl] at h1
   exact h1
  have CQ := IJ (k + 1) Q a w (by omega) (by omega) (by rw [← down_mode]; exact hq) ha h
  rw [show ((k + 1 : Nat) : Int) = (k : Int) + 1 from by omega] at CQ
  have S0 : Hid (∀ oa on oc v, RzP X Q w a (.returned (.slice oa on oc)) v → ∃ q, JzS X w R n k a q v oa on oc) := fun oa on oc v hv => by
   cases Q with
   | no r =>
    rw [hQ2 r rfl]
    exact ⟨0, .inr (JzE.of_no hv)⟩
   | ok t r =>
    obtain ⟨oa', oc', h1, h2, h3, h4⟩ := hv
    injection h1 with h1
    injection h1 with e1 e2 e3
    subst e1; subst e2; subst e3
    obtain ⟨d1, d2⟩ := suf_drop (hlo.1 t r rfl) rfl
    rw [hCl] at d1 d2
    have h6 := hsz t r rfl
    refine ⟨_, .inl ⟨t, X.T.length - r.length, rfl, ?_, h2, h3, h4, by omega, by omega, rfl⟩⟩
    rw [← d1]
    exact hQ1 t r rfl
  have CB : Hid (∀ c ∈ clsL X.N X.T, ∀ op, c = .bin op → op ≠ 0) := fun c hc op e e0 => by
   have hg := clsL_good X.N X.T c hc
   rw [e, e0] at hg
   cases hg
  have hkI : (k : Int) ≤ 4 := by omega
  have hk0 : (1 : Int) ≤ (k : Int) := by omega
  have htl := hX.ok.tl
  have hgl : Hid (X.g < w.heap.size) := h.box.lt
  have IJH := Lib.hid IJ
  have HX := Lib.hid hX
  replace CQ := Lib.hid CQ
  replace hCl := Lib.hid hCl
  have haH := Lib.hid ha
  have htlH := Lib.hid htl
  clear IL IJ hp h hX hq hQ1 hQ2 hlo hsz hm ha htl hk5
  go_enter Tryz.func16, Tryz.ntmps16
  go_wp2_with fail
  refine CQ.out.mono ?_
  rintro e w1 hr
  obtain ⟨oa, on, oc, rfl⟩ := hr.val
  obtain ⟨q0, hs0⟩ := S0.out oa on oc w1 hr
  replace hs0 := Lib.hid hs0
  clear S0 hr CQ
  go_wp2
  go_loopg [5] q0 (fun q v5 wr => ∃ (oa : Option Addr) (on oc : Nat), v5 = .slice oa on oc ∧ Hid (JzS X w R n k a q wr oa on oc))
  case atStart => exact ⟨oa, on, oc, rfl, hs0⟩
  case round =>
   clear hs0
   obtain ⟨oa, on, oc, rfl, js⟩ := hrel
   rcases js.out with ⟨t, a1, hon, jg⟩ | je
   ·subst hon
    have rs := jg.rs
    have c5 : wr.cell? ⟨X.g, 5, none⟩ = some (.int .i64 0) := rs.box.cell 5
    have ha1 := jg.al
    have htl2 := htlH.out
    have NW := Lib.hid (fun v (hb : Below wr.heap.size wr v) => rnow_any X HX.out.ok v a1 0 0 (rs.below hb) (by omega))
    obtain ⟨s, hs⟩ : ∃ s : ByteArray, s = ⟨(nowP X.T a1).toArray⟩ := ⟨_, rfl⟩
    rw [← hs] at NW
    have hsd : s.data.toList = nowP X.T a1 := by rw [hs]
    have LV : Hid (∀ v, Calls Tryz.prog 36 #[.string s] v fun e w' => e = .returned (.int .i64 (levelP (nowP X.T a1) : Int)) ∧ v = w') := fun v => by
     have h1 := rlevel_any v s
     rw [hsd] at h1
     exact h1
    have OP : Hid (∀ v, Calls Tryz.prog 38 #[.string s] v fun e w' => e = .returned (.int .i64 (opOf (nowP X.T a1))) ∧ v = w') := fun v => by
     have h1 := rop_any v s
     rw [hsd] at h1
     exact h1
    obtain ⟨lv1, lv2⟩ := now_level HX.out hk1 hk4 (a := a1)
    by_cases hlv : levelP (nowP X.T a1) = k
    ·obtain ⟨op, hop, hc, hb⟩ := lv1 hlv
     rw [hop] at OP
     rw [hlv] at LV
     have hkk : ((k : Int) == (k : Int)) = true := beq_self_eq_true _
     have ht2 : takesP op = 2 := clsL_good X.N X.T _ (List.mem_of_getElem? hc)
     have hlt : a1 < X.T.length := by have := (List.getElem?_eq_some_iff.1 hc).1; have := hCl.out; omega
     obtain ⟨Q, hq, hQ1, hQ2⟩ := loop_go jg.prs hc hb
     rw [right_mode hb ht2] at hq
     have hq' := hq
     generalize hm2 : (if k = 4 ∨ k = 1 then k else k + 1) = m2 at hq
     have hm25 : 1 ≤ m2 ∧ m2 ≤ 4 := by
      rw [← hm2]
      split <;> omega
     have hmm : modeM m2 = .joint m2 := by unfold modeM; rw [if_neg (by omega)]
     have hq2 := hq
     rw [hmm] at hq2
     have hlo := left_suf (prs_left (n := n) (m := .joint m2) (rem := (clsL X.N X.T).drop (a1 + 1)) (R := Q) ⟨hm25.1, hm25.2⟩ hq2)
     have hsz : ∀ u r, Q = .ok u r → u.post.length + r.length ≤ X.T.length - (a1 + 1) := fun u r e => by
      have hq0 := hq2
      rw [e] at hq0
      have h1 : u.post.length + r.length ≤ _ := prs_size n (.joint m2) _ u r hq0
      rw [List.length_drop, hCl.out] at h1
      exact h1
     have CJ := Lib.hid (fun v hv => IJH.out m2 Q (a1 + 1) v hm25.1 (by omega) hq (by omega) hv)
     -- what stands behind both appends
     have NEXT : Hid (∀ v1 v2 oa2 on2 oc2 w9 oa9 oc9, RzP X Q v1 (a1 + 1) (.returned (.slice oa2 on2 oc2)) v2 → Keeps w v1 (fun j => j = X.g) → (∃ O9 : List Nd, O9.length = t.post.length + on2 + 1 ∧ OwnR w9 w.heap.size TNd 2 oa9 (t.post.length + on2 + 1) oc9 (pcells O9) ∧ ∀ u r, Q = .ok u r → O9 = t.post ++ u.post ++ [(op, 0)]) → Keeps w w9 (fun j => j = X.g) → (∀ a' pl wy, RzS X v2 a' pl wy → RzS X w9 a' pl wy) → ∃ q', q' < X.T.length - a1 + 1 ∧ JzS X w R n k a q' w9 oa9 (t.post.length + on2 + 1) oc9) := fun v1 v2 oa2 on2 oc2 w9 oa9 oc9 hz k1 hown k9 hrs => by
      have jle := jg.le
      cases Q with
      | no r =>
       obtain ⟨oa', oc', on', cs, a', h1, h2, h3, h4, h5, h6⟩ := hz
       obtain ⟨O9, ho1, ho2, ho3⟩ := hown
       injection h1 with h1
       injection h1 with e1 e2 e3
       subst e1; subst e2; subst e3
       rw [hQ2 r rfl]
       refine ⟨0, by omega, .inr ⟨⟨oa9, oc9, t.post.length + on2 + 1, O9, a', rfl, ⟨ho1.symm, ho2⟩, by omega, by omega, hrs _ _ _ h5, k9⟩, ⟨a', _, _, hrs _ _ _ h5, stop_ne X _⟩, rfl⟩⟩
      | ok u r =>
       obtain ⟨oa', oc', h1, h2, h3, h4⟩ := hz
       injection h1 with h1
       injection h1 with e1 e2 e3
       subst e1; subst e2; subst e3
       obtain ⟨d1, d2⟩ := suf_drop (hlo.1 u r rfl) rfl
       rw [hCl.out] at d1 d2
       have h6 := hsz u r rfl
       have hpo : (Fm.bin (op, 0) t u).post.length = t.post.length + u.post.length + 1 := by rw [Fm.post, List.length_append, List.length_append]; rfl
       refine ⟨X.T.length - (X.T.length - r.length) + 1, by omega, .inl ⟨.bin (op, 0) t u, X.T.length - r.length, hpo.symm, ?_, ?_, hrs _ _ _ h3, k9, by rw [hpo]; omega, by omega, rfl⟩⟩
       ·rw [← d1]
        exact hQ1 u r rfl
       ·rw [hpo]
        obtain ⟨O9, ho1, ho2, ho3⟩ := hown
        have h7 := ho2
        rw [ho3 u r rfl] at h7
        have h8 : pcells (Fm.bin (op, 0) t u).post = pcells (t.post ++ u.post ++ [(op, 0)]) := by rw [Fm.post]; simp [pcells]
        rw [h8]
        exact h7
     have HB : Hid (∀ u r, Q = .ok u r → u.post.length ≤ 6000) := fun u r e => by have := hsz u r e; omega
     have XSZ : Hid (X.W.heap.size ≤ w.heap.size) := by show _ ≤ _; have h1 := HX.out.ok.gB; have h2 := hgl.out; omega
     have gq := Lib.hid jg.hq
     have BX := jg.rs.box
     have OW := Lib.hid jg.own
     have KP := Lib.hid jg.kp
     have RS := Lib.hid jg.rs
     have hle := Lib.hid jg.le
     have hlt2 := Lib.hid hlt
     have tln : t.post.length ≤ 6000 := by have := jg.le; omega
     have a1I : (a1 : Int) ≤ 6000 := by omega
     generalize levelP (nowP X.T a1) = lv at LV hlv
     subst hlv
     clear js jg rs lv1 lv2 hs hsd hop hc hb hq hq' hq2 hmm hlo hsz hQ1 hQ2 ht2 BX htl2 hlt ha1
     have key : (lv = 4 ∧ m2 = lv) ∨ (lv ≠ 4 ∧ lv = 1 ∧ m2 = lv) ∨ (lv ≠ 4 ∧ lv ≠ 1 ∧ m2 = lv + 1) := by
      rw [← hm2]
      by_cases h4 : lv = 4
      ·exact .inl ⟨h4, by rw [if_pos (.inl h4)]⟩
      ·by_cases h1 : lv = 1
       ·exact .inr (.inl ⟨h4, h1, by rw [if_pos (.inr h1)]⟩)
       ·exact .inr (.inr ⟨h4, h1, by rw [if_neg (by omega)]⟩)
     have N1 := Lib.hid (NW.out wr (Below.refl _ _))
     go_wp2_with fail
     refine N1.out.mono ?_
     rintro e w2 ⟨rfl, hq2⟩
     have b2 := hq2.below wr.heap.size
     have N2 := Lib.hid (NW.out w2 b2)
     clear N1 NW
     go_wp2_with fail
     refine (LV.out w2).mono ?_
     rintro e w3 ⟨rfl, rfl⟩
     clear LV
     go_wp2_with fail
     refine N2.out.mono ?_
     rintro e w3 ⟨rfl, hq3⟩
     have b3 := btrans b2 (hq3.below w2.heap.size)
     have rs3 := RS.out.below b3
     have q3 := rs3.box
     have p3 : w3.cell? ⟨X.g, 3, none⟩ = some (.int .i64 (a1 : Int)) := q3.cell 3
     have pf3 := q3.free 3
     clear N2 hq2 hq3 c5
     go_upto_region 6 with (fail)
     refine wp_region_list ?_
     obtain ⟨w4, hw4⟩ : ∃ w4, w4 = w3.setCell ⟨X.g, 3, none⟩ (.int .i64 ((a1 : Int) + 1)) := ⟨_, rfl⟩
     have q4 := q3.set 3 (.int .i64 ((a1 : Int) + 1))
     have k4 : Keeps w3 (w3.setCell ⟨X.g, 3, none⟩ (.int .i64 ((a1 : Int) + 1))) (fun j => j = X.g) := Keeps.set _ _ _ _ rfl
     rw [← hw4] at q4 k4
     refine wpList_plain rfl (fun K hK => ?_)
     go_simp
     refine hK _ _ ?_
     clear hK K
     refine wpList_plain rfl (fun K hK => ?_)
     go_simp
     refine hK _ _ ?_
     clear hK K
     refine wpList_plain rfl (fun K hK => ?_)
     go_simp
     refine hK _ _ ?_
     clear hK K
     refine wpList_plain rfl (fun K hK => ?_)
     go_simp
     refine hK _ _ ?_
     clear hK K
     refine wpList_plain rfl (fun K hK => ?_)
     go_simp
     refine hK _ _ ?_
     clear hK K
     refine wpList_plain rfl (fun K hK => ?_)
     go_simp
     refine hK _ _ ?_
     clear hK K
     refine wpList_plain rfl (fun K hK => ?_)
     go_simp
     refine hK _ _ ?_
     clear hK K
     refine wpList_plain rfl (fun K hK => ?_)
     go_simp
     refine hK _ _ ?_
     clear hK K
     rw [IntWalk.i64_in ((a1 : Int) + 1) (by omega), ← hw4]
     replace hw4 := Lib.hid hw4
     refine wpList_nil ?_
     clear p3 pf3
     have rs4 : RzS X w4 (a1 + 1) 0 0 := rs3.put HX.out.ok q4 k4
     have k14 : Keeps w w4 (fun j => j = X.g) := (KP.out.trans (Keeps.of_below b3) (fun j _ e => e)).trans k4 (fun j _ e => e)
     have C4 := Lib.hid (CJ.out w4 rs4)
     rcases key with ⟨h4, h5⟩ | ⟨h4, h1, h5⟩ | ⟨h4, h1, h5⟩
     ·have hB4 : ((lv : Int) == 4) = true := by rw [h4]; rfl
      rw [h5] at C4
      clear h4 h5
      go_upto_region 10 with (fail)
      refine wp_region_list ?_
      refine wpList_plain rfl (fun K hK => ?_)
      go_simp
      refine hK _ _ ?_
      clear hK K
      refine wpList_plain rfl (fun K hK => ?_)
      go_simp
      refine hK _ _ ?_
      clear hK K
      refine wpList_plain rfl (fun K hK => ?_)
      go_simp
      refine hK _ _ ?_
      clear hK K
      refine wpList_plain rfl (fun K hK => ?_)
      go_simp
      refine C4.out.mono ?_
      rintro e w5 hz
      obtain ⟨oa2, on2, oc2, rfl⟩ := hz.val
      refine hK _ _ ?_
      clear hK K C4
      obtain ⟨O2, hO2, ow2, hn12, kz, az, plz, wyz, rz5⟩ := hz.row htlH.out HB.out
      replace hO2 := Lib.hid hO2
      have kr5 : Keeps wr w5 (fun j => j = X.g) := ((Keeps.of_below b3).trans k4 (fun j _ e => e)).trans kz (fun j _ e => e)
      have own5 : OwnR w5 w.heap.size TNd 2 oa t.post.length oc (pcells t.post) := OwnR.keeps OW.out kr5 (fun j hj e => by have h1 := (OwnR.lt OW.out hj).1; have h2 := hgl.out; omega)
      have kw5 : Keeps w w5 (fun j => j = X.g) := k14.trans kz (fun j _ e => e)
      refine wp_appG rfl (.tmp 46) (.tmp 49) 25 TNd (.agg #[.int .i64 0, .int .i64 0]) 2 16 rfl Tryz.underlying25 infoNd3 rfl (by decide) w.heap.size oa t.post.length oc (pcells t.post) rfl own5 oa2 on2 oc2 (pcells O2) rfl (by rw [pcells_len, ← hO2.out]) (SrcAt.ownN ow2 hO2.out) (pcells_one O2) (by unfold maxLen; omega) (by omega) kw5.size ?_
      intro a6 c6 w6 ow6 hg6
      have kw6 : Keeps w w6 (fun j => j = X.g) := kw5.trans (Keeps.of_grown (S := fun j => (Value.slice oa t.post.length oc).ownBlock = some j) hg6 (fun j hj => hj)) (fun j hjl e => by have h1 := (OwnR.lt OW.out e).1; omega)
      have hgr : ∀ a' pl wy, RzS X w5 a' pl wy → RzS X w6 a' pl wy := fun a' pl wy hr => ⟨hr.box.keep (hg6.block X.g hr.box.lt (fun e => by have h1 := (OwnR.lt OW.out e.symm).1; have h2 := hgl.out; omega)), bgrown hr.bel hg6 (fun j hj => by have h1 := (OwnR.lt OW.out hj).1; have h2 := XSZ.out; omega)⟩
      refine wpList_plain rfl (fun K hK => ?_)
      go_simp
      refine hK _ _ ?_
      clear hK K
      refine wpList_nil ?_
      go_upto_region 11 with (fail)
      refine wp_region_list ?_
      refine wpList_plain rfl (fun K hK => ?_)
      go_simp
      refine hK _ _ ?_
      clear hK K
      refine wpList_plain rfl (fun K hK => ?_)
      go_simp
      refine hK _ _ ?_
      clear hK K
      refine wpList_plain rfl (fun K hK => ?_)
      go_simp
      refine (OP.out w6).mono ?_
      rintro e w7 ⟨rfl, rfl⟩
      refine hK _ _ ?_
      clear hK K
      refine wpList_plain rfl (fun K hK => ?_)
      go_simp
      refine hK _ _ ?_
      clear hK K
      refine wpList_plain rfl (fun K hK => ?_)
      go_simp
      refine hK _ _ ?_
      clear hK K
      obtain ⟨w8, hw8⟩ : ∃ w8, w8 = w6.alloc (.cells #[.int .i64 op, .int .i64 0] TNd) := ⟨_, rfl⟩
      obtain ⟨g8, hg8⟩ : ∃ g8, g8 = w6.heap.size := ⟨_, rfl⟩
      have r8 : RowAt w8 g8 TNd [.int .i64 op, .int .i64 0] := by rw [hw8]; exact RowAt.new #[.int .i64 op, .int .i64 0] hg8
      have b8 : Below w6.heap.size w6 w8 := by rw [hw8]; exact balloc (Below.refl _ _) _
      rw [← hw8, ← hg8]
      have ow8 := OwnR.keeps (S := fun _ => False) ow6 (Keeps.of_below b8) (fun _ _ e => e)
      have kw8 : Keeps w w8 (fun j => j = X.g) := kw6.trans (Keeps.of_below b8) (fun j _ e => e)
      refine wp_appG rfl (.tmp 51) (.tmp 55) 25 TNd (.agg #[.int .i64 0, .int .i64 0]) 2 16 rfl Tryz.underlying25 infoNd3 rfl (by decide) w.heap.size a6 (t.post.length + on2) c6 (pcells t.post ++ pcells O2) rfl ow8 (some ⟨g8, 0, none⟩) 1 1 [.int .i64 op, .int .i64 0] rfl rfl (SrcAt.row r8) nd_one (by unfold maxLen; omega) (by omega) kw8.size ?_
      intro a9 c9 w9 ow9 hg9
      have kw9 : Keeps w w9 (fun j => j = X.g) := kw8.trans (Keeps.of_grown (S := fun j => (Value.slice a6 (t.post.length + on2) c6).ownBlock = some j) hg9 (fun j hj => hj)) (fun j hjl e => by have h1 := (OwnR.lt ow8 e).1; omega)
      have hrs9 : ∀ a' pl wy, RzS X w5 a' pl wy → RzS X w9 a' pl wy := fun a' pl wy hr => by
       have h6 := (hgr a' pl wy hr).below b8
       exact ⟨h6.box.keep (hg9.block X.g h6.box.lt (fun e => by have h1 := (OwnR.lt ow8 e.symm).1; have h2 := hgl.out; omega)), bgrown h6.bel hg9 (fun j hj => by have h1 := (OwnR.lt ow8 hj).1; have h2 := XSZ.out; omega)⟩
      obtain ⟨q', hq', js9⟩ := NEXT.out w4 w5 oa2 on2 oc2 w9 a9 c9 hz k14 ⟨t.post ++ O2 ++ [(op, 0)], by rw [List.length_append, List.length_append, ← hO2.out]; rfl, by
       have e9 : pcells (t.post ++ O2 ++ [(op, 0)]) = pcells t.post ++ pcells O2 ++ [.int .i64 op, .int .i64 0] := by simp [pcells]
       rw [e9]
       exact ow9, fun u r e => by
       subst e
       obtain ⟨oa', oc', h1, h2, _, _⟩ := hz
       injection h1 with h1
       injection h1 with e1 e2 e3
       subst e1; subst e2; subst e3
       rw [pcells_inj O2 u.post (OwnR.same ow2 h2)]⟩ kw9 hrs9
      replace js9 := Lib.hid js9
      replace hq' := Lib.hid hq'
      clear ow9 hg9 kw9 hrs9 kw8 ow8 b8 r8 hgr kw6 hg6 ow6 kw5 own5 kr5 rz5 kz ow2 hz NEXT OW RS KP k14 k4 q4 rs4 b3 rs3 q3
      refine wpList_plain rfl (fun K hK => ?_)
      go_simp
      refine hK _ _ ?_
      clear hK K
      refine wpList_nil ?_
      go_wp2
      go_roundg q'
      case rel => exact ⟨_, _, _, rfl, js9⟩
      case measure => have := hq'.out; have := gq.out; omega
     ·have hB4 : ((lv : Int) == 4) = false := by rw [beq_eq_false_iff_ne]; omega
      have hB1 : ((lv : Int) == 1) = true := by rw [h1]; rfl
      rw [h5] at C4
      clear h4 h1 h5
      go_upto_region 10 with (fail)
      refine wp_region_list ?_
      refine wpList_plain rfl (fun K hK => ?_)
      go_simp
      refine hK _ _ ?_
      clear hK K
      refine wpList_plain rfl (fun K hK => ?_)
      go_simp
      refine hK _ _ ?_
      clear hK K
      refine wpList_plain rfl (fun K hK => ?_)
      go_simp
      refine hK _ _ ?_
      clear hK K
      refine wpList_plain rfl (fun K hK => ?_)
      go_simp
      refine C4.out.mono ?_
      rintro e w5 hz
      obtain ⟨oa2, on2, oc2, rfl⟩ := hz.val
      refine hK _ _ ?_
      clear hK K C4
      obtain ⟨O2, hO2, ow2, hn12, kz, az, plz, wyz, rz5⟩ := hz.row htlH.out HB.out
      replace hO2 := Lib.hid hO2
      have kr5 : Keeps wr w5 (fun j => j = X.g) := ((Keeps.of_below b3).trans k4 (fun j _ e => e)).trans kz (fun j _ e => e)
      have own5 : OwnR w5 w.heap.size TNd 2 oa t.post.length oc (pcells t.post) := OwnR.keeps OW.out kr5 (fun j hj e => by have h1 := (OwnR.lt OW.out hj).1; have h2 := hgl.out; omega)
      have kw5 : Keeps w w5 (fun j => j = X.g) := k14.trans kz (fun j _ e => e)
      refine wp_appG rfl (.tmp 46) (.tmp 49) 25 TNd (.agg #[.int .i64 0, .int .i64 0]) 2 16 rfl Tryz.underlying25 infoNd3 rfl (by decide) w.heap.size oa t.post.length oc (pcells t.post) rfl own5 oa2 on2 oc2 (pcells O2) rfl (by rw [pcells_len, ← hO2.out]) (SrcAt.ownN ow2 hO2.out) (pcells_one O2) (by unfold maxLen; omega) (by omega) kw5.size ?_
      intro a6 c6 w6 ow6 hg6
      have kw6 : Keeps w w6 (fun j => j = X.g) := kw5.trans (Keeps.of_grown (S := fun j => (Value.slice oa t.post.length oc).ownBlock = some j) hg6 (fun j hj => hj)) (fun j hjl e => by have h1 := (OwnR.lt OW.out e).1; omega)
      have hgr : ∀ a' pl wy, RzS X w5 a' pl wy → RzS X w6 a' pl wy := fun a' pl wy hr => ⟨hr.box.keep (hg6.block X.g hr.box.lt (fun e => by have h1 := (OwnR.lt OW.out e.symm).1; have h2 := hgl.out; omega)), bgrown hr.bel hg6 (fun j hj => by have h1 := (OwnR.lt OW.out hj).1; have h2 := XSZ.out; omega)⟩
      refine wpList_plain rfl (fun K hK => ?_)
      go_simp
      refine hK _ _ ?_
      clear hK K
      refine wpList_nil ?_
      go_upto_region 11 with (fail)
      refine wp_region_list ?_
      refine wpList_plain rfl (fun K hK => ?_)
      go_simp
      refine hK _ _ ?_
      clear hK K
      refine wpList_plain rfl (fun K hK => ?_)
      go_simp
      refine hK _ _ ?_
      clear hK K
      refine wpList_plain rfl (fun K hK => ?_)
      go_simp
      refine (OP.out w6).mono ?_
      rintro e w7 ⟨rfl, rfl⟩
      refine hK _ _ ?_
      clear hK K
      refine wpList_plain rfl (fun K hK => ?_)
      go_simp
      refine hK _ _ ?_
      clear hK K
      refine wpList_plain rfl (fun K hK => ?_)
      go_simp
      refine hK _ _ ?_
      clear hK K
      obtain ⟨w8, hw8⟩ : ∃ w8, w8 = w6.alloc (.cells #[.int .i64 op, .int .i64 0] TNd) := ⟨_, rfl⟩
      obtain ⟨g8, hg8⟩ : ∃ g8, g8 = w6.heap.size := ⟨_, rfl⟩
      have r8 : RowAt w8 g8 TNd [.int .i64 op, .int .i64 0] := by rw [hw8]; exact RowAt.new #[.int .i64 op, .int .i64 0] hg8
      have b8 : Below w6.heap.size w6 w8 := by rw [hw8]; exact balloc (Below.refl _ _) _
      rw [← hw8, ← hg8]
      have ow8 := OwnR.keeps (S := fun _ => False) ow6 (Keeps.of_below b8) (fun _ _ e => e)
      have kw8 : Keeps w w8 (fun j => j = X.g) := kw6.trans (Keeps.of_below b8) (fun j _ e => e)
      refine wp_appG rfl (.tmp 51) (.tmp 55) 25 TNd (.agg #[.int .i64 0, .int .i64 0]) 2 16 rfl Tryz.underlying25 infoNd3 rfl (by decide) w.heap.size a6 (t.post.length + on2) c6 (pcells t.post ++ pcells O2) rfl ow8 (some ⟨g8, 0, none⟩) 1 1 [.int .i64 op, .int .i64 0] rfl rfl (SrcAt.row r8) nd_one (by unfold maxLen; omega) (by omega) kw8.size ?_
      intro a9 c9 w9 ow9 hg9
      have kw9 : Keeps w w9 (fun j => j = X.g) := kw8.trans (Keeps.of_grown (S := fun j => (Value.slice a6 (t.post.length + on2) c6).ownBlock = some j) hg9 (fun j hj => hj)) (fun j hjl e => by have h1 := (OwnR.lt ow8 e).1; omega)
      have hrs9 : ∀ a' pl wy, RzS X w5 a' pl wy → RzS X w9 a' pl wy := fun a' pl wy hr => by
       have h6 := (hgr a' pl wy hr).below b8
       exact ⟨h6.box.keep (hg9.block X.g h6.box.lt (fun e => by have h1 := (OwnR.lt ow8 e.symm).1; have h2 := hgl.out; omega)), bgrown h6.bel hg9 (fun j hj => by have h1 := (OwnR.lt ow8 hj).1; have h2 := XSZ.out; omega)⟩
      obtain ⟨q', hq', js9⟩ := NEXT.out w4 w5 oa2 on2 oc2 w9 a9 c9 hz k14 ⟨t.post ++ O2 ++ [(op, 0)], by rw [List.length_append, List.length_append, ← hO2.out]; rfl, by
       have e9 : pcells (t.post ++ O2 ++ [(op, 0)]) = pcells t.post ++ pcells O2 ++ [.int .i64 op, .int .i64 0] := by simp [pcells]
       rw [e9]
       exact ow9, fun u r e => by
       subst e
       obtain ⟨oa', oc', h1, h2, _, _⟩ := hz
       injection h1 with h1
       injection h1 with e1 e2 e3
       subst e1; subst e2; subst e3
       rw [pcells_inj O2 u.post (OwnR.same ow2 h2)]⟩ kw9 hrs9
      replace js9 := Lib.hid js9
      replace hq' := Lib.hid hq'
      clear ow9 hg9 kw9 hrs9 kw8 ow8 b8 r8 hgr kw6 hg6 ow6 kw5 own5 kr5 rz5 kz ow2 hz NEXT OW RS KP k14 k4 q4 rs4 b3 rs3 q3
      refine wpList_plain rfl (fun K hK => ?_)
      go_simp
      refine hK _ _ ?_
      clear hK K
      refine wpList_nil ?_
      go_wp2
      go_roundg q'
      case rel => exact ⟨_, _, _, rfl, js9⟩
      case measure => have := hq'.out; have := gq.out; omega
     ·have hB4 : ((lv : Int) == 4) = false := by rw [beq_eq_false_iff_ne]; omega
      have hB1 : ((lv : Int) == 1) = false := by rw [beq_eq_false_iff_ne]; omega
      rw [h5, show ((lv + 1 : Nat) : Int) = (lv : Int) + 1 from by omega] at C4
      clear h4 h1 h5
      go_upto_region 10 with (fail)
      refine wp_region_list ?_
      refine wpList_plain rfl (fun K hK => ?_)
      go_simp
      refine hK _ _ ?_
      clear hK K
      refine wpList_plain rfl (fun K hK => ?_)
      go_simp
      refine hK _ _ ?_
      clear hK K
      refine wpList_plain rfl (fun K hK => ?_)
      go_simp
      refine hK _ _ ?_
      clear hK K
      refine wpList_plain rfl (fun K hK => ?_)
      go_simp
      refine C4.out.mono ?_
      rintro e w5 hz
      obtain ⟨oa2, on2, oc2, rfl⟩ := hz.val
      refine hK _ _ ?_
      clear hK K C4
      obtain ⟨O2, hO2, ow2, hn12, kz, az, plz, wyz, rz5⟩ := hz.row htlH.out HB.out
      replace hO2 := Lib.hid hO2
      have kr5 : Keeps wr w5 (fun j => j = X.g) := ((Keeps.of_below b3).trans k4 (fun j _ e => e)).trans kz (fun j _ e => e)
      have own5 : OwnR w5 w.heap.size TNd 2 oa t.post.length oc (pcells t.post) := OwnR.keeps OW.out kr5 (fun j hj e => by have h1 := (OwnR.lt OW.out hj).1; have h2 := hgl.out; omega)
      have kw5 : Keeps w w5 (fun j => j = X.g) := k14.trans kz (fun j _ e => e)
      refine wp_appG rfl (.tmp 46) (.tmp 49) 25 TNd (.agg #[.int .i64 0, .int .i64 0]) 2 16 rfl Tryz.underlying25 infoNd3 rfl (by decide) w.heap.size oa t.post.length oc (pcells t.post) rfl own5 oa2 on2 oc2 (pcells O2) rfl (by rw [pcells_len, ← hO2.out]) (SrcAt.ownN ow2 hO2.out) (pcells_one O2) (by unfold maxLen; omega) (by omega) kw5.size ?_
      intro a6 c6 w6 ow6 hg6
      have kw6 : Keeps w w6 (fun j => j = X.g) := kw5.trans (Keeps.of_grown (S := fun j => (Value.slice oa t.post.length oc).ownBlock = some j) hg6 (fun j hj => hj)) (fun j hjl e => by have h1 := (OwnR.lt OW.out e).1; omega)
      have hgr : ∀ a' pl wy, RzS X w5 a' pl wy → RzS X w6 a' pl wy := fun a' pl wy hr => ⟨hr.box.keep (hg6.block X.g hr.box.lt (fun e => by have h1 := (OwnR.lt OW.out e.symm).1; have h2 := hgl.out; omega)), bgrown hr.bel hg6 (fun j hj => by have h1 := (OwnR.lt OW.out hj).1; have h2 := XSZ.out; omega)⟩
      refine wpList_plain rfl (fun K hK => ?_)
      go_simp
      refine hK _ _ ?_
      clear hK K
      refine wpList_nil ?_
      go_upto_region 11 with (fail)
      refine wp_region_list ?_
      refine wpList_plain rfl (fun K hK => ?_)
      go_simp
      refine hK _ _ ?_
      clear hK K
      refine wpList_plain rfl (fun K hK => ?_)
      go_simp
      refine hK _ _ ?_
      clear hK K
      refine wpList_plain rfl (fun K hK => ?_)
      go_simp
      refine (OP.out w6).mono ?_
      rintro e w7 ⟨rfl, rfl⟩
      refine hK _ _ ?_
      clear hK K
      refine wpList_plain rfl (fun K hK => ?_)
      go_simp
      refine hK _ _ ?_
      clear hK K
      refine wpList_plain rfl (fun K hK => ?_)
      go_simp
      refine hK _ _ ?_
      clear hK K
      obtain ⟨w8, hw8⟩ : ∃ w8, w8 = w6.alloc (.cells #[.int .i64 op, .int .i64 0] TNd) := ⟨_, rfl⟩
      obtain ⟨g8, hg8⟩ : ∃ g8, g8 = w6.heap.size := ⟨_, rfl⟩
      have r8 : RowAt w8 g8 TNd [.int .i64 op, .int .i64 0] := by rw [hw8]; exact RowAt.new #[.int .i64 op, .int .i64 0] hg8
      have b8 : Below w6.heap.size w6 w8 := by rw [hw8]; exact balloc (Below.refl _ _) _
      rw [← hw8, ← hg8]
      have ow8 := OwnR.keeps (S := fun _ => False) ow6 (Keeps.of_below b8) (fun _ _ e => e)
      have kw8 : Keeps w w8 (fun j => j = X.g) := kw6.trans (Keeps.of_below b8) (fun j _ e => e)
      refine wp_appG rfl (.tmp 51) (.tmp 55) 25 TNd (.agg #[.int .i64 0, .int .i64 0]) 2 16 rfl Tryz.underlying25 infoNd3 rfl (by decide) w.heap.size a6 (t.post.length + on2) c6 (pcells t.post ++ pcells O2) rfl ow8 (some ⟨g8, 0, none⟩) 1 1 [.int .i64 op, .int .i64 0] rfl rfl (SrcAt.row r8) nd_one (by unfold maxLen; omega) (by omega) kw8.size ?_
      intro a9 c9 w9 ow9 hg9
      have kw9 : Keeps w w9 (fun j => j = X.g) := kw8.trans (Keeps.of_grown (S := fun j => (Value.slice a6 (t.post.length + on2) c6).ownBlock = some j) hg9 (fun j hj => hj)) (fun j hjl e => by have h1 := (OwnR.lt ow8 e).1; omega)
      have hrs9 : ∀ a' pl wy, RzS X w5 a' pl wy → RzS X w9 a' pl wy := fun a' pl wy hr => by
       have h6 := (hgr a' pl wy hr).below b8
       exact ⟨h6.box.keep (hg9.block X.g h6.box.lt (fun e => by have h1 := (OwnR.lt ow8 e.symm).1; have h2 := hgl.out; omega)), bgrown h6.bel hg9 (fun j hj => by have h1 := (OwnR.lt ow8 hj).1; have h2 := XSZ.out; omega)⟩
      obtain ⟨q', hq', js9⟩ := NEXT.out w4 w5 oa2 on2 oc2 w9 a9 c9 hz k14 ⟨t.post ++ O2 ++ [(op, 0)], by rw [List.length_append, List.length_append, ← hO2.out]; rfl, by
       have e9 : pcells (t.post ++ O2 ++ [(op, 0)]) = pcells t.post ++ pcells O2 ++ [.int .i64 op, .int .i64 0] := by simp [pcells]
       rw [e9]
       exact ow9, fun u r e => by
       subst e
       obtain ⟨oa', oc', h1, h2, _, _⟩ := hz
       injection h1 with h1
       injection h1 with e1 e2 e3
       subst e1; subst e2; subst e3
       rw [pcells_inj O2 u.post (OwnR.same ow2 h2)]⟩ kw9 hrs9
      replace js9 := Lib.hid js9
      replace hq' := Lib.hid hq'
      clear ow9 hg9 kw9 hrs9 kw8 ow8 b8 r8 hgr kw6 hg6 ow6 kw5 own5 kr5 rz5 kz ow2 hz NEXT OW RS KP k14 k4 q4 rs4 b3 rs3 q3
      refine wpList_plain rfl (fun K hK => ?_)
      go_simp
      refine hK _ _ ?_
      clear hK K
      refine wpList_nil ?_
      go_wp2
      go_roundg q'
      case rel => exact ⟨_, _, _, rfl, js9⟩
      case measure => have := hq'.out; have := gq.out; omega
    ·have hR := loop_stop (by omega) CB.out jg.prs (lv2 hlv)
     have hlB : ((levelP (nowP X.T a1) : Int) == (k : Int)) = false := by rw [beq_eq_false_iff_ne]; omega
     have hlN : (levelP (nowP X.T a1) == k) = false := by rw [beq_eq_false_iff_ne]; exact hlv
     have fin : Hid (∀ v, Quiet wr v → RzP X R w a (.returned (.slice oa t.post.length oc)) v) := fun v hq => by
      show RzP _ _ _ _ _ _
      rw [hR]
      have hb := hq.below wr.heap.size
      refine ⟨oa, oc, rfl, OwnR.keeps (S := fun _ => False) jg.own (Keeps.of_below hb) (fun _ _ e => e), ?_, jg.kp.trans (Keeps.of_below hb) (fun j _ e => e)⟩
      rw [List.length_drop, hCl.out, show X.T.length - (X.T.length - a1) = a1 by omega]
      exact rs.below hb
     generalize levelP (nowP X.T a1) = lv at LV hlB hlN
     have N1 := Lib.hid (NW.out wr (Below.refl _ _))
     clear js jg rs lv1 lv2 hlv hR NW hs hsd OP
     go_wp2_with fail
     refine N1.out.mono ?_
     rintro e w2 ⟨rfl, hq2⟩
     have hf := Lib.hid (fin.out w2 hq2)
     clear fin hq2 N1
     go_wp2_with fail
     refine (LV.out w2).mono ?_
     rintro e w3 ⟨rfl, rfl⟩
     go_wp2
     go_ret
     exact hf.out
   ·obtain ⟨a', pl, wy, rs, hwy⟩ := je.er
    have c5 : wr.cell? ⟨X.g, 5, none⟩ = some (.int .i64 wy) := rs.box.cell 5
    have hwB : (wy == 0) = false := by rw [beq_eq_false_iff_ne]; exact hwy
    have hf := Lib.hid je.rz
    clear js je rs hwy
    go_wp2
    go_ret
    exact hf.out
end Go.Proofs.YtkehfolcfcbplaaGreatDoor
namespace Go.Proofs.YtkehfolcfcbplaaGreatDoor
open Go.RowKit
set_option linter.unusedVariables false
set_option linter.unusedSimpArgs false
theorem own_one {w : World} {base g : Nat} {x y : Int} (h : RowAt w g TNd [.int .i64 x, .int .i64 y]) (hb : base ≤ g) : OwnR w base TNd 2 (some ⟨g, 0, none⟩) 1 1 (pcells [(x, y)]) := by
 unfold OwnR
 exact ⟨rfl, .inr ⟨g, 1, #[.int .i64 x, .int .i64 y], rfl, hb, h, Nat.le_refl _, by decide, rfl, rfl⟩⟩
theorem word_list {X : RdX} {a : Nat} (h : opOf (nowP X.T a) ≠ 0) : (takesP (opOf (nowP X.T a)) = 0 → nowP X.T a = [116, 114, 117, 101] ∨ nowP X.T a = [102, 97, 108, 115, 101]) ∧ (takesP (opOf (nowP X.T a)) = 1 → nowP X.T a = [33] ∨ nowP X.T a = [88] ∨ nowP X.T a = [70] ∨ nowP X.T a = [71]) := by
 obtain ⟨o1, o2, o3, o4⟩ := opOf_back h
 obtain ⟨k, hk⟩ : ∃ k : Nat, opOf (nowP X.T a) = k := ⟨(opOf (nowP X.T a)).toNat, by omega⟩
 have hw : ∀ k : Nat, k < 13 → 1 ≤ k → k ≠ 3 → (takesP (k : Int) = 0 → wordP (k : Int) = [116, 114, 117, 101] ∨ wordP (k : Int) = [102, 97, 108, 115, 101]) ∧ (takesP (k : Int) = 1 → wordP (k : Int) = [33] ∨ wordP (k : Int) = [88] ∨ wordP (k : Int) = [70] ∨ wordP (k : Int) = [71]) := by
  intro k hk h1 h3
  have hc : k = 1 ∨ k = 2 ∨ k = 4 ∨ k = 5 ∨ k = 6 ∨ k = 7 ∨ k = 8 ∨ k = 9 ∨ k = 10 ∨ k = 11 ∨ k = 12 := by omega
  rcases hc with rfl | rfl | rfl | rfl | rfl | rfl | rfl | rfl | rfl | rfl | rfl <;> exact ⟨by decide, by decide⟩
 have h1 := hw k (by omega) (by omega) (by omega)
 rw [← hk, o1] at h1
 exact h1
theorem rest_at {X : RdX} (hX : RzOk X) {a n : Nat} {R : Res} (LS : LfS (clsL X.N X.T) a n R) (hA : ¬ (nowP X.T a = [116, 114, 117, 101] ∨ nowP X.T a = [102, 97, 108, 115, 101])) (hB : ¬ (nowP X.T a = [33] ∨ nowP X.T a = [88] ∨ nowP X.T a = [70] ∨ nowP X.T a = [71])) (hC : ¬ nowP X.T a = [40]) (hP : ∀ i, (clsL X.N X.T)[a]? ≠ some (.prop i)) : R = .no ((clsL X.N X.T).drop a) := by
 refine LS.rest (fun op e => ?_) (fun op e => ?_) hP (fun e => hC ((now_lp hX).2 e))
 ·have h0 := clsz_op hX e (.inr (.inl ⟨op, rfl⟩))
  obtain ⟨_, hc⟩ := now_op hX h0
  rw [e] at hc
  injection hc with hc
  refine hB ((word_list h0).2 ?_)
  split at hc
  ·cases hc
  ·split at hc
   ·assumption
   ·cases hc
 ·have h0 := clsz_op hX e (.inl ⟨op, rfl⟩)
  obtain ⟨_, hc⟩ := now_op hX h0
  rw [e] at hc
  injection hc with hc
  refine hA ((word_list h0).1 ?_)
  split at hc
  ·assumption
  ·split at hc <;> cases hc
theorem prop_op {N : List (List UInt8)} {s : List UInt8} {i : Nat} (h : nameAt N s = some i) : opOf s = 0 ∧ i ≤ 8 := by
 unfold nameAt at h
 have h1 := List.find?_some h
 have h2 := List.mem_range.1 (List.mem_of_find?_eq_some h)
 rw [Bool.and_eq_true] at h1
 have h3 := eq_of_beq h1.1
 have h4 := h1.2
 unfold mayP at h4
 rw [Bool.and_eq_true, Bool.and_eq_true, Bool.not_eq_true', h3] at h4
 exact ⟨own_op.1 h4.1.2, by omega⟩
set_option maxRecDepth 12000 in
set_option maxHeartbeats 16000000 in
theorem rleaf_any (X : RdX) (hX : RzOk X) (n : Nat) (IL : RzLeaf X n) (IJ : RzJoint X n) : RzLeaf X (n + 1) := by
 intro R a w hp ha h
 have LS := leaf_step hp
 have hCl := cls_len X.N X.T
 have htl := hX.ok.tl
 have NW := rnow_any X hX.ok w a 0 0 h (by omega)
 have aI : (a : Int) ≤ 6000 := by omega
 have hXH := Lib.hid hX
 have hH := Lib.hid h
 have hgl : Hid (X.g < w.heap.size) := h.box.lt
 by_cases hA : nowP X.T a = [116, 114, 117, 101] ∨ nowP X.T a = [102, 97, 108, 115, 101]
 ·have hA2 : ∃ (o : Int) (s : ByteArray), opOf (nowP X.T a) = o ∧ takesP o = 0 ∧ s = ⟨(nowP X.T a).toArray⟩ ∧ (s = ⟨#[116, 114, 117, 101]⟩ ∧ o = 1 ∨ s = ⟨#[102, 97, 108, 115, 101]⟩ ∧ o = 2) := by
   rcases hA with e | e <;> rw [e]
   ·exact ⟨1, _, by decide, by decide, rfl, .inl ⟨rfl, rfl⟩⟩
   ·exact ⟨2, _, by decide, by decide, rfl, .inr ⟨rfl, rfl⟩⟩
  obtain ⟨o, s, ho, ht, hs, hcase⟩ := hA2
  obtain ⟨hl, hc⟩ := now_op hX (a := a) (by rw [ho]; rcases hcase with ⟨_, e⟩ | ⟨_, e⟩ <;> rw [e] <;> decide)
  rw [ho, if_pos ht] at hc
  have hR := LS.con o hc
  rw [← hs] at NW
  have OP : Hid (∀ v, Calls Tryz.prog 38 #[.string s] v fun e w' => e = .returned (.int .i64 o) ∧ v = w') := fun v => by
   have h1 := rop_any v s
   rw [hs] at h1 ⊢
   rw [← ho]
   exact h1
  have FIN : Hid (∀ v g, RzS X v (a + 1) 0 0 → Keeps w v (fun j => j = X.g) → RowAt v g TNd [.int .i64 o, .int .i64 0] → w.heap.size ≤ g → RzP X R w a (.returned (.slice (some ⟨g, 0, none⟩) 1 1)) v) := fun v g hr hk rg hg => by
   show RzP _ _ _ _ _ _
   rw [hR]
   refine ⟨_, _, rfl, own_one rg hg, ?_, hk⟩
   rw [List.length_drop, hCl, show X.T.length - (X.T.length - (a + 1)) = a + 1 by omega]
   exact hr
  replace NW := Lib.hid NW
  clear IL IJ hp LS hc hR ho hs hl hA hCl h hX ht ha htl
  rcases hcase with ⟨rfl, rfl⟩ | ⟨rfl, rfl⟩
  ·go_enter Tryz.func35, Tryz.ntmps35
   go_wp2_with fail
   refine NW.out.mono ?_
   rintro e w2 ⟨rfl, hq2⟩
   have b2 := hq2.below w.heap.size
   have rs2 := hH.out.below b2
   have q2 := rs2.box
   have p3 : w2.cell? ⟨X.g, 3, none⟩ = some (.int .i64 (a : Int)) := q2.cell 3
   have pf3 := q2.free 3
   clear hq2 NW
   go_upto_region 5 with (fail)
   refine wp_region_list ?_
   obtain ⟨w4, hw4⟩ : ∃ w4, w4 = w2.setCell ⟨X.g, 3, none⟩ (.int .i64 ((a : Int) + 1)) := ⟨_, rfl⟩
   have q4 := q2.set 3 (.int .i64 ((a : Int) + 1))
   have k4 : Keeps w2 (w2.setCell ⟨X.g, 3, none⟩ (.int .i64 ((a : Int) + 1))) (fun j => j = X.g) := Keeps.set _ _ _ _ rfl
   rw [← hw4] at q4 k4
   refine wpList_plain rfl (fun K hK => ?_)
   go_simp
   refine hK _ _ ?_
   clear hK K
   refine wpList_plain rfl (fun K hK => ?_)
   go_simp
   refine hK _ _ ?_
   clear hK K
   refine wpList_plain rfl (fun K hK => ?_)
   go_simp
   refine hK _ _ ?_
   clear hK K
   refine wpList_plain rfl (fun K hK => ?_)
   go_simp
   refine hK _ _ ?_
   clear hK K
   refine wpList_plain rfl (fun K hK => ?_)
   go_simp
   refine hK _ _ ?_
   clear hK K
   refine wpList_plain rfl (fun K hK => ?_)
   go_simp
   refine hK _ _ ?_
   clear hK K
   refine wpList_plain rfl (fun K hK => ?_)
   go_simp
   refine hK _ _ ?_
   clear hK K
   refine wpList_plain rfl (fun K hK => ?_)
   go_simp
   refine hK _ _ ?_
   clear hK K
   rw [IntWalk.i64_in ((a : Int) + 1) (by omega), ← hw4]
   replace hw4 := Lib.hid hw4
   refine wpList_nil ?_
   clear p3 pf3
   have rs4 : RzS X w4 (a + 1) 0 0 := rs2.put hXH.out.ok q4 k4
   have k04 : Keeps w w4 (fun j => j = X.g) := (Keeps.of_below b2).trans k4 (fun j _ e => e)
   go_upto_region 6 with (fail)
   refine wp_region_list ?_
   refine wpList_plain rfl (fun K hK => ?_)
   go_simp
   refine hK _ _ ?_
   clear hK K
   refine wpList_plain rfl (fun K hK => ?_)
   go_simp
   refine (OP.out w4).mono ?_
   rintro e w7 ⟨rfl, rfl⟩
   refine hK _ _ ?_
   clear hK K
   refine wpList_plain rfl (fun K hK => ?_)
   go_simp
   refine hK _ _ ?_
   clear hK K
   refine wpList_plain rfl (fun K hK => ?_)
   go_simp
   refine hK _ _ ?_
   clear hK K
   obtain ⟨w8, hw8⟩ : ∃ w8, w8 = w4.alloc (.cells #[.int .i64 1, .int .i64 0] TNd) := ⟨_, rfl⟩
   obtain ⟨g8, hg8⟩ : ∃ g8, g8 = w4.heap.size := ⟨_, rfl⟩
   have r8 : RowAt w8 g8 TNd [.int .i64 1, .int .i64 0] := by rw [hw8]; exact RowAt.new #[.int .i64 1, .int .i64 0] hg8
   have b8 : Below w4.heap.size w4 w8 := by rw [hw8]; exact balloc (Below.refl _ _) _
   rw [← hw8, ← hg8]
   have fin := Lib.hid (FIN.out w8 g8 (rs4.below b8) (k04.trans (Keeps.of_below b8) (fun j _ e => e)) r8 (by rw [hg8]; exact k04.size))
   replace hg8 := Lib.hid hg8
   replace hw8 := Lib.hid hw8
   clear b8 r8 FIN k04 rs4 k4 q4
   refine wpList_plain rfl (fun K hK => ?_)
   go_simp
   refine hK _ _ ?_
   clear hK K
   refine wpList_nil ?_
   go_wp2
   go_ret
   exact fin.out
  ·go_enter Tryz.func35, Tryz.ntmps35
   go_wp2_with fail
   refine NW.out.mono ?_
   rintro e w2 ⟨rfl, hq2⟩
   have b2 := hq2.below w.heap.size
   have rs2 := hH.out.below b2
   have q2 := rs2.box
   have p3 : w2.cell? ⟨X.g, 3, none⟩ = some (.int .i64 (a : Int)) := q2.cell 3
   have pf3 := q2.free 3
   clear hq2 NW
   go_upto_region 5 with (fail)
   refine wp_region_list ?_
   obtain ⟨w4, hw4⟩ : ∃ w4, w4 = w2.setCell ⟨X.g, 3, none⟩ (.int .i64 ((a : Int) + 1)) := ⟨_, rfl⟩
   have q4 := q2.set 3 (.int .i64 ((a : Int) + 1))
   have k4 : Keeps w2 (w2.setCell ⟨X.g, 3, none⟩ (.int .i64 ((a : Int) + 1))) (fun j => j = X.g) := Keeps.set _ _ _ _ rfl
   rw [← hw4] at q4 k4
   refine wpList_plain rfl (fun K hK => ?_)
   go_simp
   refine hK _ _ ?_
   clear hK K
   refine wpList_plain rfl (fun K hK => ?_)
   go_simp
   refine hK _ _ ?_
   clear hK K
   refine wpList_plain rfl (fun K hK => ?_)
   go_simp
   refine hK _ _ ?_
   clear hK K
   refine wpList_plain rfl (fun K hK => ?_)
   go_simp
   refine hK _ _ ?_
   clear hK K
   refine wpList_plain rfl (fun K hK => ?_)
   go_simp
   refine hK _ _ ?_
   clear hK K
   refine wpList_plain rfl (fun K hK => ?_)
   go_simp
   refine hK _ _ ?_
   clear hK K
   refine wpList_plain rfl (fun K hK => ?_)
   go_simp
   refine hK _ _ ?_
   clear hK K
   refine wpList_plain rfl (fun K hK => ?_)
   go_simp
   refine hK _ _ ?_
   clear hK K
   rw [IntWalk.i64_in ((a : Int) + 1) (by omega), ← hw4]
   replace hw4 := Lib.hid hw4
   refine wpList_nil ?_
   clear p3 pf3
   have rs4 : RzS X w4 (a + 1) 0 0 := rs2.put hXH.out.ok q4 k4
   have k04 : Keeps w w4 (fun j => j = X.g) := (Keeps.of_below b2).trans k4 (fun j _ e => e)
   go_upto_region 6 with (fail)
   refine wp_region_list ?_
   refine wpList_plain rfl (fun K hK => ?_)
   go_simp
   refine hK _ _ ?_
   clear hK K
   refine wpList_plain rfl (fun K hK => ?_)
   go_simp
   refine (OP.out w4).mono ?_
   rintro e w7 ⟨rfl, rfl⟩
   refine hK _ _ ?_
   clear hK K
   refine wpList_plain rfl (fun K hK => ?_)
   go_simp
   refine hK _ _ ?_
   clear hK K
   refine wpList_plain rfl (fun K hK => ?_)
   go_simp
   refine hK _ _ ?_
   clear hK K
   obtain ⟨w8, hw8⟩ : ∃ w8, w8 = w4.alloc (.cells #[.int .i64 2, .int .i64 0] TNd) := ⟨_, rfl⟩
   obtain ⟨g8, hg8⟩ : ∃ g8, g8 = w4.heap.size := ⟨_, rfl⟩
   have r8 : RowAt w8 g8 TNd [.int .i64 2, .int .i64 0] := by rw [hw8]; exact RowAt.new #[.int .i64 2, .int .i64 0] hg8
   have b8 : Below w4.heap.size w4 w8 := by rw [hw8]; exact balloc (Below.refl _ _) _
   rw [← hw8, ← hg8]
   have fin := Lib.hid (FIN.out w8 g8 (rs4.below b8) (k04.trans (Keeps.of_below b8) (fun j _ e => e)) r8 (by rw [hg8]; exact k04.size))
   replace hg8 := Lib.hid hg8
   replace hw8 := Lib.hid hw8
   clear b8 r8 FIN k04 rs4 k4 q4
   refine wpList_plain rfl (fun K hK => ?_)
   go_simp
   refine hK _ _ ?_
   clear hK K
   refine wpList_nil ?_
   go_wp2
   go_ret
   exact fin.out
 ·by_cases hB : nowP X.T a = [33] ∨ nowP X.T a = [88] ∨ nowP X.T a = [70] ∨ nowP X.T a = [71]
  ·have hB2 : ∃ (o : Int) (s : ByteArray), opOf (nowP X.T a) = o ∧ takesP o = 1 ∧ s = ⟨(nowP X.T a).toArray⟩ ∧ (s = ⟨#[33]⟩ ∧ o = 4 ∨ s = ⟨#[88]⟩ ∧ o = 8 ∨ s = ⟨#[70]⟩ ∧ o = 11 ∨ s = ⟨#[71]⟩ ∧ o = 12) := by
    rcases hB with e | e | e | e <;> rw [e]
    ·exact ⟨4, _, by decide, by decide, rfl, .inl ⟨rfl, rfl⟩⟩
    ·exact ⟨8, _, by decide, by decide, rfl, .inr (.inl ⟨rfl, rfl⟩)⟩
    ·exact ⟨11, _, by decide, by decide, rfl, .inr (.inr (.inl ⟨rfl, rfl⟩))⟩
    ·exact ⟨12, _, by decide, by decide, rfl, .inr (.inr (.inr ⟨rfl, rfl⟩))⟩
   obtain ⟨o, s, ho, ht, hs, hcase⟩ := hB2
   obtain ⟨hl, hc⟩ := now_op hX (a := a) (by rw [ho]; rcases hcase with ⟨_, e⟩ | ⟨_, e⟩ | ⟨_, e⟩ | ⟨_, e⟩ <;> rw [e] <;> decide)
   rw [ho, if_neg (by omega), if_pos ht] at hc
   obtain ⟨Q, hq, hQ1, hQ2⟩ := LS.un o hc
   rw [← hs] at NW
   have OP : Hid (∀ v, Calls Tryz.prog 38 #[.string s] v fun e w' => e = .returned (.int .i64 o) ∧ v = w') := fun v => by
    have h1 := rop_any v s
    rw [hs] at h1 ⊢
    rw [← ho]
    exact h1
   have HB : Hid (∀ u r, Q = .ok u r → u.post.length ≤ 6000) := fun u r e => by
    have hq0 := hq
    rw [e] at hq0
    have h1 : u.post.length + r.length ≤ _ := prs_size n .leaf _ u r hq0
    rw [List.length_drop, hCl] at h1
    omega
   have CL := Lib.hid (fun v hv => IL Q (a + 1) v hq (by omega) hv)
   have FIN : Hid (∀ v1 v2 v9 oa2 on2 oc2 oa9 oc9 (O : List Nd), RzP X Q v1 (a + 1) (.returned (.slice oa2 on2 oc2)) v2 → on2 = O.length → OwnR v2 v1.heap.size TNd 2 oa2 on2 oc2 (pcells O) → OwnR v9 w.heap.size TNd 2 oa9 (on2 + 1) oc9 (pcells (O ++ [(o, 0)])) → Keeps w v9 (fun j => j = X.g) → (∀ a' pl wy, RzS X v2 a' pl wy → RzS X v9 a' pl wy) → RzP X R w a (.returned (.slice oa9 (on2 + 1) oc9)) v9) := fun v1 v2 v9 oa2 on2 oc2 oa9 oc9 O hz hO ow2 ow9 hk hrs => by
    show RzP _ _ _ _ _ _
    cases Q with
    | no r =>
     obtain ⟨oa', oc', on', O', a', h1, h2, h3, h4, h5, h6⟩ := hz
     injection h1 with h1
     injection h1 with e1 e2 e3
     subst e1; subst e2; subst e3
     rw [hQ2 r rfl]
     exact ⟨oa9, oc9, on2 + 1, O ++ [(o, 0)], a', rfl, ⟨by rw [List.length_append, hO]; rfl, ow9⟩, by omega, by omega, hrs _ _ _ h5, hk⟩
    | ok t r =>
     obtain ⟨oa', oc', h1, h2, h3, h4⟩ := hz
     injection h1 with h1
     injection h1 with e1 e2 e3
     subst e1; subst e2; subst e3
     have eO := pcells_inj O t.post (OwnR.same ow2 h2)
     subst eO
     rw [hQ1 t r rfl]
     have hpo : (Fm.un (o, 0) t).post = t.post ++ [(o, 0)] := rfl
     refine ⟨oa9, oc9, ?_, ?_, hrs _ _ _ h3, hk⟩
     ·rw [hpo, List.length_append]
      rfl
     ·rw [hpo, List.length_append]
      exact ow9
   replace NW := Lib.hid NW
   have htlH := Lib.hid htl
   have XSZ : Hid (X.W.heap.size ≤ w.heap.size) := by show _ ≤ _; have h1 := hX.ok.gB; have h2 := hgl.out; omega
   clear IL IJ hp LS hc ho hs hl hA hB hCl h hX ht ha htl hq hQ1 hQ2
   rcases hcase with ⟨rfl, rfl⟩ | ⟨rfl, rfl⟩ | ⟨rfl, rfl⟩ | ⟨rfl, rfl⟩
   ·go_enter Tryz.func35, Tryz.ntmps35
    go_wp2_with fail
    refine NW.out.mono ?_
    rintro e w2 ⟨rfl, hq2⟩
    have b2 := hq2.below w.heap.size
    have rs2 := hH.out.below b2
    have q2 := rs2.box
    have p3 : w2.cell? ⟨X.g, 3, none⟩ = some (.int .i64 (a : Int)) := q2.cell 3
    have pf3 := q2.free 3
    clear hq2 NW
    go_upto_region 11 with (fail)
    refine wp_region_list ?_
    obtain ⟨w4, hw4⟩ : ∃ w4, w4 = w2.setCell ⟨X.g, 3, none⟩ (.int .i64 ((a : Int) + 1)) := ⟨_, rfl⟩
    have q4 := q2.set 3 (.int .i64 ((a : Int) + 1))
    have k4 : Keeps w2 (w2.setCell ⟨X.g, 3, none⟩ (.int .i64 ((a : Int) + 1))) (fun j => j = X.g) := Keeps.set _ _ _ _ rfl
    rw [← hw4] at q4 k4
    refine wpList_plain rfl (fun K hK => ?_)
    go_simp
    refine hK _ _ ?_
    clear hK K
    refine wpList_plain rfl (fun K hK => ?_)
    go_simp
    refine hK _ _ ?_
    clear hK K
    refine wpList_plain rfl (fun K hK => ?_)
    go_simp
    refine hK _ _ ?_
    clear hK K
    refine wpList_plain rfl (fun K hK => ?_)
    go_simp
    refine hK _ _ ?_
    clear hK K
    refine wpList_plain rfl (fun K hK => ?_)
    go_simp
    refine hK _ _ ?_
    clear hK K
    refine wpList_plain rfl (fun K hK => ?_)
    go_simp
    refine hK _ _ ?_
    clear hK K
    refine wpList_plain rfl (fun K hK => ?_)
    go_simp
    refine hK _ _ ?_
    clear hK K
    refine wpList_plain rfl (fun K hK => ?_)
    go_simp
    refine hK _ _ ?_
    clear hK K
    rw [IntWalk.i64_in ((a : Int) + 1) (by omega), ← hw4]
    replace hw4 := Lib.hid hw4
    refine wpList_nil ?_
    clear p3 pf3
    have rs4 : RzS X w4 (a + 1) 0 0 := rs2.put hXH.out.ok q4 k4
    have k04 : Keeps w w4 (fun j => j = X.g) := (Keeps.of_below b2).trans k4 (fun j _ e => e)
    have C4 := Lib.hid (CL.out w4 rs4)
    go_upto_region 12 with (fail)
    refine wp_region_list ?_
    refine wpList_plain rfl (fun K hK => ?_)
    go_simp
    refine hK _ _ ?_
    clear hK K
    refine wpList_plain rfl (fun K hK => ?_)
    go_simp
    refine C4.out.mono ?_
    rintro e w5 hz
    obtain ⟨oa2, on2, oc2, rfl⟩ := hz.val
    refine hK _ _ ?_
    clear hK K C4
    obtain ⟨O2, hO2, ow2, hn12, kz, az, plz, wyz, rz5⟩ := hz.row htlH.out HB.out
    replace hO2 := Lib.hid hO2
    refine wpList_plain rfl (fun K hK => ?_)
    go_simp
    refine hK _ _ ?_
    clear hK K
    refine wpList_plain rfl (fun K hK => ?_)
    go_simp
    refine (OP.out w5).mono ?_
    rintro e w7 ⟨rfl, rfl⟩
    refine hK _ _ ?_
    clear hK K
    refine wpList_plain rfl (fun K hK => ?_)
    go_simp
    refine hK _ _ ?_
    clear hK K
    refine wpList_plain rfl (fun K hK => ?_)
    go_simp
    refine hK _ _ ?_
    clear hK K
    obtain ⟨w8, hw8⟩ : ∃ w8, w8 = w5.alloc (.cells #[.int .i64 4, .int .i64 0] TNd) := ⟨_, rfl⟩
    obtain ⟨g8, hg8⟩ : ∃ g8, g8 = w5.heap.size := ⟨_, rfl⟩
    have r8 : RowAt w8 g8 TNd [.int .i64 4, .int .i64 0] := by rw [hw8]; exact RowAt.new #[.int .i64 4, .int .i64 0] hg8
    have b8 : Below w5.heap.size w5 w8 := by rw [hw8]; exact balloc (Below.refl _ _) _
    rw [← hw8, ← hg8]
    have ow8 : OwnR w8 w.heap.size TNd 2 oa2 on2 oc2 (pcells O2) := OwnR.lowB (OwnR.keeps (S := fun _ => False) ow2 (Keeps.of_below b8) (fun _ _ e => e)) k04.size
    have kw8 : Keeps w w8 (fun j => j = X.g) := (k04.trans kz (fun j _ e => e)).trans (Keeps.of_below b8) (fun j _ e => e)
    refine wp_appG rfl (.tmp 35) (.tmp 39) 25 TNd (.agg #[.int .i64 0, .int .i64 0]) 2 16 rfl Tryz.underlying25 infoNd3 rfl (by decide) w.heap.size oa2 on2 oc2 (pcells O2) rfl ow8 (some ⟨g8, 0, none⟩) 1 1 [.int .i64 4, .int .i64 0] rfl rfl (SrcAt.row r8) nd_one (by unfold maxLen; omega) (by omega) kw8.size ?_
    intro a9 c9 w9 ow9 hg9
    have kw9 : Keeps w w9 (fun j => j = X.g) := kw8.trans (Keeps.of_grown (S := fun j => (Value.slice oa2 on2 oc2).ownBlock = some j) hg9 (fun j hj => hj)) (fun j hjl e => by have h1 := (OwnR.lt ow8 e).1; omega)
    have hrs9 : ∀ a' pl wy, RzS X w5 a' pl wy → RzS X w9 a' pl wy := fun a' pl wy hr => by
     have h6 := hr.below b8
     exact ⟨h6.box.keep (hg9.block X.g h6.box.lt (fun e => by have h1 := (OwnR.lt ow8 e.symm).1; have h2 := hgl.out; omega)), bgrown h6.bel hg9 (fun j hj => by have h1 := (OwnR.lt ow8 hj).1; have h2 := XSZ.out; omega)⟩
    have fin := Lib.hid (FIN.out w4 w5 w9 oa2 on2 oc2 a9 c9 O2 hz hO2.out ow2 (by rw [pcells_snoc]; exact ow9) kw9 hrs9)
    clear ow9 hg9 kw9 hrs9 kw8 ow8 b8 r8 rz5 kz ow2 hz FIN k04 k4 q4 rs4
    refine wpList_plain rfl (fun K hK => ?_)
    go_simp
    refine hK _ _ ?_
    clear hK K
    refine wpList_nil ?_
    go_wp2
    go_ret
    exact fin.out
   ·go_enter Tryz.func35, Tryz.ntmps35
    go_wp2_with fail
    refine NW.out.mono ?_
    rintro e w2 ⟨rfl, hq2⟩
    have b2 := hq2.below w.heap.size
    have rs2 := hH.out.below b2
    have q2 := rs2.box
    have p3 : w2.cell? ⟨X.g, 3, none⟩ = some (.int .i64 (a : Int)) := q2.cell 3
    have pf3 := q2.free 3
    clear hq2 NW
    go_upto_region 11 with (fail)
    refine wp_region_list ?_
    obtain ⟨w4, hw4⟩ : ∃ w4, w4 = w2.setCell ⟨X.g, 3, none⟩ (.int .i64 ((a : Int) + 1)) := ⟨_, rfl⟩
    have q4 := q2.set 3 (.int .i64 ((a : Int) + 1))
    have k4 : Keeps w2 (w2.setCell ⟨X.g, 3, none⟩ (.int .i64 ((a : Int) + 1))) (fun j => j = X.g) := Keeps.set _ _ _ _ rfl
    rw [← hw4] at q4 k4
    refine wpList_plain rfl (fun K hK => ?_)
    go_simp
    refine hK _ _ ?_
    clear hK K
    refine wpList_plain rfl (fun K hK => ?_)
    go_simp
    refine hK _ _ ?_
    clear hK K
    refine wpList_plain rfl (fun K hK => ?_)
    go_simp
    refine hK _ _ ?_
    clear hK K
    refine wpList_plain rfl (fun K hK => ?_)
    go_simp
    refine hK _ _ ?_
    clear hK K
    refine wpList_plain rfl (fun K hK => ?_)
    go_simp
    refine hK _ _ ?_
    clear hK K
    refine wpList_plain rfl (fun K hK => ?_)
    go_simp
    refine hK _ _ ?_
    clear hK K
    refine wpList_plain rfl (fun K hK => ?_)
    go_simp
    refine hK _ _ ?_
    clear hK K
    refine wpList_plain rfl (fun K hK => ?_)
    go_simp
    refine hK _ _ ?_
    clear hK K
    rw [IntWalk.i64_in ((a : Int) + 1) (by omega), ← hw4]
    replace hw4 := Lib.hid hw4
    refine wpList_nil ?_
    clear p3 pf3
    have rs4 : RzS X w4 (a + 1) 0 0 := rs2.put hXH.out.ok q4 k4
    have k04 : Keeps w w4 (fun j => j = X.g) := (Keeps.of_below b2).trans k4 (fun j _ e => e)
    have C4 := Lib.hid (CL.out w4 rs4)
    go_upto_region 12 with (fail)
    refine wp_region_list ?_
    refine wpList_plain rfl (fun K hK => ?_)
    go_simp
    refine hK _ _ ?_
    clear hK K
    refine wpList_plain rfl (fun K hK => ?_)
    go_simp
    refine C4.out.mono ?_
    rintro e w5 hz
    obtain ⟨oa2, on2, oc2, rfl⟩ := hz.val
    refine hK _ _ ?_
    clear hK K C4
    obtain ⟨O2, hO2, ow2, hn12, kz, az, plz, wyz, rz5⟩ := hz.row htlH.out HB.out
    replace hO2 := Lib.hid hO2
    refine wpList_plain rfl (fun K hK => ?_)
    go_simp
    refine hK _ _ ?_
    clear hK K
    refine wpList_plain rfl (fun K hK => ?_)
    go_simp
    refine (OP.out w5).mono ?_
    rintro e w7 ⟨rfl, rfl⟩
    refine hK _ _ ?_
    clear hK K
    refine wpList_plain rfl (fun K hK => ?_)
    go_simp
    refine hK _ _ ?_
    clear hK K
    refine wpList_plain rfl (fun K hK => ?_)
    go_simp
    refine hK _ _ ?_
    clear hK K
    obtain ⟨w8, hw8⟩ : ∃ w8, w8 = w5.alloc (.cells #[.int .i64 8, .int .i64 0] TNd) := ⟨_, rfl⟩
    obtain ⟨g8, hg8⟩ : ∃ g8, g8 = w5.heap.size := ⟨_, rfl⟩
    have r8 : RowAt w8 g8 TNd [.int .i64 8, .int .i64 0] := by rw [hw8]; exact RowAt.new #[.int .i64 8, .int .i64 0] hg8
    have b8 : Below w5.heap.size w5 w8 := by rw [hw8]; exact balloc (Below.refl _ _) _
    rw [← hw8, ← hg8]
    have ow8 : OwnR w8 w.heap.size TNd 2 oa2 on2 oc2 (pcells O2) := OwnR.lowB (OwnR.keeps (S := fun _ => False) ow2 (Keeps.of_below b8) (fun _ _ e => e)) k04.size
    have kw8 : Keeps w w8 (fun j => j = X.g) := (k04.trans kz (fun j _ e => e)).trans (Keeps.of_below b8) (fun j _ e => e)
    refine wp_appG rfl (.tmp 35) (.tmp 39) 25 TNd (.agg #[.int .i64 0, .int .i64 0]) 2 16 rfl Tryz.underlying25 infoNd3 rfl (by decide) w.heap.size oa2 on2 oc2 (pcells O2) rfl ow8 (some ⟨g8, 0, none⟩) 1 1 [.int .i64 8, .int .i64 0] rfl rfl (SrcAt.row r8) nd_one (by unfold maxLen; omega) (by omega) kw8.size ?_
    intro a9 c9 w9 ow9 hg9
    have kw9 : Keeps w w9 (fun j => j = X.g) := kw8.trans (Keeps.of_grown (S := fun j => (Value.slice oa2 on2 oc2).ownBlock = some j) hg9 (fun j hj => hj)) (fun j hjl e => by have h1 := (OwnR.lt ow8 e).1; omega)
    have hrs9 : ∀ a' pl wy, RzS X w5 a' pl wy → RzS X w9 a' pl wy := fun a' pl wy hr => by
     have h6 := hr.below b8
     exact ⟨h6.box.keep (hg9.block X.g h6.box.lt (fun e => by have h1 := (OwnR.lt ow8 e.symm).1; have h2 := hgl.out; omega)), bgrown h6.bel hg9 (fun j hj => by have h1 := (OwnR.lt ow8 hj).1; have h2 := XSZ.out; omega)⟩
    have fin := Lib.hid (FIN.out w4 w5 w9 oa2 on2 oc2 a9 c9 O2 hz hO2.out ow2 (by rw [pcells_snoc]; exact ow9) kw9 hrs9)
    clear ow9 hg9 kw9 hrs9 kw8 ow8 b8 r8 rz5 kz ow2 hz FIN k04 k4 q4 rs4
    refine wpList_plain rfl (fun K hK => ?_)
    go_simp
    refine hK _ _ ?_
    clear hK K
    refine wpList_nil ?_
    go_wp2
    go_ret
    exact fin.out
   ·go_enter Tryz.func35, Tryz.ntmps35
    go_wp2_with fail
    refine NW.out.mono ?_
    rintro e w2 ⟨rfl, hq2⟩
    have b2 := hq2.below w.heap.size
    have rs2 := hH.out.below b2
    have q2 := rs2.box
    have p3 : w2.cell? ⟨X.g, 3, none⟩ = some (.int .i64 (a : Int)) := q2.cell 3
    have pf3 := q2.free 3
    clear hq2 NW
    go_upto_region 11 with (fail)
    refine wp_region_list ?_
    obtain ⟨w4, hw4⟩ : ∃ w4, w4 = w2.setCell ⟨X.g, 3, none⟩ (.int .i64 ((a : Int) + 1)) := ⟨_, rfl⟩
    have q4 := q2.set 3 (.int .i64 ((a : Int) + 1))
    have k4 : Keeps w2 (w2.setCell ⟨X.g, 3, none⟩ (.int .i64 ((a : Int) + 1))) (fun j => j = X.g) := Keeps.set _ _ _ _ rfl
    rw [← hw4] at q4 k4
    refine wpList_plain rfl (fun K hK => ?_)
    go_simp
    refine hK _ _ ?_
    clear hK K
    refine wpList_plain rfl (fun K hK => ?_)
    go_simp
    refine hK _ _ ?_
    clear hK K
    refine wpList_plain rfl (fun K hK => ?_)
    go_simp
    refine hK _ _ ?_
    clear hK K
    refine wpList_plain rfl (fun K hK => ?_)
    go_simp
    refine hK _ _ ?_
    clear hK K
    refine wpList_plain rfl (fun K hK => ?_)
    go_simp
    refine hK _ _ ?_
    clear hK K
    refine wpList_plain rfl (fun K hK => ?_)
    go_simp
    refine hK _ _ ?_
    clear hK K
    refine wpList_plain rfl (fun K hK => ?_)
    go_simp
    refine hK _ _ ?_
    clear hK K
    refine wpList_plain rfl (fun K hK => ?_)
    go_simp
    refine hK _ _ ?_
    clear hK K
    rw [IntWalk.i64_in ((a : Int) + 1) (by omega), ← hw4]
    replace hw4 := Lib.hid hw4
    refine wpList_nil ?_
    clear p3 pf3
    have rs4 : RzS X w4 (a + 1) 0 0 := rs2.put hXH.out.ok q4 k4
    have k04 : Keeps w w4 (fun j => j = X.g) := (Keeps.of_below b2).trans k4 (fun j _ e => e)
    have C4 := Lib.hid (CL.out w4 rs4)
    go_upto_region 12 with (fail)
    refine wp_region_list ?_
    refine wpList_plain rfl (fun K hK => ?_)
    go_simp
    refine hK _ _ ?_
    clear hK K
    refine wpList_plain rfl (fun K hK => ?_)
    go_simp
    refine C4.out.mono ?_
    rintro e w5 hz
    obtain ⟨oa2, on2, oc2, rfl⟩ := hz.val
    refine hK _ _ ?_
    clear hK K C4
    obtain ⟨O2, hO2, ow2, hn12, kz, az, plz, wyz, rz5⟩ := hz.row htlH.out HB.out
    replace hO2 := Lib.hid hO2
    refine wpList_plain rfl (fun K hK => ?_)
    go_simp
    refine hK _ _ ?_
    clear hK K
    refine wpList_plain rfl (fun K hK => ?_)
    go_simp
    refine (OP.out w5).mono ?_
    rintro e w7 ⟨rfl, rfl⟩
    refine hK _ _ ?_
    clear hK K
    refine wpList_plain rfl (fun K hK => ?_)
    go_simp
    refine hK _ _ ?_
    clear hK K
    refine wpList_plain rfl (fun K hK => ?_)
    go_simp
    refine hK _ _ ?_
    clear hK K
    obtain ⟨w8, hw8⟩ : ∃ w8, w8 = w5.alloc (.cells #[.int .i64 11, .int .i64 0] TNd) := ⟨_, rfl⟩
    obtain ⟨g8, hg8⟩ : ∃ g8, g8 = w5.heap.size := ⟨_, rfl⟩
    have r8 : RowAt w8 g8 TNd [.int .i64 11, .int .i64 0] := by rw [hw8]; exact RowAt.new #[.int .i64 11, .int .i64 0] hg8
    have b8 : Below w5.heap.size w5 w8 := by rw [hw8]; exact balloc (Below.refl _ _) _
    rw [← hw8, ← hg8]
    have ow8 : OwnR w8 w.heap.size TNd 2 oa2 on2 oc2 (pcells O2) := OwnR.lowB (OwnR.keeps (S := fun _ => False) ow2 (Keeps.of_below b8) (fun _ _ e => e)) k04.size
    have kw8 : Keeps w w8 (fun j => j = X.g) := (k04.trans kz (fun j _ e => e)).trans (Keeps.of_below b8) (fun j _ e => e)
    refine wp_appG rfl (.tmp 35) (.tmp 39) 25 TNd (.agg #[.int .i64 0, .int .i64 0]) 2 16 rfl Tryz.underlying25 infoNd3 rfl (by decide) w.heap.size oa2 on2 oc2 (pcells O2) rfl ow8 (some ⟨g8, 0, none⟩) 1 1 [.int .i64 11, .int .i64 0] rfl rfl (SrcAt.row r8) nd_one (by unfold maxLen; omega) (by omega) kw8.size ?_
    intro a9 c9 w9 ow9 hg9
    have kw9 : Keeps w w9 (fun j => j = X.g) := kw8.trans (Keeps.of_grown (S := fun j => (Value.slice oa2 on2 oc2).ownBlock = some j) hg9 (fun j hj => hj)) (fun j hjl e => by have h1 := (OwnR.lt ow8 e).1; omega)
    have hrs9 : ∀ a' pl wy, RzS X w5 a' pl wy → RzS X w9 a' pl wy := fun a' pl wy hr => by
     have h6 := hr.below b8
     exact ⟨h6.box.keep (hg9.block X.g h6.box.lt (fun e => by have h1 := (OwnR.lt ow8 e.symm).1; have h2 := hgl.out; omega)), bgrown h6.bel hg9 (fun j hj => by have h1 := (OwnR.lt ow8 hj).1; have h2 := XSZ.out; omega)⟩
    have fin := Lib.hid (FIN.out w4 w5 w9 oa2 on2 oc2 a9 c9 O2 hz hO2.out ow2 (by rw [pcells_snoc]; exact ow9) kw9 hrs9)
    clear ow9 hg9 kw9 hrs9 kw8 ow8 b8 r8 rz5 kz ow2 hz FIN k04 k4 q4 rs4
    refine wpList_plain rfl (fun K hK => ?_)
    go_simp
    refine hK _ _ ?_
    clear hK K
    refine wpList_nil ?_
    go_wp2
    go_ret
    exact fin.out
   ·go_enter Tryz.func35, Tryz.ntmps35
    go_wp2_with fail
    refine NW.out.mono ?_
    rintro e w2 ⟨rfl, hq2⟩
    have b2 := hq2.below w.heap.size
    have rs2 := hH.out.below b2
    have q2 := rs2.box
    have p3 : w2.cell? ⟨X.g, 3, none⟩ = some (.int .i64 (a : Int)) := q2.cell 3
    have pf3 := q2.free 3
    clear hq2 NW
    go_upto_region 11 with (fail)
    refine wp_region_list ?_
    obtain ⟨w4, hw4⟩ : ∃ w4, w4 = w2.setCell ⟨X.g, 3, none⟩ (.int .i64 ((a : Int) + 1)) := ⟨_, rfl⟩
    have q4 := q2.set 3 (.int .i64 ((a : Int) + 1))
    have k4 : Keeps w2 (w2.setCell ⟨X.g, 3, none⟩ (.int .i64 ((a : Int) + 1))) (fun j => j = X.g) := Keeps.set _ _ _ _ rfl
    rw [← hw4] at q4 k4
    refine wpList_plain rfl (fun K hK => ?_)
    go_simp
    refine hK _ _ ?_
    clear hK K
    refine wpList_plain rfl (fun K hK => ?_)
    go_simp
    refine hK _ _ ?_
    clear hK K
    refine wpList_plain rfl (fun K hK => ?_)
    go_simp
    refine hK _ _ ?_
    clear hK K
    refine wpList_plain rfl (fun K hK => ?_)
    go_simp
    refine hK _ _ ?_
    clear hK K
    refine wpList_plain rfl (fun K hK => ?_)
    go_simp
    refine hK _ _ ?_
    clear hK K
    refine wpList_plain rfl (fun K hK => ?_)
    go_simp
    refine hK _ _ ?_
    clear hK K
    refine wpList_plain rfl (fun K hK => ?_)
    go_simp
    refine hK _ _ ?_
    clear hK K
    refine wpList_plain rfl (fun K hK => ?_)
    go_simp
    refine hK _ _ ?_
    clear hK K
    rw [IntWalk.i64_in ((a : Int) + 1) (by omega), ← hw4]
    replace hw4 := Lib.hid hw4
    refine wpList_nil ?_
    clear p3 pf3
    have rs4 : RzS X w4 (a + 1) 0 0 := rs2.put hXH.out.ok q4 k4
    have k04 : Keeps w w4 (fun j => j = X.g) := (Keeps.of_below b2).trans k4 (fun j _ e => e)
    have C4 := Lib.hid (CL.out w4 rs4)
    go_upto_region 12 with (fail)
    refine wp_region_list ?_
    refine wpList_plain rfl (fun K hK => ?_)
    go_simp
    refine hK _ _ ?_
    clear hK K
    refine wpList_plain rfl (fun K hK => ?_)
    go_simp
    refine C4.out.mono ?_
    rintro e w5 hz
    obtain ⟨oa2, on2, oc2, rfl⟩ := hz.val
    refine hK _ _ ?_
    clear hK K C4
    obtain ⟨O2, hO2, ow2, hn12, kz, az, plz, wyz, rz5⟩ := hz.row htlH.out HB.out
    replace hO2 := Lib.hid hO2
    refine wpList_plain rfl (fun K hK => ?_)
    go_simp
    refine hK _ _ ?_
    clear hK K
    refine wpList_plain rfl (fun K hK => ?_)
    go_simp
    refine (OP.out w5).mono ?_
    rintro e w7 ⟨rfl, rfl⟩
    refine hK _ _ ?_
    clear hK K
    refine wpList_plain rfl (fun K hK => ?_)
    go_simp
    refine hK _ _ ?_
    clear hK K
    refine wpList_plain rfl (fun K hK => ?_)
    go_simp
    refine hK _ _ ?_
    clear hK K
    obtain ⟨w8, hw8⟩ : ∃ w8, w8 = w5.alloc (.cells #[.int .i64 12, .int .i64 0] TNd) := ⟨_, rfl⟩
    obtain ⟨g8, hg8⟩ : ∃ g8, g8 = w5.heap.size := ⟨_, rfl⟩
    have r8 : RowAt w8 g8 TNd [.int .i64 12, .int .i64 0] := by rw [hw8]; exact RowAt.new #[.int .i64 12, .int .i64 0] hg8
    have b8 : Below w5.heap.size w5 w8 := by rw [hw8]; exact balloc (Below.refl _ _) _
    rw [← hw8, ← hg8]
    have ow8 : OwnR w8 w.heap.size TNd 2 oa2 on2 oc2 (pcells O2) := OwnR.lowB (OwnR.keeps (S := fun _ => False) ow2 (Keeps.of_below b8) (fun _ _ e => e)) k04.size
    have kw8 : Keeps w w8 (fun j => j = X.g) := (k04.trans kz (fun j _ e => e)).trans (Keeps.of_below b8) (fun j _ e => e)
    refine wp_appG rfl (.tmp 35) (.tmp 39) 25 TNd (.agg #[.int .i64 0, .int .i64 0]) 2 16 rfl Tryz.underlying25 infoNd3 rfl (by decide) w.heap.size oa2 on2 oc2 (pcells O2) rfl ow8 (some ⟨g8, 0, none⟩) 1 1 [.int .i64 12, .int .i64 0] rfl rfl (SrcAt.row r8) nd_one (by unfold maxLen; omega) (by omega) kw8.size ?_
    intro a9 c9 w9 ow9 hg9
    have kw9 : Keeps w w9 (fun j => j = X.g) := kw8.trans (Keeps.of_grown (S := fun j => (Value.slice oa2 on2 oc2).ownBlock = some j) hg9 (fun j hj => hj)) (fun j hjl e => by have h1 := (OwnR.lt ow8 e).1; omega)
    have hrs9 : ∀ a' pl wy, RzS X w5 a' pl wy → RzS X w9 a' pl wy := fun a' pl wy hr => by
     have h6 := hr.below b8
     exact ⟨h6.box.keep (hg9.block X.g h6.box.lt (fun e => by have h1 := (OwnR.lt ow8 e.symm).1; have h2 := hgl.out; omega)), bgrown h6.bel hg9 (fun j hj => by have h1 := (OwnR.lt ow8 hj).1; have h2 := XSZ.out; omega)⟩
    have fin := Lib.hid (FIN.out w4 w5 w9 oa2 on2 oc2 a9 c9 O2 hz hO2.out ow2 (by rw [pcells_snoc]; exact ow9) kw9 hrs9)
    clear ow9 hg9 kw9 hrs9 kw8 ow8 b8 r8 rz5 kz ow2 hz FIN k04 k4 q4 rs4
    refine wpList_plain rfl (fun K hK => ?_)
    go_simp
    refine hK _ _ ?_
    clear hK K
    refine wpList_nil ?_
    go_wp2
    go_ret
    exact fin.out
  ·by_cases hC : nowP X.T a = [40]
   ·have hc := (now_lp hX).1 hC
    obtain ⟨Q, hq, hQ1, hQ2, hQ3⟩ := LS.lp hc
    rw [hC] at NW
    have hal : a < X.T.length := now_lt (by rw [hC]; decide)
    have hlo := left_suf (prs_left (n := n) (m := .joint 1) (rem := (clsL X.N X.T).drop (a + 1)) (R := Q) ⟨by decide, by decide⟩ hq)
    have hsz : ∀ u r, Q = .ok u r → u.post.length + r.length ≤ X.T.length - (a + 1) := fun u r e => by
     have hq0 := hq
     rw [e] at hq0
     have h1 : u.post.length + r.length ≤ _ := prs_size n (.joint 1) _ u r hq0
     rw [List.length_drop, hCl] at h1
     exact h1
    have CJ := Lib.hid (fun v hv => IJ 1 Q (a + 1) v (by decide) (by decide) hq (by omega) hv)
    have htlH := Lib.hid htl
    replace NW := Lib.hid NW
    replace hCl := Lib.hid hCl
    cases Q with
    | no r =>
     have hR := hQ3 r rfl
     have FIN : Hid (∀ v1 v2 oa2 on2 oc2, RzP X (.no r) v1 (a + 1) (.returned (.slice oa2 on2 oc2)) v2 → Keeps w v1 (fun j => j = X.g) → ∃ a' pl wy, wy ≠ 0 ∧ a' ≤ 12000 ∧ RzS X v2 a' pl wy ∧ ∀ v9, RzS X v9 (a' + 1) pl wy → Keeps v2 v9 (fun j => j = X.g) → RzP X R w a (.returned (.slice oa2 on2 oc2)) v9) := fun v1 v2 oa2 on2 oc2 hz hk => by
      obtain ⟨oa', oc', on', O, a', h1, h2, h3, h4, h5, h6⟩ := hz
      injection h1 with h1
      injection h1 with e1 e2 e3
      subst e1; subst e2; subst e3
      refine ⟨a', _, _, stop_ne X _, by omega, h5, fun v9 h9 k9 => ?_⟩
      rw [hR]
      have k29 := (hk.trans h6 (fun j _ e => e)).trans k9 (fun j _ e => e)
      refine ⟨oa2, oc2, on2, O, a' + 1, rfl, ⟨h2.1, OwnR.lowB (OwnR.keeps h2.2 k9 (fun j hj e => by have h7 := (OwnR.lt h2.2 hj).1; have h8 := hgl.out; have h9 := hk.size; omega)) hk.size⟩, by omega, by omega, h9, k29⟩
     clear IL IJ hp LS hc hC hA hB h hX ha htl hq hQ1 hQ2 hQ3 hlo hsz hR
     go_enter Tryz.func35, Tryz.ntmps35
     go_wp2_with fail
     refine NW.out.mono ?_
     rintro e w2 ⟨rfl, hq2⟩
     have b2 := hq2.below w.heap.size
     have rs2 := hH.out.below b2
     have q2 := rs2.box
     have p3 : w2.cell? ⟨X.g, 3, none⟩ = some (.int .i64 (a : Int)) := q2.cell 3
     have pf3 := q2.free 3
     clear hq2 NW
     go_upto_region 14 with (fail)
     refine wp_region_list ?_
     obtain ⟨w4, hw4⟩ : ∃ w4, w4 = w2.setCell ⟨X.g, 3, none⟩ (.int .i64 ((a : Int) + 1)) := ⟨_, rfl⟩
     have q4 := q2.set 3 (.int .i64 ((a : Int) + 1))
     have k4 : Keeps w2 (w2.setCell ⟨X.g, 3, none⟩ (.int .i64 ((a : Int) + 1))) (fun j => j = X.g) := Keeps.set _ _ _ _ rfl
     rw [← hw4] at q4 k4
     refine wpList_plain rfl (fun K hK => ?_)
     go_simp
     refine hK _ _ ?_
     clear hK K
     refine wpList_plain rfl (fun K hK => ?_)
     go_simp
     refine hK _ _ ?_
     clear hK K
     refine wpList_plain rfl (fun K hK => ?_)
     go_simp
     refine hK _ _ ?_
     clear hK K
     refine wpList_plain rfl (fun K hK => ?_)
     go_simp
     refine hK _ _ ?_
     clear hK K
     refine wpList_plain rfl (fun K hK => ?_)
     go_simp
     refine hK _ _ ?_
     clear hK K
     refine wpList_plain rfl (fun K hK => ?_)
     go_simp
     refine hK _ _ ?_
     clear hK K
     refine wpList_plain rfl (fun K hK => ?_)
     go_simp
     refine hK _ _ ?_
     clear hK K
     refine wpList_plain rfl (fun K hK => ?_)
     go_simp
     refine hK _ _ ?_
     clear hK K
     rw [IntWalk.i64_in ((a : Int) + 1) (by omega), ← hw4]
     replace hw4 := Lib.hid hw4
     refine wpList_nil ?_
     clear p3 pf3
     have rs4 : RzS X w4 (a + 1) 0 0 := rs2.put hXH.out.ok q4 k4
     have k04 : Keeps w w4 (fun j => j = X.g) := (Keeps.of_below b2).trans k4 (fun j _ e => e)
     have C4 := Lib.hid (CJ.out w4 rs4)
     rw [show ((1 : Nat) : Int) = 1 from rfl] at C4
     go_wp2_with fail
     refine C4.out.mono ?_
     rintro e w5 hz
     obtain ⟨oa2, on2, oc2, rfl⟩ := hz.val
     clear C4 CJ k4 q4
     obtain ⟨a6, pl, wy, hwy, ha6, rs5, fin⟩ := FIN.out w4 w5 oa2 on2 oc2 hz k04
     have q5 := rs5.box
     have c5 : w5.cell? ⟨X.g, 5, none⟩ = some (.int .i64 wy) := q5.cell 5
     have p3 : w5.cell? ⟨X.g, 3, none⟩ = some (.int .i64 (a6 : Int)) := q5.cell 3
     have pf3 := q5.free 3
     have hwB : (wy == 0) = false := by rw [beq_eq_false_iff_ne]; exact hwy
     have a6I : (a6 : Int) ≤ 12000 := by omega
     replace fin := Lib.hid fin
     clear FIN hz hwy
     go_upto_region 18 with (fail)
     refine wp_region_list ?_
     obtain ⟨w6, hw6⟩ : ∃ w6, w6 = w5.setCell ⟨X.g, 3, none⟩ (.int .i64 ((a6 : Int) + 1)) := ⟨_, rfl⟩
     have q6 := q5.set 3 (.int .i64 ((a6 : Int) + 1))
     have k6 : Keeps w5 (w5.setCell ⟨X.g, 3, none⟩ (.int .i64 ((a6 : Int) + 1))) (fun j => j = X.g) := Keeps.set _ _ _ _ rfl
     rw [← hw6] at q6 k6
     refine wpList_plain rfl (fun K hK => ?_)
     go_simp
     refine hK _ _ ?_
     clear hK K
     refine wpList_plain rfl (fun K hK => ?_)
     go_simp
     refine hK _ _ ?_
     clear hK K
     refine wpList_plain rfl (fun K hK => ?_)
     go_simp
     refine hK _ _ ?_
     clear hK K
     refine wpList_plain rfl (fun K hK => ?_)
     go_simp
     refine hK _ _ ?_
     clear hK K
     refine wpList_plain rfl (fun K hK => ?_)
     go_simp
     refine hK _ _ ?_
     clear hK K
     refine wpList_plain rfl (fun K hK => ?_)
     go_simp
     refine hK _ _ ?_
     clear hK K
     refine wpList_plain rfl (fun K hK => ?_)
     go_simp
     refine hK _ _ ?_
     clear hK K
     refine wpList_plain rfl (fun K hK => ?_)
     go_simp
     refine hK _ _ ?_
     clear hK K
     rw [IntWalk.i64_in ((a6 : Int) + 1) (by omega), ← hw6]
     replace hw6 := Lib.hid hw6
     refine wpList_nil ?_
     have hf := Lib.hid (fin.out w6 (rs5.put hXH.out.ok q6 k6) k6)
     clear p3 pf3 c5 q6 k6 fin rs5 q5
     go_wp2
     go_ret
     exact hf.out
    | ok t r =>
     obtain ⟨d1, d2⟩ := suf_drop (hlo.1 t r rfl) rfl
     rw [hCl.out] at d1 d2
     have h6 := hsz t r rfl
     obtain ⟨a2, ha2⟩ : ∃ a2, a2 = X.T.length - r.length := ⟨_, rfl⟩
     rw [← ha2] at d1
     have ha2T : a2 ≤ X.T.length := by omega
     have SPL : Hid (∀ v1 v2 oa2 on2 oc2, RzP X (.ok t r) v1 (a + 1) (.returned (.slice oa2 on2 oc2)) v2 → Keeps w v1 (fun j => j = X.g) → RzS X v2 a2 0 0 ∧ (∀ v9 r', R = .ok t r' → RzS X v9 (X.T.length - r'.length) 0 0 → Keeps v2 v9 (fun j => j = X.g) → RzP X R w a (.returned (.slice oa2 on2 oc2)) v9) ∧ Keeps w v2 (fun j => j = X.g)) := fun v1 v2 oa2 on2 oc2 hz hk => by
      obtain ⟨oa', oc', h1, h2, h3, h4⟩ := hz
      injection h1 with h1
      injection h1 with e1 e2 e3
      subst e1; subst e2; subst e3
      rw [← ha2] at h3
      refine ⟨h3, fun v9 r' hR h9 k9 => ?_, hk.trans h4 (fun j _ e => e)⟩
      rw [hR]
      refine ⟨oa2, oc2, rfl, OwnR.lowB (OwnR.keeps h2 k9 (fun j hj e => by have h7 := (OwnR.lt h2 hj).1; have h8 := hgl.out; have h9 := hk.size; omega)) hk.size, h9, (hk.trans h4 (fun j _ e => e)).trans k9 (fun j _ e => e)⟩
     have a2I : (a2 : Int) ≤ 6000 := by omega
     have haa : a ≤ a2 := by omega
     by_cases h41 : nowP X.T a2 = [41]
     ·have hc2 := (now_rp hX).1 h41
      have hl2 : a2 < (clsL X.N X.T).length := (List.getElem?_eq_some_iff.1 hc2).1
      have hr : r = .rp :: (clsL X.N X.T).drop (a2 + 1) := by
       rw [d1, List.drop_eq_getElem_cons hl2, (List.getElem?_eq_some_iff.1 hc2).2]
      have hR := hQ1 t _ (by rw [← hr])
      have hl3 : X.T.length - ((clsL X.N X.T).drop (a2 + 1)).length = a2 + 1 := by rw [List.length_drop, hCl.out]; have := hCl.out; omega
      have NW2 : Hid (∀ v, RzS X v a2 0 0 → Calls Tryz.prog 37 #[.pointer (some ⟨X.g, 0, none⟩)] v fun e w' => e = .returned (.string ⟨#[41]⟩) ∧ Quiet v w') := fun v hv => by
       have h1 := rnow_any X hXH.out.ok v a2 0 0 hv (by omega)
       rw [h41] at h1
       exact h1
      clear IL IJ hp LS hc hC hA hB h hX htl hq hQ1 hQ2 hQ3 hlo hsz hr hc2 hl2 h41 d1 ha2 h6 haa
      go_enter Tryz.func35, Tryz.ntmps35
      go_wp2_with fail
      refine NW.out.mono ?_
      rintro e w2 ⟨rfl, hq2⟩
      have b2 := hq2.below w.heap.size
      have rs2 := hH.out.below b2
      have q2 := rs2.box
      have p3 : w2.cell? ⟨X.g, 3, none⟩ = some (.int .i64 (a : Int)) := q2.cell 3
      have pf3 := q2.free 3
      clear hq2 NW
      go_upto_region 14 with (fail)
      refine wp_region_list ?_
      obtain ⟨w4, hw4⟩ : ∃ w4, w4 = w2.setCell ⟨X.g, 3, none⟩ (.int .i64 ((a : Int) + 1)) := ⟨_, rfl⟩
      have q4 := q2.set 3 (.int .i64 ((a : Int) + 1))
      have k4 : Keeps w2 (w2.setCell ⟨X.g, 3, none⟩ (.int .i64 ((a : Int) + 1))) (fun j => j = X.g) := Keeps.set _ _ _ _ rfl
      rw [← hw4] at q4 k4
      refine wpList_plain rfl (fun K hK => ?_)
      go_simp
      refine hK _ _ ?_
      clear hK K
      refine wpList_plain rfl (fun K hK => ?_)
      go_simp
      refine hK _ _ ?_
      clear hK K
      refine wpList_plain rfl (fun K hK => ?_)
      go_simp
      refine hK _ _ ?_
      clear hK K
      refine wpList_plain rfl (fun K hK => ?_)
      go_simp
      refine hK _ _ ?_
      clear hK K
      refine wpList_plain rfl (fun K hK => ?_)
      go_simp
      refine hK _ _ ?_
      clear hK K
      refine wpList_plain rfl (fun K hK => ?_)
      go_simp
      refine hK _ _ ?_
      clear hK K
      refine wpList_plain rfl (fun K hK => ?_)
      go_simp
      refine hK _ _ ?_
      clear hK K
      refine wpList_plain rfl (fun K hK => ?_)
      go_simp
      refine hK _ _ ?_
      clear hK K
      rw [IntWalk.i64_in ((a : Int) + 1) (by omega), ← hw4]
      replace hw4 := Lib.hid hw4
      refine wpList_nil ?_
      clear p3 pf3
      have rs4 : RzS X w4 (a + 1) 0 0 := rs2.put hXH.out.ok q4 k4
      have k04 : Keeps w w4 (fun j => j = X.g) := (Keeps.of_below b2).trans k4 (fun j _ e => e)
      have C4 := Lib.hid (CJ.out w4 rs4)
      rw [show ((1 : Nat) : Int) = 1 from rfl] at C4
      go_wp2_with fail
      refine C4.out.mono ?_
      rintro e w5 hz
      obtain ⟨oa2, on2, oc2, rfl⟩ := hz.val
      clear C4 CJ k4 q4
      obtain ⟨rs5, fin, _⟩ := SPL.out w4 w5 oa2 on2 oc2 hz k04
      have c5 : w5.cell? ⟨X.g, 5, none⟩ = some (.int .i64 0) := rs5.box.cell 5
      have N5 := Lib.hid (NW2.out w5 rs5)
      replace fin := Lib.hid fin
      clear SPL hz NW2
      go_wp2_with fail
      refine N5.out.mono ?_
      rintro e w6 ⟨rfl, hq6⟩
      have b6 := hq6.below w5.heap.size
      have rs6 := rs5.below b6
      have q5 := rs6.box
      have p3 : w6.cell? ⟨X.g, 3, none⟩ = some (.int .i64 (a2 : Int)) := q5.cell 3
      have pf3 := q5.free 3
      clear hq6 N5 c5
      go_upto_region 18 with (fail)
      refine wp_region_list ?_
      obtain ⟨w7, hw7⟩ : ∃ w7, w7 = w6.setCell ⟨X.g, 3, none⟩ (.int .i64 ((a2 : Int) + 1)) := ⟨_, rfl⟩
      have q7 := q5.set 3 (.int .i64 ((a2 : Int) + 1))
      have k7 : Keeps w6 (w6.setCell ⟨X.g, 3, none⟩ (.int .i64 ((a2 : Int) + 1))) (fun j => j = X.g) := Keeps.set _ _ _ _ rfl
      rw [← hw7] at q7 k7
      refine wpList_plain rfl (fun K hK => ?_)
      go_simp
      refine hK _ _ ?_
      clear hK K
      refine wpList_plain rfl (fun K hK => ?_)
      go_simp
      refine hK _ _ ?_
      clear hK K
      refine wpList_plain rfl (fun K hK => ?_)
      go_simp
      refine hK _ _ ?_
      clear hK K
      refine wpList_plain rfl (fun K hK => ?_)
      go_simp
      refine hK _ _ ?_
      clear hK K
      refine wpList_plain rfl (fun K hK => ?_)
      go_simp
      refine hK _ _ ?_
      clear hK K
      refine wpList_plain rfl (fun K hK => ?_)
      go_simp
      refine hK _ _ ?_
      clear hK K
      refine wpList_plain rfl (fun K hK => ?_)
      go_simp
      refine hK _ _ ?_
      clear hK K
      refine wpList_plain rfl (fun K hK => ?_)
      go_simp
      refine hK _ _ ?_
      clear hK K
      first | rw [IntWalk.i64_in ((a2 : Int) + 1) (by omega), ← hw7] | rw [← hw7]
      replace hw7 := Lib.hid hw7
      refine wpList_nil ?_
      have rs7 : RzS X w7 (a2 + 1) 0 0 := rs6.put hXH.out.ok q7 k7
      have hf := Lib.hid (fin.out w7 _ hR (by rw [hl3]; exact rs7) ((Keeps.of_below b6).trans k7 (fun j _ e => e)))
      clear p3 pf3 q7 k7 fin rs5 q5 rs6 rs7
      go_wp2
      go_ret
      exact hf.out
     ·have hR := hQ2 t r rfl (fun r' e => h41 ((now_rp hX).2 (by
       have hl2 : a2 < (clsL X.N X.T).length := by
        rcases Nat.lt_or_ge a2 (clsL X.N X.T).length with h7 | h7
        ·exact h7
        ·rw [d1, List.drop_of_length_le h7] at e; cases e
       rw [d1, List.drop_eq_getElem_cons hl2] at e
       injection e with e _
       rw [List.getElem?_eq_getElem hl2, e])))
      obtain ⟨s2, hs2⟩ : ∃ s2 : ByteArray, s2 = ⟨(nowP X.T a2).toArray⟩ := ⟨_, rfl⟩
      have n1 : ¬ s2.data.toList = [41] := by rw [hs2]; exact h41
      have e1 := str_ne n1
      have e2 := str_ne' n1
      have NW2 : Hid (∀ v, RzS X v a2 0 0 → Calls Tryz.prog 37 #[.pointer (some ⟨X.g, 0, none⟩)] v fun e w' => e = .returned (.string s2) ∧ Quiet v w') := fun v hv => by
       have h1 := rnow_any X hXH.out.ok v a2 0 0 hv (by omega)
       rw [← hs2] at h1
       exact h1
      have FL : Hid (∀ v, RzS X v a2 0 0 → Calls Tryz.prog 17 #[.pointer (some ⟨X.g, 0, none⟩)] v fun e w' => FailV X v a2 (stopAt X a2) e w') := fun v hv => rfail_any X hXH.out.ok v a2 hv ha2T
      have FIN : Hid (∀ v v9, Keeps w v (fun j => j = X.g) → FailV X v a2 (stopAt X a2) (.returned (.slice none 0 0)) v9 → RzP X R w a (.returned (.slice none 0 0)) v9) := fun v v9 hk hf => by
       obtain ⟨_, h2, h3⟩ := hf
       rw [hR]
       refine ⟨none, 0, 0, [], a2, rfl, ⟨rfl, OwnR.nil _ _ _ _⟩, by omega, by omega, ?_, hk.trans h3 (fun j _ e => e)⟩
       rw [← ha2]
       exact h2
      clear IL IJ hp LS hc hC hA hB h hX htl hq hQ1 hQ2 hQ3 hlo hsz h41 d1 hs2 n1 hR ha2 h6 haa
      go_enter Tryz.func35, Tryz.ntmps35
      go_wp2_with fail
      refine NW.out.mono ?_
      rintro e w2 ⟨rfl, hq2⟩
      have b2 := hq2.below w.heap.size
      have rs2 := hH.out.below b2
      have q2 := rs2.box
      have p3 : w2.cell? ⟨X.g, 3, none⟩ = some (.int .i64 (a : Int)) := q2.cell 3
      have pf3 := q2.free 3
      clear hq2 NW
      go_upto_region 14 with (fail)
      refine wp_region_list ?_
      obtain ⟨w4, hw4⟩ : ∃ w4, w4 = w2.setCell ⟨X.g, 3, none⟩ (.int .i64 ((a : Int) + 1)) := ⟨_, rfl⟩
      have q4 := q2.set 3 (.int .i64 ((a : Int) + 1))
      have k4 : Keeps w2 (w2.setCell ⟨X.g, 3, none⟩ (.int .i64 ((a : Int) + 1))) (fun j => j = X.g) := Keeps.set _ _ _ _ rfl
      rw [← hw4] at q4 k4
      refine wpList_plain rfl (fun K hK => ?_)
      go_simp
      refine hK _ _ ?_
      clear hK K
      refine wpList_plain rfl (fun K hK => ?_)
      go_simp
      refine hK _ _ ?_
      clear hK K
      refine wpList_plain rfl (fun K hK => ?_)
      go_simp
      refine hK _ _ ?_
      clear hK K
      refine wpList_plain rfl (fun K hK => ?_)
      go_simp
      refine hK _ _ ?_
      clear hK K
      refine wpList_plain rfl (fun K hK => ?_)
      go_simp
      refine hK _ _ ?_
      clear hK K
      refine wpList_plain rfl (fun K hK => ?_)
      go_simp
      refine hK _ _ ?_
      clear hK K
      refine wpList_plain rfl (fun K hK => ?_)
      go_simp
      refine hK _ _ ?_
      clear hK K
      refine wpList_plain rfl (fun K hK => ?_)
      go_simp
      refine hK _ _ ?_
      clear hK K
      rw [IntWalk.i64_in ((a : Int) + 1) (by omega), ← hw4]
      replace hw4 := Lib.hid hw4
      refine wpList_nil ?_
      clear p3 pf3
      have rs4 : RzS X w4 (a + 1) 0 0 := rs2.put hXH.out.ok q4 k4
      have k04 : Keeps w w4 (fun j => j = X.g) := (Keeps.of_below b2).trans k4 (fun j _ e => e)
      have C4 := Lib.hid (CJ.out w4 rs4)
      rw [show ((1 : Nat) : Int) = 1 from rfl] at C4
      go_wp2_with fail
      refine C4.out.mono ?_
      rintro e w5 hz
      obtain ⟨oa2, on2, oc2, rfl⟩ := hz.val
      clear C4 CJ k4 q4
      obtain ⟨rs5, _, k05⟩ := SPL.out w4 w5 oa2 on2 oc2 hz k04
      have c5 : w5.cell? ⟨X.g, 5, none⟩ = some (.int .i64 0) := rs5.box.cell 5
      have N5 := Lib.hid (NW2.out w5 rs5)
      clear SPL hz NW2
      go_wp2_with fail
      refine N5.out.mono ?_
      rintro e w6 ⟨rfl, hq6⟩
      have b6 := hq6.below w5.heap.size
      have F6 := Lib.hid (FL.out w6 (rs5.below b6))
      have k06 := k05.trans (Keeps.of_below b6) (fun j _ e => e)
      clear hq6 N5 c5 FL
      go_wp2_with fail
      refine F6.out.mono ?_
      rintro e w7 hf7
      obtain rfl := hf7.1
      have hf := Lib.hid (FIN.out w6 w7 k06 hf7)
      clear hf7 F6 k06 FIN
      go_wp2
      go_ret
      exact hf.out
   ·obtain ⟨s, hs⟩ : ∃ s : ByteArray, s = ⟨(nowP X.T a).toArray⟩ := ⟨_, rfl⟩
    have hsd : s.data.toList = nowP X.T a := by rw [hs]
    rw [← hs] at NW
    have n1 : ¬ s.data.toList = [116, 114, 117, 101] := fun e => hA (.inl (hsd ▸ e))
    have n2 : ¬ s.data.toList = [102, 97, 108, 115, 101] := fun e => hA (.inr (hsd ▸ e))
    have n3 : ¬ s.data.toList = [33] := fun e => hB (.inl (hsd ▸ e))
    have n4 : ¬ s.data.toList = [88] := fun e => hB (.inr (.inl (hsd ▸ e)))
    have n5 : ¬ s.data.toList = [70] := fun e => hB (.inr (.inr (.inl (hsd ▸ e))))
    have n6 : ¬ s.data.toList = [71] := fun e => hB (.inr (.inr (.inr (hsd ▸ e))))
    have n7 : ¬ s.data.toList = [40] := fun e => hC (hsd ▸ e)
    have y1 := str_ne n1
    have z1 := str_ne' n1
    have y2 := str_ne n2
    have z2 := str_ne' n2
    have y3 := str_ne n3
    have z3 := str_ne' n3
    have y4 := str_ne n4
    have z4 := str_ne' n4
    have y5 := str_ne n5
    have z5 := str_ne' n5
    have y6 := str_ne n6
    have z6 := str_ne' n6
    have y7 := str_ne n7
    have z7 := str_ne' n7
    clear n1 n2 n3 n4 n5 n6 n7
    have NOP := Lib.hid (fun hP => rest_at hX LS hA hB hC hP)
    have FL : Hid (∀ v, RzS X v a 0 0 → Calls Tryz.prog 17 #[.pointer (some ⟨X.g, 0, none⟩)] v fun e w' => FailV X v a (stopAt X a) e w') := fun v hv => rfail_any X hXH.out.ok v a hv ha
    have FIN : Hid ((∀ i, (clsL X.N X.T)[a]? ≠ some (.prop i)) → ∀ v v9, Keeps w v (fun j => j = X.g) → FailV X v a (stopAt X a) (.returned (.slice none 0 0)) v9 → RzP X R w a (.returned (.slice none 0 0)) v9) := fun hP v v9 hk hf => by
     obtain ⟨_, h2, h3⟩ := hf
     rw [NOP.out hP]
     refine ⟨none, 0, 0, [], a, rfl, ⟨rfl, OwnR.nil _ _ _ _⟩, by omega, by omega, ?_, hk.trans h3 (fun j _ e => e)⟩
     rw [List.length_drop, hCl, show X.T.length - (X.T.length - a) = a by omega]
     exact h2
    obtain ⟨n', hn'⟩ : ∃ n', n' = X.T.length := ⟨_, rfl⟩
    have nI : (n' : Int) ≤ 6000 := by omega
    by_cases hl : a < X.T.length
    ·have hlI : (a : Int) < (n' : Int) := by omega
     have hlB : decide (n' ≤ a) = false := decide_eq_false (by omega)
     have hlI2 : ¬ (n' : Int) ≤ (a : Int) := by omega
     have TKS : Hid (∀ v, Below w.heap.size w v → TokAt v X.la X.T) := fun v hb => hXH.out.ok.toks.below (hH.out.below hb).bel
     by_cases hk : X.T[a].kind = 1
     ·have TI := hXH.out.ok.ti X.T[a] (List.getElem_mem hl) hk
      obtain ⟨b, off, ea, hbl, hc0⟩ := TKS.out w (Below.refl _ _) (by omega)
      have SG := hc0 a hl
      have PRA : Hid (∀ v a' pl wy, RzS X v a' pl wy → Calls Tryz.prog 39 #[.pointer (some ⟨X.g, 0, none⟩), .string s] v fun e w' => e = .returned (.int .i64 (propP X.N (nowP X.T a))) ∧ Below v.heap.size v w') := fun v a' pl wy hv => by
       have h1 := rprop_any X hXH.out.ok v a' pl wy hv s
       rw [hsd] at h1
       exact h1
      unfold propP at PRA
      cases hpn : nameAt X.N (nowP X.T a) with
      | none =>
       have F2 := Lib.hid (FIN.out (fun i e => by obtain ⟨_, _, h7⟩ := cls_prop e; rw [hpn] at h7; cases h7))
       rw [hpn] at PRA
       replace PRA : Hid (∀ v a' pl wy, RzS X v a' pl wy → Calls Tryz.prog 39 #[.pointer (some ⟨X.g, 0, none⟩), .string s] v fun e w' => e = .returned (.int .i64 (-1)) ∧ Below v.heap.size v w') := PRA
       generalize X.T[a] = tt at SG hk
       obtain ⟨tk, tn, ta, tx⟩ := tt
       dsimp only at SG hk
       have d0 : w.cell? ⟨b, off + a * 4, none⟩ = some (.int .i64 (tk : Int)) := SG 0 _ rfl
       have hkB : ((tk : Int) != 1) = false := by rw [hk]; rfl
       have hkN : (tk != 1) = false := by rw [hk]; rfl
       replace hn' := Lib.hid hn'
       replace NW := Lib.hid NW
       clear IL IJ hp LS hA hB hC h hX htl hl NOP FIN hs hsd ha hCl hk SG hc0 TKS TI hpn
       go_enter Tryz.func35, Tryz.ntmps35
       go_wp2_with fail
       refine NW.out.mono ?_
       rintro e w2 ⟨rfl, hq2⟩
       have b2 := hq2.below w.heap.size
       have rs2 := hH.out.below b2
       have p3 : w2.cell? ⟨X.g, 3, none⟩ = some (.int .i64 (a : Int)) := rs2.box.cell 3
       have p0 : w2.cell? ⟨X.g, 0, none⟩ = some (.slice X.la X.T.length X.lc) := rs2.box.cell 0
       have d2 : w2.cell? ⟨b, off + a * 4, none⟩ = some (.int .i64 (tk : Int)) := bcell b2 d0
       rw [← hn'.out, ea] at p0
       have k02 : Keeps w w2 (fun j => j = X.g) := Keeps.of_below b2
       have PR : Hid (∀ v, Below w2.heap.size w2 v → Calls Tryz.prog 39 #[.pointer (some ⟨X.g, 0, none⟩), .string s] v fun e w' => e = .returned (.int .i64 (-1)) ∧ Below v.heap.size v w') := fun v hb => PRA.out v a 0 0 (rs2.below hb)
       replace rs2 := Lib.hid rs2
       clear hq2 NW d0
       go_upto_region 20 with (fail)
       refine wp_region_kpW (by kernel_rfl) 30 [.fix (.pointer (some ⟨X.g, 0, none⟩)), .fix (.pointer (some ⟨X.g, 0, none⟩)), .fix (.pointer (some ⟨X.g, 3, none⟩)), .fix (.int .i64 (a : Int)), .fix (.pointer (some ⟨X.g, 0, none⟩)), .fix (.pointer (some ⟨X.g, 0, none⟩)), .fix (.pointer (some ⟨X.g, 0, none⟩)), .fix (.slice (some ⟨b, off, none⟩) n' X.lc), .fix (.int .i64 (n' : Int)), .fix (.bool false), .fix (.bool false), .fix (.pointer (some ⟨X.g, 0, none⟩)), .fix (.pointer (some ⟨X.g, 0, none⟩)), .fix (.pointer (some ⟨X.g, 0, none⟩)), .fix (.slice (some ⟨b, off, none⟩) n' X.lc), .fix (.pointer (some ⟨X.g, 0, none⟩)), .fix (.pointer (some ⟨X.g, 0, none⟩)), .fix (.pointer (some ⟨X.g, 3, none⟩)), .fix (.int .i64 (a : Int)), .fix (.pointer (some ⟨b, off + a * 4, none⟩)), .fix (.pointer (some ⟨b, off + a * 4, none⟩)), .fix (.int .i64 (tk : Int)), .fix (.bool false), .fix (.bool false), .fix (.bool false), .fix (.pointer (some ⟨X.g, 0, none⟩)), .fix (.string s), .fix (.int .i64 (-1)), .fix (.bool true), .fix (.bool true)] (by kernel_rfl) (by kernel_rfl) (by kernel_rfl) ?_ ?_
       ·intro i hi
        match i, hi with
        | 0, _ =>
         intro o ho ac w' hR hF hD K hK
         simp only [zqA, zqZ, zqI] at ho
         subst ho
         have e0 : ac.tmps.getD 0 undef = .pointer (some ⟨X.g, 0, none⟩) := hF 0 (znd (by kernel_rfl))
         have d0 := zgD e0
         clear hD hF
         go_simp
         exact hK _ _ (Below.refl _ _) rfl
        | 1, _ =>
         intro o ho ac w' hR hF hD K hK
         simp only [zqA, zqZ, zqS, zqI] at ho
         subst ho
         have e72 : ac.tmps.getD 72 undef = .pointer (some ⟨X.g, 0, none⟩) := hD 0 (zdp (by kernel_rfl)) 72 rfl
         have d72 := zgD e72
         clear hD hF
         go_simp
         exact hK _ _ (Below.refl _ _) rfl
        | 2, _ =>
         intro o ho ac w' hR hF hD K hK
         simp only [zqA, zqZ, zqS, zqI] at ho
         subst ho
         have e73 : ac.tmps.getD 73 undef = .pointer (some ⟨X.g, 0, none⟩) := hD 1 (zdp (by kernel_rfl)) 73 rfl
         have d73 := zgD e73
         clear hD hF
         go_simp
         exact hK _ _ (Below.refl _ _) rfl
        | 3, _ =>
         intro o ho ac w' hR hF hD K hK
         simp only [zqA, zqZ, zqS, zqI] at ho
         subst ho
         have e74 : ac.tmps.getD 74 undef = .pointer (some ⟨X.g, 3, none⟩) := hD 2 (zdp (by kernel_rfl)) 74 rfl
         have d74 := zgD e74
         clear hD hF
         have q3 : w'.cell? ⟨X.g, 3, none⟩ = some (.int .i64 (a : Int)) := bcell hR p3
         go_simp
         exact hK _ _ (Below.refl _ _) rfl
        | 4, _ =>
         intro o ho ac w' hR hF hD K hK
         simp only [zqA, zqZ, zqS, zqI] at ho
         subst ho
         have e0 : ac.tmps.getD 0 undef = .pointer (some ⟨X.g, 0, none⟩) := hF 0 (znd (by kernel_rfl))
         have d0 := zgD e0
         clear hD hF
         go_simp
         exact hK _ _ (Below.refl _ _) rfl
        | 5, _ =>
         intro o ho ac w' hR hF hD K hK
         simp only [zqA, zqZ, zqS, zqI] at ho
         subst ho
         have e76 : ac.tmps.getD 76 undef = .pointer (some ⟨X.g, 0, none⟩) := hD 4 (zdp (by kernel_rfl)) 76 rfl
         have d76 := zgD e76
         clear hD hF
         go_simp
         exact hK _ _ (Below.refl _ _) rfl
        | 6, _ =>
         intro o ho ac w' hR hF hD K hK
         simp only [zqA, zqZ, zqS, zqI] at ho
         subst ho
         have e77 : ac.tmps.getD 77 undef = .pointer (some ⟨X.g, 0, none⟩) := hD 5 (zdp (by kernel_rfl)) 77 rfl
         have d77 := zgD e77
         clear hD hF
         go_simp
         exact hK _ _ (Below.refl _ _) rfl
        | 7, _ =>
         intro o ho ac w' hR hF hD K hK
         simp only [zqA, zqZ, zqS, zqI] at ho
         subst ho
         have e78 : ac.tmps.getD 78 undef = .pointer (some ⟨X.g, 0, none⟩) := hD 6 (zdp (by kernel_rfl)) 78 rfl
         have d78 := zgD e78
         clear hD hF
         have q0 : w'.cell? ⟨X.g, 0, none⟩ = some (.slice (some ⟨b, off, none⟩) n' X.lc) := bcell hR p0
         go_simp
         exact hK _ _ (Below.refl _ _) rfl
        | 8, _ =>
         intro o ho ac w' hR hF hD K hK
         simp only [zqA, zqZ, zqS, zqI] at ho
         subst ho
         have e79 : ac.tmps.getD 79 undef = .slice (some ⟨b, off, none⟩) n' X.lc := hD 7 (zdp (by kernel_rfl)) 79 rfl
         have d79 := zgD e79
         clear hD hF
         go_simp
         exact hK _ _ (Below.refl _ _) rfl
        | 9, _ =>
         intro o ho ac w' hR hF hD K hK
         simp only [zqA, zqZ, zqS, zqI] at ho
         subst ho
         have e75 : ac.tmps.getD 75 undef = .int .i64 (a : Int) := hD 3 (zdp (by kernel_rfl)) 75 rfl
         have d75 := zgD e75
         have e80 : ac.tmps.getD 80 undef = .int .i64 (n' : Int) := hD 8 (zdp (by kernel_rfl)) 80 rfl
         have d80 := zgD e80
         clear hD hF
         go_simp
         exact hK _ _ (Below.refl _ _) rfl
        | 10, _ =>
         intro o ho ac w' hR hF hD K hK
         simp only [zqA, zqZ, zqS, zqI] at ho
         subst ho
         have e81 : ac.tmps.getD 81 undef = .bool false := hD 9 (zdp (by kernel_rfl)) 81 rfl
         have g81 := getD_bool e81
         have d81 := zgD e81
         clear hD hF
         go_simp
         exact hK _ _ (Below.refl _ _) rfl
        | 11, _ =>
         intro o ho ac w' hR hF hD K hK
         simp only [zqA, zqZ, zqS, zqI] at ho
         subst ho
         have e0 : ac.tmps.getD 0 undef = .pointer (some ⟨X.g, 0, none⟩) := hF 0 (znd (by kernel_rfl))
         have d0 := zgD e0
         have e82 : ac.tmps.getD 82 undef = .bool false := hD 10 (zdp (by kernel_rfl)) 82 rfl
         have g82 := getD_bool e82
         have d82 := zgD e82
         clear hD hF
         go_simp
         exact hK _ _ (Below.refl _ _) rfl
        | 12, _ =>
         intro o ho ac w' hR hF hD K hK
         simp only [zqA, zqZ, zqS, zqI] at ho
         subst ho
         have e82 : ac.tmps.getD 82 undef = .bool false := hD 10 (zdp (by kernel_rfl)) 82 rfl
         have g82 := getD_bool e82
         have d82 := zgD e82
         have e83 : ac.tmps.getD 83 undef = .pointer (some ⟨X.g, 0, none⟩) := hD 11 (zdp (by kernel_rfl)) 83 rfl
         have d83 := zgD e83
         clear hD hF
         go_simp
         exact hK _ _ (Below.refl _ _) rfl
        | 13, _ =>
         intro o ho ac w' hR hF hD K hK
         simp only [zqA, zqZ, zqS, zqI] at ho
         subst ho
         have e82 : ac.tmps.getD 82 undef = .bool false := hD 10 (zdp (by kernel_rfl)) 82 rfl
         have g82 := getD_bool e82
         have d82 := zgD e82
         have e84 : ac.tmps.getD 84 undef = .pointer (some ⟨X.g, 0, none⟩) := hD 12 (zdp (by kernel_rfl)) 84 rfl
         have d84 := zgD e84
         clear hD hF
         go_simp
         exact hK _ _ (Below.refl _ _) rfl
        | 14, _ =>
         intro o ho ac w' hR hF hD K hK
         simp only [zqA, zqZ, zqS, zqI] at ho
         subst ho
         have e82 : ac.tmps.getD 82 undef = .bool false := hD 10 (zdp (by kernel_rfl)) 82 rfl
         have g82 := getD_bool e82
         have d82 := zgD e82
         have e85 : ac.tmps.getD 85 undef = .pointer (some ⟨X.g, 0, none⟩) := hD 13 (zdp (by kernel_rfl)) 85 rfl
         have d85 := zgD e85
         clear hD hF
         have q0 : w'.cell? ⟨X.g, 0, none⟩ = some (.slice (some ⟨b, off, none⟩) n' X.lc) := bcell hR p0
         go_simp
         exact hK _ _ (Below.refl _ _) rfl
        | 15, _ =>
         intro o ho ac w' hR hF hD K hK
         simp only [zqA, zqZ, zqS, zqI] at ho
         subst ho
         have e0 : ac.tmps.getD 0 undef = .pointer (some ⟨X.g, 0, none⟩) := hF 0 (znd (by kernel_rfl))
         have d0 := zgD e0
         have e82 : ac.tmps.getD 82 undef = .bool false := hD 10 (zdp (by kernel_rfl)) 82 rfl
         have g82 := getD_bool e82
         have d82 := zgD e82
         clear hD hF
         go_simp
         exact hK _ _ (Below.refl _ _) rfl
        | 16, _ =>
         intro o ho ac w' hR hF hD K hK
         simp only [zqA, zqZ, zqS, zqI] at ho
         subst ho
         have e82 : ac.tmps.getD 82 undef = .bool false := hD 10 (zdp (by kernel_rfl)) 82 rfl
         have g82 := getD_bool e82
         have d82 := zgD e82
         have e87 : ac.tmps.getD 87 undef = .pointer (some ⟨X.g, 0, none⟩) := hD 15 (zdp (by kernel_rfl)) 87 rfl
         have d87 := zgD e87
         clear hD hF
         go_simp
         exact hK _ _ (Below.refl _ _) rfl
        | 17, _ =>
         intro o ho ac w' hR hF hD K hK
         simp only [zqA, zqZ, zqS, zqI] at ho
         subst ho
         have e82 : ac.tmps.getD 82 undef = .bool false := hD 10 (zdp (by kernel_rfl)) 82 rfl
         have g82 := getD_bool e82
         have d82 := zgD e82
         have e88 : ac.tmps.getD 88 undef = .pointer (some ⟨X.g, 0, none⟩) := hD 16 (zdp (by kernel_rfl)) 88 rfl
         have d88 := zgD e88
         clear hD hF
         go_simp
         exact hK _ _ (Below.refl _ _) rfl
        | 18, _ =>
         intro o ho ac w' hR hF hD K hK
         simp only [zqA, zqZ, zqS, zqI] at ho
         subst ho
         have e82 : ac.tmps.getD 82 undef = .bool false := hD 10 (zdp (by kernel_rfl)) 82 rfl
         have g82 := getD_bool e82
         have d82 := zgD e82
         have e89 : ac.tmps.getD 89 undef = .pointer (some ⟨X.g, 3, none⟩) := hD 17 (zdp (by kernel_rfl)) 89 rfl
         have d89 := zgD e89
         clear hD hF
         have q3 : w'.cell? ⟨X.g, 3, none⟩ = some (.int .i64 (a : Int)) := bcell hR p3
         go_simp
         exact hK _ _ (Below.refl _ _) rfl
        | 19, _ =>
         intro o ho ac w' hR hF hD K hK
         simp only [zqA, zqZ, zqS, zqI] at ho
         subst ho
         have e82 : ac.tmps.getD 82 undef = .bool false := hD 10 (zdp (by kernel_rfl)) 82 rfl
         have g82 := getD_bool e82
         have d82 := zgD e82
         have e86 : ac.tmps.getD 86 undef = .slice (some ⟨b, off, none⟩) n' X.lc := hD 14 (zdp (by kernel_rfl)) 86 rfl
         have d86 := zgD e86
         have e90 : ac.tmps.getD 90 undef = .int .i64 (a : Int) := hD 18 (zdp (by kernel_rfl)) 90 rfl
         have d90 := zgD e90
         clear hD hF
         go_simp
         exact hK _ _ (Below.refl _ _) rfl
        | 20, _ =>
         intro o ho ac w' hR hF hD K hK
         simp only [zqA, zqZ, zqS, zqI] at ho
         subst ho
         have e82 : ac.tmps.getD 82 undef = .bool false := hD 10 (zdp (by kernel_rfl)) 82 rfl
         have g82 := getD_bool e82
         have d82 := zgD e82
         have e91 : ac.tmps.getD 91 undef = .pointer (some ⟨b, off + a * 4, none⟩) := hD 19 (zdp (by kernel_rfl)) 91 rfl
         have d91 := zgD e91
         clear hD hF
         go_simp
         exact hK _ _ (Below.refl _ _) rfl
        | 21, _ =>
         intro o ho ac w' hR hF hD K hK
         simp only [zqA, zqZ, zqS, zqI] at ho
         subst ho
         have e82 : ac.tmps.getD 82 undef = .bool false := hD 10 (zdp (by kernel_rfl)) 82 rfl
         have g82 := getD_bool e82
         have d82 := zgD e82
         have e92 : ac.tmps.getD 92 undef = .pointer (some ⟨b, off + a * 4, none⟩) := hD 20 (zdp (by kernel_rfl)) 92 rfl
         have d92 := zgD e92
         clear hD hF
         have q4 : w'.cell? ⟨b, off + a * 4, none⟩ = some (.int .i64 (tk : Int)) := bcell hR d2
         go_simp
         exact hK _ _ (Below.refl _ _) rfl
        | 22, _ =>
         intro o ho ac w' hR hF hD K hK
         simp only [zqA, zqZ, zqS, zqI] at ho
         subst ho
         have e82 : ac.tmps.getD 82 undef = .bool false := hD 10 (zdp (by kernel_rfl)) 82 rfl
         have g82 := getD_bool e82
         have d82 := zgD e82
         have e93 : ac.tmps.getD 93 undef = .int .i64 (tk : Int) := hD 21 (zdp (by kernel_rfl)) 93 rfl
         have d93 := zgD e93
         clear hD hF
         go_simp
         exact hK _ _ (Below.refl _ _) rfl
        | 23, _ =>
         intro o ho ac w' hR hF hD K hK
         simp only [zqA, zqZ, zqS, zqI] at ho
         subst ho
         have e82 : ac.tmps.getD 82 undef = .bool false := hD 10 (zdp (by kernel_rfl)) 82 rfl
         have g82 := getD_bool e82
         have d82 := zgD e82
         have e94 : ac.tmps.getD 94 undef = .bool false := hD 22 (zdp (by kernel_rfl)) 94 rfl
         have g94 := getD_bool e94
         have d94 := zgD e94
         clear hD hF
         go_simp
         exact hK _ _ (Below.refl _ _) rfl
        | 24, _ =>
         intro o ho ac w' hR hF hD K hK
         simp only [zqA, zqZ, zqS, zqI] at ho
         subst ho
         have e82 : ac.tmps.getD 82 undef = .bool false := hD 10 (zdp (by kernel_rfl)) 82 rfl
         have g82 := getD_bool e82
         have d82 := zgD e82
         have e95 : ac.tmps.getD 95 undef = .bool false := hD 23 (zdp (by kernel_rfl)) 95 rfl
         have g95 := getD_bool e95
         have d95 := zgD e95
         clear hD hF
         go_simp
         exact hK _ _ (Below.refl _ _) rfl
        | 25, _ =>
         intro o ho ac w' hR hF hD K hK
         simp only [zqA, zqZ, zqS, zqI] at ho
         subst ho
         have e0 : ac.tmps.getD 0 undef = .pointer (some ⟨X.g, 0, none⟩) := hF 0 (znd (by kernel_rfl))
         have d0 := zgD e0
         have e96 : ac.tmps.getD 96 undef = .bool false := hD 24 (zdp (by kernel_rfl)) 96 rfl
         have g96 := getD_bool e96
         have d96 := zgD e96
         clear hD hF
         go_simp
         exact hK _ _ (Below.refl _ _) rfl
        | 26, _ =>
         intro o ho ac w' hR hF hD K hK
         simp only [zqA, zqZ, zqS, zqI] at ho
         subst ho
         have e3 : ac.tmps.getD 3 undef = .string s := hF 3 (znd (by kernel_rfl))
         have d3 := zgD e3
         have e96 : ac.tmps.getD 96 undef = .bool false := hD 24 (zdp (by kernel_rfl)) 96 rfl
         have g96 := getD_bool e96
         have d96 := zgD e96
         clear hD hF
         go_simp
         exact hK _ _ (Below.refl _ _) rfl
        | 27, _ =>
         intro o ho ac w' hR hF hD K hK
         simp only [zqA, zqZ, zqS, zqI] at ho
         subst ho
         have e96 : ac.tmps.getD 96 undef = .bool false := hD 24 (zdp (by kernel_rfl)) 96 rfl
         have g96 := getD_bool e96
         have d96 := zgD e96
         have e97 : ac.tmps.getD 97 undef = .pointer (some ⟨X.g, 0, none⟩) := hD 25 (zdp (by kernel_rfl)) 97 rfl
         have d97 := zgD e97
         have e98 : ac.tmps.getD 98 undef = .string s := hD 26 (zdp (by kernel_rfl)) 98 rfl
         have d98 := zgD e98
         clear hD hF
         go_simp
         refine (PR.out w' hR).mono ?_
         rintro e w3 ⟨rfl, hb3⟩
         exact hK _ _ hb3 rfl
        | 28, _ =>
         intro o ho ac w' hR hF hD K hK
         simp only [zqA, zqZ, zqS, zqI] at ho
         subst ho
         have e96 : ac.tmps.getD 96 undef = .bool false := hD 24 (zdp (by kernel_rfl)) 96 rfl
         have g96 := getD_bool e96
         have d96 := zgD e96
         have e99 : ac.tmps.getD 99 undef = .int .i64 (-1) := hD 27 (zdp (by kernel_rfl)) 99 rfl
         have d99 := zgD e99
         clear hD hF
         go_simp
         exact hK _ _ (Below.refl _ _) rfl
        | 29, _ =>
         intro o ho ac w' hR hF hD K hK
         simp only [zqA, zqZ, zqS, zqI] at ho
         subst ho
         have e96 : ac.tmps.getD 96 undef = .bool false := hD 24 (zdp (by kernel_rfl)) 96 rfl
         have g96 := getD_bool e96
         have d96 := zgD e96
         have e100 : ac.tmps.getD 100 undef = .bool true := hD 28 (zdp (by kernel_rfl)) 100 rfl
         have g100 := getD_bool e100
         have d100 := zgD e100
         clear hD hF
         go_simp
         exact hK _ _ (Below.refl _ _) rfl
        | k + 30, hk => omega
       ·rintro ⟨tm, df⟩ w5 hdf hsz hF hR9 hV
        obtain rfl : df = [] := hdf
        obtain ⟨q, rfl⟩ := frameL116 tm hsz
        have k101 : q 101 = .bool true := hV 29 101 (by decide) rfl
        simp only [k101]
        clear k101
        have kk := zbk hF [0, 1, 2, 3, 4, 5, 6, 7, 8, 9, 10, 11, 12, 13, 14, 15, 16, 17, 18, 19, 20, 21, 22, 23, 24, 25, 26, 27, 28, 29, 30, 31, 32, 33, 34, 35, 36, 37, 38, 39, 40, 41, 42, 43, 44, 45, 46, 47, 48, 49, 50, 51, 52, 53, 54, 55, 56, 57, 58, 59, 60, 61, 62, 63, 64, 65, 66, 67, 68, 69, 70, 71, 102, 103, 104, 105, 106, 107, 108, 109, 110, 111, 112, 113, 114, 115] (by kernel_rfl)
        simp only [Bk, Array.getD_eq_getD_getElem?, zqA, zqS, zqZ, Option.getD_some] at kk
        simp only [kk]
        clear kk
        clear hF hV hsz
        change wpAny _ _ _ _ 0 _ _ _
        refine ⟨by kernel_rfl, ?_⟩
        have F3 := Lib.hid (FL.out _ (rs2.out.below hR9))
        have k03 := k02.trans (Keeps.of_below hR9) (fun j _ e => e)
        clear FL p3 p0 d2 hR9 PR rs2 PRA
        go_wp2_with fail
        refine F3.out.mono ?_
        rintro e w7 hf7
        obtain rfl := hf7.1
        have hf := Lib.hid (F2.out _ w7 k03 hf7)
        clear hf7 F3 k03 F2
        go_wp2
        go_ret
        exact hf.out
      | some ii =>
       obtain ⟨ho0, hi8⟩ := prop_op hpn
       have hcl := now_prop hX hl hk hpn ho0
       have hR := LS.prop ii hcl
       rw [hpn] at PRA
       replace PRA : Hid (∀ v a' pl wy, RzS X v a' pl wy → Calls Tryz.prog 39 #[.pointer (some ⟨X.g, 0, none⟩), .string s] v fun e w' => e = .returned (.int .i64 (ii : Int)) ∧ Below v.heap.size v w') := PRA
       have F2 : Hid (∀ v g, RzS X v (a + 1) 0 0 → Keeps w v (fun j => j = X.g) → RowAt v g TNd [.int .i64 3, .int .i64 (ii : Int)] → w.heap.size ≤ g → RzP X R w a (.returned (.slice (some ⟨g, 0, none⟩) 1 1)) v) := fun v g hr hk rg hg => by
        show RzP _ _ _ _ _ _
        rw [hR]
        refine ⟨_, _, rfl, own_one rg hg, ?_, hk⟩
        rw [List.length_drop, hCl, show X.T.length - (X.T.length - (a + 1)) = a + 1 by omega]
        exact hr
       generalize X.T[a] = tt at SG hk
       obtain ⟨tk, tn, ta, tx⟩ := tt
       dsimp only at SG hk
       have d0 : w.cell? ⟨b, off + a * 4, none⟩ = some (.int .i64 (tk : Int)) := SG 0 _ rfl
       have hkB : ((tk : Int) != 1) = false := by rw [hk]; rfl
       have hkN : (tk != 1) = false := by rw [hk]; rfl
       have hiI : (ii : Int) ≤ 8 := by omega
       have hiN : ¬ (ii : Int) < 0 := by omega
       have hiB : decide ((ii : Int) < 0) = false := decide_eq_false hiN
       replace hn' := Lib.hid hn'
       replace NW := Lib.hid NW
       clear IL IJ hp LS hA hB hC h hX htl hl NOP FIN hs hsd ha hCl hk SG hc0 TKS TI hpn FL hR hcl ho0 hi8
       go_enter Tryz.func35, Tryz.ntmps35
       go_wp2_with fail
       refine NW.out.mono ?_
       rintro e w2 ⟨rfl, hq2⟩
       have b2 := hq2.below w.heap.size
       have rs2 := hH.out.below b2
       have p3 : w2.cell? ⟨X.g, 3, none⟩ = some (.int .i64 (a : Int)) := rs2.box.cell 3
       have p0 : w2.cell? ⟨X.g, 0, none⟩ = some (.slice X.la X.T.length X.lc) := rs2.box.cell 0
       have d2 : w2.cell? ⟨b, off + a * 4, none⟩ = some (.int .i64 (tk : Int)) := bcell b2 d0
       rw [← hn'.out, ea] at p0
       have k02 : Keeps w w2 (fun j => j = X.g) := Keeps.of_below b2
       have PR : Hid (∀ v, Below w2.heap.size w2 v → Calls Tryz.prog 39 #[.pointer (some ⟨X.g, 0, none⟩), .string s] v fun e w' => e = .returned (.int .i64 (ii : Int)) ∧ Below v.heap.size v w') := fun v hb => PRA.out v a 0 0 (rs2.below hb)
       replace rs2 := Lib.hid rs2
       clear hq2 NW d0
       go_upto_region 20 with (fail)
       refine wp_region_kpW (by kernel_rfl) 30 [.fix (.pointer (some ⟨X.g, 0, none⟩)), .fix (.pointer (some ⟨X.g, 0, none⟩)), .fix (.pointer (some ⟨X.g, 3, none⟩)), .fix (.int .i64 (a : Int)), .fix (.pointer (some ⟨X.g, 0, none⟩)), .fix (.pointer (some ⟨X.g, 0, none⟩)), .fix (.pointer (some ⟨X.g, 0, none⟩)), .fix (.slice (some ⟨b, off, none⟩) n' X.lc), .fix (.int .i64 (n' : Int)), .fix (.bool false), .fix (.bool false), .fix (.pointer (some ⟨X.g, 0, none⟩)), .fix (.pointer (some ⟨X.g, 0, none⟩)), .fix (.pointer (some ⟨X.g, 0, none⟩)), .fix (.slice (some ⟨b, off, none⟩) n' X.lc), .fix (.pointer (some ⟨X.g, 0, none⟩)), .fix (.pointer (some ⟨X.g, 0, none⟩)), .fix (.pointer (some ⟨X.g, 3, none⟩)), .fix (.int .i64 (a : Int)), .fix (.pointer (some ⟨b, off + a * 4, none⟩)), .fix (.pointer (some ⟨b, off + a * 4, none⟩)), .fix (.int .i64 (tk : Int)), .fix (.bool false), .fix (.bool false), .fix (.bool false), .fix (.pointer (some ⟨X.g, 0, none⟩)), .fix (.string s), .fix (.int .i64 (ii : Int)), .fix (.bool false), .fix (.bool false)] (by kernel_rfl) (by kernel_rfl) (by kernel_rfl) ?_ ?_
       ·intro i hi
        match i, hi with
        | 0, _ =>
         intro o ho ac w' hR hF hD K hK
         simp only [zqA, zqZ, zqI] at ho
         subst ho
         have e0 : ac.tmps.getD 0 undef = .pointer (some ⟨X.g, 0, none⟩) := hF 0 (znd (by kernel_rfl))
         have d0 := zgD e0
         clear hD hF
         go_simp
         exact hK _ _ (Below.refl _ _) rfl
        | 1, _ =>
         intro o ho ac w' hR hF hD K hK
         simp only [zqA, zqZ, zqS, zqI] at ho
         subst ho
         have e72 : ac.tmps.getD 72 undef = .pointer (some ⟨X.g, 0, none⟩) := hD 0 (zdp (by kernel_rfl)) 72 rfl
         have d72 := zgD e72
         clear hD hF
         go_simp
         exact hK _ _ (Below.refl _ _) rfl
        | 2, _ =>
         intro o ho ac w' hR hF hD K hK
         simp only [zqA, zqZ, zqS, zqI] at ho
         subst ho
         have e73 : ac.tmps.getD 73 undef = .pointer (some ⟨X.g, 0, none⟩) := hD 1 (zdp (by kernel_rfl)) 73 rfl
         have d73 := zgD e73
         clear hD hF
         go_simp
         exact hK _ _ (Below.refl _ _) rfl
        | 3, _ =>
         intro o ho ac w' hR hF hD K hK
         simp only [zqA, zqZ, zqS, zqI] at ho
         subst ho
         have e74 : ac.tmps.getD 74 undef = .pointer (some ⟨X.g, 3, none⟩) := hD 2 (zdp (by kernel_rfl)) 74 rfl
         have d74 := zgD e74
         clear hD hF
         have q3 : w'.cell? ⟨X.g, 3, none⟩ = some (.int .i64 (a : Int)) := bcell hR p3
         go_simp
         exact hK _ _ (Below.refl _ _) rfl
        | 4, _ =>
         intro o ho ac w' hR hF hD K hK
         simp only [zqA, zqZ, zqS, zqI] at ho
         subst ho
         have e0 : ac.tmps.getD 0 undef = .pointer (some ⟨X.g, 0, none⟩) := hF 0 (znd (by kernel_rfl))
         have d0 := zgD e0
         clear hD hF
         go_simp
         exact hK _ _ (Below.refl _ _) rfl
        | 5, _ =>
         intro o ho ac w' hR hF hD K hK
         simp only [zqA, zqZ, zqS, zqI] at ho
         subst ho
         have e76 : ac.tmps.getD 76 undef = .pointer (some ⟨X.g, 0, none⟩) := hD 4 (zdp (by kernel_rfl)) 76 rfl
         have d76 := zgD e76
         clear hD hF
         go_simp
         exact hK _ _ (Below.refl _ _) rfl
        | 6, _ =>
         intro o ho ac w' hR hF hD K hK
         simp only [zqA, zqZ, zqS, zqI] at ho
         subst ho
         have e77 : ac.tmps.getD 77 undef = .pointer (some ⟨X.g, 0, none⟩) := hD 5 (zdp (by kernel_rfl)) 77 rfl
         have d77 := zgD e77
         clear hD hF
         go_simp
         exact hK _ _ (Below.refl _ _) rfl
        | 7, _ =>
         intro o ho ac w' hR hF hD K hK
         simp only [zqA, zqZ, zqS, zqI] at ho
         subst ho
         have e78 : ac.tmps.getD 78 undef = .pointer (some ⟨X.g, 0, none⟩) := hD 6 (zdp (by kernel_rfl)) 78 rfl
         have d78 := zgD e78
         clear hD hF
         have q0 : w'.cell? ⟨X.g, 0, none⟩ = some (.slice (some ⟨b, off, none⟩) n' X.lc) := bcell hR p0
         go_simp
         exact hK _ _ (Below.refl _ _) rfl
        | 8, _ =>
         intro o ho ac w' hR hF hD K hK
         simp only [zqA, zqZ, zqS, zqI] at ho
         subst ho
         have e79 : ac.tmps.getD 79 undef = .slice (some ⟨b, off, none⟩) n' X.lc := hD 7 (zdp (by kernel_rfl)) 79 rfl
         have d79 := zgD e79
         clear hD hF
         go_simp
         exact hK _ _ (Below.refl _ _) rfl
        | 9, _ =>
         intro o ho ac w' hR hF hD K hK
         simp only [zqA, zqZ, zqS, zqI] at ho
         subst ho
         have e75 : ac.tmps.getD 75 undef = .int .i64 (a : Int) := hD 3 (zdp (by kernel_rfl)) 75 rfl
         have d75 := zgD e75
         have e80 : ac.tmps.getD 80 undef = .int .i64 (n' : Int) := hD 8 (zdp (by kernel_rfl)) 80 rfl
         have d80 := zgD e80
         clear hD hF
         go_simp
         exact hK _ _ (Below.refl _ _) rfl
        | 10, _ =>
         intro o ho ac w' hR hF hD K hK
         simp only [zqA, zqZ, zqS, zqI] at ho
         subst ho
         have e81 : ac.tmps.getD 81 undef = .bool false := hD 9 (zdp (by kernel_rfl)) 81 rfl
         have g81 := getD_bool e81
         have d81 := zgD e81
         clear hD hF
         go_simp
         exact hK _ _ (Below.refl _ _) rfl
        | 11, _ =>
         intro o ho ac w' hR hF hD K hK
         simp only [zqA, zqZ, zqS, zqI] at ho
         subst ho
         have e0 : ac.tmps.getD 0 undef = .pointer (some ⟨X.g, 0, none⟩) := hF 0 (znd (by kernel_rfl))
         have d0 := zgD e0
         have e82 : ac.tmps.getD 82 undef = .bool false := hD 10 (zdp (by kernel_rfl)) 82 rfl
         have g82 := getD_bool e82
         have d82 := zgD e82
         clear hD hF
         go_simp
         exact hK _ _ (Below.refl _ _) rfl
        | 12, _ =>
         intro o ho ac w' hR hF hD K hK
         simp only [zqA, zqZ, zqS, zqI] at ho
         subst ho
         have e82 : ac.tmps.getD 82 undef = .bool false := hD 10 (zdp (by kernel_rfl)) 82 rfl
         have g82 := getD_bool e82
         have d82 := zgD e82
         have e83 : ac.tmps.getD 83 undef = .pointer (some ⟨X.g, 0, none⟩) := hD 11 (zdp (by kernel_rfl)) 83 rfl
         have d83 := zgD e83
         clear hD hF
         go_simp
         exact hK _ _ (Below.refl _ _) rfl
        | 13, _ =>
         intro o ho ac w' hR hF hD K hK
         simp only [zqA, zqZ, zqS, zqI] at ho
         subst ho
         have e82 : ac.tmps.getD 82 undef = .bool false := hD 10 (zdp (by kernel_rfl)) 82 rfl
         have g82 := getD_bool e82
         have d82 := zgD e82
         have e84 : ac.tmps.getD 84 undef = .pointer (some ⟨X.g, 0, none⟩) := hD 12 (zdp (by kernel_rfl)) 84 rfl
         have d84 := zgD e84
         clear hD hF
         go_simp
         exact hK _ _ (Below.refl _ _) rfl
        | 14, _ =>
         intro o ho ac w' hR hF hD K hK
         simp only [zqA, zqZ, zqS, zqI] at ho
         subst ho
         have e82 : ac.tmps.getD 82 undef = .bool false := hD 10 (zdp (by kernel_rfl)) 82 rfl
         have g82 := getD_bool e82
         have d82 := zgD e82
         have e85 : ac.tmps.getD 85 undef = .pointer (some ⟨X.g, 0, none⟩) := hD 13 (zdp (by kernel_rfl)) 85 rfl
         have d85 := zgD e85
         clear hD hF
         have q0 : w'.cell? ⟨X.g, 0, none⟩ = some (.slice (some ⟨b, off, none⟩) n' X.lc) := bcell hR p0
         go_simp
         exact hK _ _ (Below.refl _ _) rfl
        | 15, _ =>
         intro o ho ac w' hR hF hD K hK
         simp only [zqA, zqZ, zqS, zqI] at ho
         subst ho
         have e0 : ac.tmps.getD 0 undef = .pointer (some ⟨X.g, 0, none⟩) := hF 0 (znd (by kernel_rfl))
         have d0 := zgD e0
         have e82 : ac.tmps.getD 82 undef = .bool false := hD 10 (zdp (by kernel_rfl)) 82 rfl
         have g82 := getD_bool e82
         have d82 := zgD e82
         clear hD hF
         go_simp
         exact hK _ _ (Below.refl _ _) rfl
        | 16, _ =>
         intro o ho ac w' hR hF hD K hK
         simp only [zqA, zqZ, zqS, zqI] at ho
         subst ho
         have e82 : ac.tmps.getD 82 undef = .bool false := hD 10 (zdp (by kernel_rfl)) 82 rfl
         have g82 := getD_bool e82
         have d82 := zgD e82
         have e87 : ac.tmps.getD 87 undef = .pointer (some ⟨X.g, 0, none⟩) := hD 15 (zdp (by kernel_rfl)) 87 rfl
         have d87 := zgD e87
         clear hD hF
         go_simp
         exact hK _ _ (Below.refl _ _) rfl
        | 17, _ =>
         intro o ho ac w' hR hF hD K hK
         simp only [zqA, zqZ, zqS, zqI] at ho
         subst ho
         have e82 : ac.tmps.getD 82 undef = .bool false := hD 10 (zdp (by kernel_rfl)) 82 rfl
         have g82 := getD_bool e82
         have d82 := zgD e82
         have e88 : ac.tmps.getD 88 undef = .pointer (some ⟨X.g, 0, none⟩) := hD 16 (zdp (by kernel_rfl)) 88 rfl
         have d88 := zgD e88
         clear hD hF
         go_simp
         exact hK _ _ (Below.refl _ _) rfl
        | 18, _ =>
         intro o ho ac w' hR hF hD K hK
         simp only [zqA, zqZ, zqS, zqI] at ho
         subst ho
         have e82 : ac.tmps.getD 82 undef = .bool false := hD 10 (zdp (by kernel_rfl)) 82 rfl
         have g82 := getD_bool e82
         have d82 := zgD e82
         have e89 : ac.tmps.getD 89 undef = .pointer (some ⟨X.g, 3, none⟩) := hD 17 (zdp (by kernel_rfl)) 89 rfl
         have d89 := zgD e89
         clear hD hF
         have q3 : w'.cell? ⟨X.g, 3, none⟩ = some (.int .i64 (a : Int)) := bcell hR p3
         go_simp
         exact hK _ _ (Below.refl _ _) rfl
        | 19, _ =>
         intro o ho ac w' hR hF hD K hK
         simp only [zqA, zqZ, zqS, zqI] at ho
         subst ho
         have e82 : ac.tmps.getD 82 undef = .bool false := hD 10 (zdp (by kernel_rfl)) 82 rfl
         have g82 := getD_bool e82
         have d82 := zgD e82
         have e86 : ac.tmps.getD 86 undef = .slice (some ⟨b, off, none⟩) n' X.lc := hD 14 (zdp (by kernel_rfl)) 86 rfl
         have d86 := zgD e86
         have e90 : ac.tmps.getD 90 undef = .int .i64 (a : Int) := hD 18 (zdp (by kernel_rfl)) 90 rfl
         have d90 := zgD e90
         clear hD hF
         go_simp
         exact hK _ _ (Below.refl _ _) rfl
        | 20, _ =>
         intro o ho ac w' hR hF hD K hK
         simp only [zqA, zqZ, zqS, zqI] at ho
         subst ho
         have e82 : ac.tmps.getD 82 undef = .bool false := hD 10 (zdp (by kernel_rfl)) 82 rfl
         have g82 := getD_bool e82
         have d82 := zgD e82
         have e91 : ac.tmps.getD 91 undef = .pointer (some ⟨b, off + a * 4, none⟩) := hD 19 (zdp (by kernel_rfl)) 91 rfl
         have d91 := zgD e91
         clear hD hF
         go_simp
         exact hK _ _ (Below.refl _ _) rfl
        | 21, _ =>
         intro o ho ac w' hR hF hD K hK
         simp only [zqA, zqZ, zqS, zqI] at ho
         subst ho
         have e82 : ac.tmps.getD 82 undef = .bool false := hD 10 (zdp (by kernel_rfl)) 82 rfl
         have g82 := getD_bool e82
         have d82 := zgD e82
         have e92 : ac.tmps.getD 92 undef = .pointer (some ⟨b, off + a * 4, none⟩) := hD 20 (zdp (by kernel_rfl)) 92 rfl
         have d92 := zgD e92
         clear hD hF
         have q4 : w'.cell? ⟨b, off + a * 4, none⟩ = some (.int .i64 (tk : Int)) := bcell hR d2
         go_simp
         exact hK _ _ (Below.refl _ _) rfl
        | 22, _ =>
         intro o ho ac w' hR hF hD K hK
         simp only [zqA, zqZ, zqS, zqI] at ho
         subst ho
         have e82 : ac.tmps.getD 82 undef = .bool false := hD 10 (zdp (by kernel_rfl)) 82 rfl
         have g82 := getD_bool e82
         have d82 := zgD e82
         have e93 : ac.tmps.getD 93 undef = .int .i64 (tk : Int) := hD 21 (zdp (by kernel_rfl)) 93 rfl
         have d93 := zgD e93
         clear hD hF
         go_simp
         exact hK _ _ (Below.refl _ _) rfl
        | 23, _ =>
         intro o ho ac w' hR hF hD K hK
         simp only [zqA, zqZ, zqS, zqI] at ho
         subst ho
         have e82 : ac.tmps.getD 82 undef = .bool false := hD 10 (zdp (by kernel_rfl)) 82 rfl
         have g82 := getD_bool e82
         have d82 := zgD e82
         have e94 : ac.tmps.getD 94 undef = .bool false := hD 22 (zdp (by kernel_rfl)) 94 rfl
         have g94 := getD_bool e94
         have d94 := zgD e94
         clear hD hF
         go_simp
         exact hK _ _ (Below.refl _ _) rfl
        | 24, _ =>
         intro o ho ac w' hR hF hD K hK
         simp only [zqA, zqZ, zqS, zqI] at ho
         subst ho
         have e82 : ac.tmps.getD 82 undef = .bool false := hD 10 (zdp (by kernel_rfl)) 82 rfl
         have g82 := getD_bool e82
         have d82 := zgD e82
         have e95 : ac.tmps.getD 95 undef = .bool false := hD 23 (zdp (by kernel_rfl)) 95 rfl
         have g95 := getD_bool e95
         have d95 := zgD e95
         clear hD hF
         go_simp
         exact hK _ _ (Below.refl _ _) rfl
        | 25, _ =>
         intro o ho ac w' hR hF hD K hK
         simp only [zqA, zqZ, zqS, zqI] at ho
         subst ho
         have e0 : ac.tmps.getD 0 undef = .pointer (some ⟨X.g, 0, none⟩) := hF 0 (znd (by kernel_rfl))
         have d0 := zgD e0
         have e96 : ac.tmps.getD 96 undef = .bool false := hD 24 (zdp (by kernel_rfl)) 96 rfl
         have g96 := getD_bool e96
         have d96 := zgD e96
         clear hD hF
         go_simp
         exact hK _ _ (Below.refl _ _) rfl
        | 26, _ =>
         intro o ho ac w' hR hF hD K hK
         simp only [zqA, zqZ, zqS, zqI] at ho
         subst ho
         have e3 : ac.tmps.getD 3 undef = .string s := hF 3 (znd (by kernel_rfl))
         have d3 := zgD e3
         have e96 : ac.tmps.getD 96 undef = .bool false := hD 24 (zdp (by kernel_rfl)) 96 rfl
         have g96 := getD_bool e96
         have d96 := zgD e96
         clear hD hF
         go_simp
         exact hK _ _ (Below.refl _ _) rfl
        | 27, _ =>
         intro o ho ac w' hR hF hD K hK
         simp only [zqA, zqZ, zqS, zqI] at ho
         subst ho
         have e96 : ac.tmps.getD 96 undef = .bool false := hD 24 (zdp (by kernel_rfl)) 96 rfl
         have g96 := getD_bool e96
         have d96 := zgD e96
         have e97 : ac.tmps.getD 97 undef = .pointer (some ⟨X.g, 0, none⟩) := hD 25 (zdp (by kernel_rfl)) 97 rfl
         have d97 := zgD e97
         have e98 : ac.tmps.getD 98 undef = .string s := hD 26 (zdp (by kernel_rfl)) 98 rfl
         have d98 := zgD e98
         clear hD hF
         go_simp
         refine (PR.out w' hR).mono ?_
         rintro e w3 ⟨rfl, hb3⟩
         exact hK _ _ hb3 rfl
        | 28, _ =>
         intro o ho ac w' hR hF hD K hK
         simp only [zqA, zqZ, zqS, zqI] at ho
         subst ho
         have e96 : ac.tmps.getD 96 undef = .bool false := hD 24 (zdp (by kernel_rfl)) 96 rfl
         have g96 := getD_bool e96
         have d96 := zgD e96
         have e99 : ac.tmps.getD 99 undef = .int .i64 (ii : Int) := hD 27 (zdp (by kernel_rfl)) 99 rfl
         have d99 := zgD e99
         clear hD hF
         go_simp
         exact hK _ _ (Below.refl _ _) rfl
        | 29, _ =>
         intro o ho ac w' hR hF hD K hK
         simp only [zqA, zqZ, zqS, zqI] at ho
         subst ho
         have e96 : ac.tmps.getD 96 undef = .bool false := hD 24 (zdp (by kernel_rfl)) 96 rfl
         have g96 := getD_bool e96
         have d96 := zgD e96
         have e100 : ac.tmps.getD 100 undef = .bool false := hD 28 (zdp (by kernel_rfl)) 100 rfl
         have g100 := getD_bool e100
         have d100 := zgD e100
         clear hD hF
         go_simp
         exact hK _ _ (Below.refl _ _) rfl
        | k + 30, hk => omega
       ·rintro ⟨tm, df⟩ w5 hdf hsz hF hR9 hV
        obtain rfl : df = [] := hdf
        obtain ⟨q, rfl⟩ := frameL116 tm hsz
        have k101 : q 101 = .bool false := hV 29 101 (by decide) rfl
        simp only [k101]
        clear k101
        have kk := zbk hF [0, 1, 2, 3, 4, 5, 6, 7, 8, 9, 10, 11, 12, 13, 14, 15, 16, 17, 18, 19, 20, 21, 22, 23, 24, 25, 26, 27, 28, 29, 30, 31, 32, 33, 34, 35, 36, 37, 38, 39, 40, 41, 42, 43, 44, 45, 46, 47, 48, 49, 50, 51, 52, 53, 54, 55, 56, 57, 58, 59, 60, 61, 62, 63, 64, 65, 66, 67, 68, 69, 70, 71, 102, 103, 104, 105, 106, 107, 108, 109, 110, 111, 112, 113, 114, 115] (by kernel_rfl)
        simp only [Bk, Array.getD_eq_getD_getElem?, zqA, zqS, zqZ, Option.getD_some] at kk
        simp only [kk]
        clear kk
        clear hF hV hsz
        change wpAny _ _ _ _ 0 _ _ _
        refine ⟨by kernel_rfl, ?_⟩
        have rs5 := rs2.out.below hR9
        have k05 := k02.trans (Keeps.of_below hR9) (fun j _ e => e)
        have q5 := rs5.box
        clear p3 p0 d2 hR9 PR rs2
        have p3 : w5.cell? ⟨X.g, 3, none⟩ = some (.int .i64 (a : Int)) := q5.cell 3
        have pf3 := q5.free 3
        go_upto_region 22 with (fail)
        refine wp_region_list ?_
        obtain ⟨w6, hw6⟩ : ∃ w6, w6 = w5.setCell ⟨X.g, 3, none⟩ (.int .i64 ((a : Int) + 1)) := ⟨_, rfl⟩
        have q6 := q5.set 3 (.int .i64 ((a : Int) + 1))
        have k6 : Keeps w5 (w5.setCell ⟨X.g, 3, none⟩ (.int .i64 ((a : Int) + 1))) (fun j => j = X.g) := Keeps.set _ _ _ _ rfl
        rw [← hw6] at q6 k6
        refine wpList_plain rfl (fun K hK => ?_)
        go_simp
        refine hK _ _ ?_
        clear hK K
        refine wpList_plain rfl (fun K hK => ?_)
        go_simp
        refine hK _ _ ?_
        clear hK K
        refine wpList_plain rfl (fun K hK => ?_)
        go_simp
        refine hK _ _ ?_
        clear hK K
        refine wpList_plain rfl (fun K hK => ?_)
        go_simp
        refine hK _ _ ?_
        clear hK K
        refine wpList_plain rfl (fun K hK => ?_)
        go_simp
        refine hK _ _ ?_
        clear hK K
        refine wpList_plain rfl (fun K hK => ?_)
        go_simp
        refine hK _ _ ?_
        clear hK K
        refine wpList_plain rfl (fun K hK => ?_)
        go_simp
        refine hK _ _ ?_
        clear hK K
        refine wpList_plain rfl (fun K hK => ?_)
        go_simp
        refine hK _ _ ?_
        clear hK K
        rw [IntWalk.i64_in ((a : Int) + 1) (by omega), ← hw6]
        replace hw6 := Lib.hid hw6
        refine wpList_nil ?_
        clear p3 pf3
        have rs6 : RzS X w6 (a + 1) 0 0 := rs5.put hXH.out.ok q6 k6
        have k06 : Keeps w w6 (fun j => j = X.g) := k05.trans k6 (fun j _ e => e)
        have P6 := Lib.hid (PRA.out w6 (a + 1) 0 0 rs6)
        clear PRA rs5 k05 q5 q6 k6
        go_upto_region 23 with (fail)
        refine wp_region_list ?_
        refine wpList_plain rfl (fun K hK => ?_)
        go_simp
        refine hK _ _ ?_
        clear hK K
        refine wpList_plain rfl (fun K hK => ?_)
        go_simp
        refine hK _ _ ?_
        clear hK K
        refine wpList_plain rfl (fun K hK => ?_)
        go_simp
        refine P6.out.mono ?_
        rintro e w7 ⟨rfl, hb7⟩
        refine hK _ _ ?_
        clear hK K P6
        have rs7 := rs6.below hb7
        have k07 := k06.trans (Keeps.of_below hb7) (fun j _ e => e)
        clear rs6 k06 hb7
        refine wpList_plain rfl (fun K hK => ?_)
        go_simp
        refine hK _ _ ?_
        clear hK K
        refine wpList_plain rfl (fun K hK => ?_)
        go_simp
        refine hK _ _ ?_
        clear hK K
        obtain ⟨w8, hw8⟩ : ∃ w8, w8 = w7.alloc (.cells #[.int .i64 3, .int .i64 (ii : Int)] TNd) := ⟨_, rfl⟩
        obtain ⟨g8, hg8⟩ : ∃ g8, g8 = w7.heap.size := ⟨_, rfl⟩
        have r8 : RowAt w8 g8 TNd [.int .i64 3, .int .i64 (ii : Int)] := by rw [hw8]; exact RowAt.new #[.int .i64 3, .int .i64 (ii : Int)] hg8
        have b8 : Below w7.heap.size w7 w8 := by rw [hw8]; exact balloc (Below.refl _ _) _
        rw [← hw8, ← hg8]
        have fin := Lib.hid (F2.out w8 g8 (rs7.below b8) (k07.trans (Keeps.of_below b8) (fun j _ e => e)) r8 (by rw [hg8]; exact k07.size))
        replace hg8 := Lib.hid hg8
        replace hw8 := Lib.hid hw8
        clear b8 r8 F2 k07 rs7
        refine wpList_plain rfl (fun K hK => ?_)
        go_simp
        refine hK _ _ ?_
        clear hK K
        refine wpList_nil ?_
        go_wp2
        go_ret
        exact fin.out
     ·have F2 := Lib.hid (FIN.out (fun i e => by obtain ⟨_, h7, _⟩ := cls_prop e; exact hk h7))
      obtain ⟨b, off, ea, hbl, hc0⟩ := TKS.out w (Below.refl _ _) (by omega)
      have SG := hc0 a hl
      generalize X.T[a] = tt at SG hk
      obtain ⟨tk, tn, ta, tx⟩ := tt
      dsimp only at SG hk
      have d0 : w.cell? ⟨b, off + a * 4, none⟩ = some (.int .i64 (tk : Int)) := SG 0 _ rfl
      have hkB : ((tk : Int) != 1) = true := by rw [bne_iff_ne]; omega
      have hkN : (tk != 1) = true := by rw [bne_iff_ne]; exact hk
      replace hn' := Lib.hid hn'
      replace NW := Lib.hid NW
      clear IL IJ hp LS hA hB hC h hX htl hl NOP FIN hs hsd ha hCl hk SG hc0 TKS
      go_enter Tryz.func35, Tryz.ntmps35
      go_wp2_with fail
      refine NW.out.mono ?_
      rintro e w2 ⟨rfl, hq2⟩
      have b2 := hq2.below w.heap.size
      have rs2 := hH.out.below b2
      have p3 : w2.cell? ⟨X.g, 3, none⟩ = some (.int .i64 (a : Int)) := rs2.box.cell 3
      have p0 : w2.cell? ⟨X.g, 0, none⟩ = some (.slice X.la X.T.length X.lc) := rs2.box.cell 0
      have d2 : w2.cell? ⟨b, off + a * 4, none⟩ = some (.int .i64 (tk : Int)) := bcell b2 d0
      rw [← hn'.out, ea] at p0
      have k02 : Keeps w w2 (fun j => j = X.g) := Keeps.of_below b2
      clear hq2 NW d0
      go_wp2
      go_quiet (fail)
      have b3 : Below w2.heap.size w2 (w2.drewN nq) := bdrewN (Below.refl _ _) _
      have F3 := Lib.hid (FL.out _ (rs2.below b3))
      have k03 := k02.trans (Keeps.of_below b3) (fun j _ e => e)
      clear FL rs2 p3 p0 d2
      go_wp2_with fail
      refine F3.out.mono ?_
      rintro e w7 hf7
      obtain rfl := hf7.1
      have hf := Lib.hid (F2.out _ w7 k03 hf7)
      clear hf7 F3 k03 F2
      go_wp2
      go_ret
      exact hf.out
    ·have hlI : ¬ (a : Int) < (n' : Int) := by omega
     have hlB : decide (n' ≤ a) = true := decide_eq_true (by omega)
     have hlI2 : (n' : Int) ≤ (a : Int) := by omega
     have F2 := Lib.hid (FIN.out (fun i e => by have h7 := (List.getElem?_eq_some_iff.1 e).1; omega))
     replace hn' := Lib.hid hn'
     replace NW := Lib.hid NW
     clear IL IJ hp LS hA hB hC h hX htl hl NOP FIN hs hsd ha hCl
     go_enter Tryz.func35, Tryz.ntmps35
     go_wp2_with fail
     refine NW.out.mono ?_
     rintro e w2 ⟨rfl, hq2⟩
     have b2 := hq2.below w.heap.size
     have rs2 := hH.out.below b2
     have p3 : w2.cell? ⟨X.g, 3, none⟩ = some (.int .i64 (a : Int)) := rs2.box.cell 3
     have p0 : w2.cell? ⟨X.g, 0, none⟩ = some (.slice X.la X.T.length X.lc) := rs2.box.cell 0
     rw [← hn'.out] at p0
     have k02 : Keeps w w2 (fun j => j = X.g) := Keeps.of_below b2
     clear hq2 NW
     go_wp2
     go_quiet (fail)
     have b3 : Below w2.heap.size w2 (w2.drewN nq) := bdrewN (Below.refl _ _) _
     have F3 := Lib.hid (FL.out _ (rs2.below b3))
     have k03 := k02.trans (Keeps.of_below b3) (fun j _ e => e)
     clear FL rs2 p3 p0
     go_wp2_with fail
     refine F3.out.mono ?_
     rintro e w7 hf7
     obtain rfl := hf7.1
     have hf := Lib.hid (F2.out _ w7 k03 hf7)
     clear hf7 F3 k03 F2
     go_wp2
     go_ret
     exact hf.out
end Go.Proofs.YtkehfolcfcbplaaGreatDoor
namespace Go.Proofs.YtkehfolcfcbplaaGreatDoor
open Go.RowKit
set_option linter.unusedVariables false
set_option linter.unusedSimpArgs false
theorem TokAt.of_ownE {w : World} {base : Nat} {a : Option Addr} {c : Nat} {T : List Tk} (h : OwnE w base a T.length c T) : TokAt w a T := fun h0 => by
 obtain ⟨g, e, _, hl⟩ := OwnR.addr h h0
 subst e
 refine ⟨g, 0, rfl, hl, fun i hi j v hj => ?_⟩
 have hj4 : j < 4 := (List.getElem?_eq_some_iff.1 hj).1
 rw [Nat.zero_add, OwnR.cell h (i * 4 + j) (by omega)]
 exact tcells_at T i hi j v hj
theorem one_dig {l : List UInt8} {n : Int} {k : Nat} (h : oneP l = .tok 2 n k) : headB isDig l = true := by
 unfold oneP at h
 split at h
 ·split at h
  ·cases h
  ·injection h with h; cases h
 ·split at h
  ·assumption
  ·split at h
   ·injection h with h; cases h
   ·cases h
theorem scan_dig (L : List UInt8) : ∀ t ∈ (scanLex L).toks, t.kind = 2 → headB isDig t.text = true := by
 have hg : ∀ t ∈ (scanLex L).toks, GoodT t := by
  unfold scanLex
  split
  ·intro t ht; cases ht
  ·exact scan_good L _ _ [] (fun t ht => by cases ht)
 intro t ht hk
 have h1 := (hg t ht).2 [] (.inl rfl)
 rw [hk, List.append_nil] at h1
 exact one_dig h1
theorem read_z (X : RdX) (hX : RzOk X) : ∀ n, RzLeaf X n ∧ RzJoint X n
 | 0 => ⟨fun R a w h => (by cases h), fun k R a w _ _ h => (by cases h)⟩
 | n + 1 => ⟨rleaf_any X hX n (read_z X hX n).1 (read_z X hX n).2, rjoint_any X hX n (rleaf_any X hX n (read_z X hX n).1 (read_z X hX n).2) (read_z X hX n).2⟩
theorem rz_start {w1 : World} {la : Option Addr} {lc : Nat} {T : List Tk} {na : Option Addr} {nc : Nat} {N : List (List UInt8)} {en : Nat} (base : Nat) (ho : OwnE w1 base la T.length lc T) (hd : Door w1) (hN : StrsAt w1 na N) (hNl : N.length ≤ 1000) (hNc : N.length ≤ nc) (hNs : ∀ x ∈ N, x.length ≤ 281474976710656) (hl : T.length ≤ 6000) (ht : ∀ t ∈ T, t.kind = 1 → headB isLet t.text = true) (ht2 : ∀ t ∈ T, t.kind = 2 → headB isDig t.text = true) :
  RzOk ⟨w1, w1.heap.size, la, lc, T, na, nc, N, en⟩ ∧ ∀ wa, wa = w1.alloc (.cells #[.slice la T.length lc, .int .i64 (en : Int), .slice na N.length nc, .int .i64 0, .int .i64 0, .int .i64 0] TRz) →
   RzS ⟨w1, w1.heap.size, la, lc, T, na, nc, N, en⟩ wa 0 0 0 ∧ Below w1.heap.size w1 wa := by
 refine ⟨⟨⟨TokAt.of_ownE ho, hN, hd, Nat.le_refl _, hNl, hNc, hNs, hl, ht⟩, ht2⟩, fun wa hwa => ?_⟩
 have hb : Below w1.heap.size w1 wa := by rw [hwa]; exact balloc (Below.refl _ _) _
 refine ⟨⟨?_, hb⟩, hb⟩
 rw [hwa]
 exact RowAt.new _ rfl
set_option maxRecDepth 8000 in
set_option maxHeartbeats 4000000 in
theorem rdiffer_any (w : World) (s q : ByteArray) (hs : s.size ≤ 281474976710656) :
  Calls Tryz.prog 19 #[.string s, .string q] w fun e w' => e = .returned (.int .i64 (if s = q then -1 else (differP s.data.toList q.data.toList : Int))) ∧ Below w.heap.size w w' := by
 by_cases hsq : s = q
 ·rw [if_pos hsq]
  subst hsq
  clear hs
  go_enter Tryz.func19, Tryz.ntmps19
  go_wp2
  go_ret
  exact ⟨rfl, Below.refl _ _⟩
 rw [if_neg hsq]
 have hsqB := str_no hsq
 clear hsq
 obtain ⟨la, hla⟩ : ∃ la, la = s.data.toList := ⟨_, rfl⟩
 obtain ⟨lb, hlb⟩ : ∃ lb, lb = q.data.toList := ⟨_, rfl⟩
 have hA : s.size = la.length := by rw [hla, Array.length_toList]; rfl
 have hB : q.size = lb.length := by rw [hlb, Array.length_toList]; rfl
 have AT : Hid (∀ i (h : i < s.size) (h2 : i < la.length), s[i] = la[i]) := fun i h h2 => by
  subst hla
  exact data_at s i h _
 have BT : Hid (∀ i (h : i < q.size) (h2 : i < lb.length), q[i] = lb[i]) := fun i h h2 => by
  subst hlb
  exact data_at q i h _
 rw [← hla, ← hlb]
 obtain ⟨res, hres⟩ : ∃ res, res = differP la lb := ⟨_, rfl⟩
 rw [← hres]
 have ST : Hid (0 + differP (la.drop 0) (lb.drop 0) = res) := by
  show _ = _
  rw [List.drop_zero, List.drop_zero, hres, Nat.zero_add]
 replace hA := Lib.hid hA
 replace hB := Lib.hid hB
 clear hres hla hlb
 have hsI : (s.size : Int) ≤ 281474976710656 := by omega
 clear hs
 go_enter Tryz.func19, Tryz.ntmps19
 go_wp2
 go_loopw [5] (fun iv wr => ∃ i : Nat, iv = .int .i64 (i : Int) ∧ i ≤ s.size ∧ Hid (i + differP (la.drop i) (lb.drop i) = res) ∧ Hid (Below w.heap.size w wr)) (fun iv _ => s.size - (intOf iv).toNat)
 case atStart => exact ⟨0, rfl, Nat.zero_le _, ST, Below.refl _ _⟩
 case round =>
  obtain ⟨i, rfl, hi, hd, hb⟩ := hrel
  clear ST
  by_cases h1 : i < s.size
  ·have h1I : (i : Int) < (s.size : Int) := by omega
   by_cases h2 : i < q.size
   ·have h2I : (i : Int) < (q.size : Int) := by omega
    have k1 : i < la.length := by have := hA.out; omega
    have k2 : i < lb.length := by have := hB.out; omega
    have hst := differ_step k1 k2
    have e1 := AT.out i h1 k1
    have e2 := BT.out i h2 k2
    rw [← e1, ← e2] at hst
    by_cases he : s[i] = q[i]
    ·have heB : ((s[i].toNat : Int) == (q[i].toNat : Int)) = true := by rw [he]; exact beq_self_eq_true _
     have heN : (s[i].toNat == q[i].toNat) = true := by rw [he]; exact beq_self_eq_true _
     have hd2 : Hid ((i + 1) + differP (la.drop (i + 1)) (lb.drop (i + 1)) = res) := by
      show _ = _
      have := hd.out
      rw [hst, if_pos he] at this
      omega
     clear hst e1 e2 he k1 k2
     go_wp2_with fail
     go_quiet (fail)
     have hbq := Lib.hid (btrans hb.out (bdrewN (n := nq) (Below.refl wr.heap.size wr)))
     go_wp2
     go_roundw
     case rel => exact ⟨i + 1, by go_num, by omega, hd2, hbq⟩
     case measure => simp [intOf]; omega
    ·have heB : ((s[i].toNat : Int) == (q[i].toNat : Int)) = false := by
      rw [beq_eq_false_iff_ne]
      exact fun e => he (UInt8.toNat_inj.1 (by omega))
     have heN : (s[i].toNat == q[i].toNat) = false := by
      rw [beq_eq_false_iff_ne]
      exact fun e => he (UInt8.toNat_inj.1 e)
     have hr : Hid (i = res) := by
      show _ = _
      have := hd.out
      rw [hst, if_neg he] at this
      omega
     clear hst e1 e2 he k1 k2
     go_wp2_with fail
     go_quiet (fail)
     have hbq := Lib.hid (btrans hb.out (bdrewN (n := nq) (Below.refl wr.heap.size wr)))
     go_wp2
     go_ret
     exact ⟨by rw [← hr.out]; rfl, hbq.out⟩
   ·have h2I : ¬ (i : Int) < (q.size : Int) := by omega
    have h2B : decide ((i : Int) < (q.size : Int)) = false := decide_eq_false h2I
    have h2N : decide (i < q.size) = false := decide_eq_false h2
    have hr : Hid (i = res) := by
     show _ = _
     have := hd.out
     rw [differ_fin (.inr (by have := hB.out; omega))] at this
     omega
    clear h2
    go_wp2_with fail
    go_quiet (fail)
    have hbq := Lib.hid (btrans hb.out (bdrewN (n := nq) (Below.refl wr.heap.size wr)))
    go_wp2
    go_ret
    exact ⟨by rw [← hr.out]; rfl, hbq.out⟩
  ·have h1I : ¬ (i : Int) < (s.size : Int) := by omega
   have h1B : decide ((i : Int) < (s.size : Int)) = false := decide_eq_false h1I
   have h1N : decide (i < s.size) = false := decide_eq_false h1
   have hr : Hid (i = res) := by
    show _ = _
    have := hd.out
    rw [differ_fin (.inl (by have := hA.out; omega))] at this
    omega
   clear h1
   go_wp2_with fail
   go_quiet (fail)
   have hbq := Lib.hid (btrans hb.out (bdrewN (n := nq) (Below.refl wr.heap.size wr)))
   go_wp2
   go_ret
   exact ⟨by rw [← hr.out]; rfl, hbq.out⟩
set_option maxRecDepth 12000 in
set_option maxHeartbeats 16000000 in
theorem rparse_form (w : World) (hd : Door w) (s : ByteArray) (hs : s.size ≤ 281474976710656) (na : Option Addr) (nc : Nat) (N : List (List UInt8)) (hN : StrsAt w na N) (hNl : N.length ≤ 1000) (hNc : N.length ≤ nc) (hNs : ∀ x ∈ N, x.length ≤ 281474976710656) (o : List Nd × Nat × Nat) (ho : ParseR s.data.toList N o) :
  Calls Tryz.prog 7 #[.string s, .slice na N.length nc] w fun e w' => ParseV w o e w' := by
 have hsI : (s.size : Int) ≤ 281474976710656 := by omega
 have SC := rscan_any w s hsI
 obtain ⟨L, hL⟩ : ∃ L, L = s.data.toList := ⟨_, rfl⟩
 have hLn : s.size = L.length := by rw [hL, Array.length_toList]; rfl
 rw [← hL] at SC ho
 have hT6 := scan_len L
 have hTl := scan_let L
 have hTd := scan_dig L
 unfold ParseR at ho
 obtain ⟨sc, hsc⟩ : ∃ sc, sc = scanLex L := ⟨_, rfl⟩
 rw [← hsc] at SC ho hT6 hTl hTd
 obtain ⟨T, sa, se⟩ := sc
 dsimp only at SC ho hT6 hTl hTd
 have hNI : (N.length : Int) ≤ 1000 := by omega
 have hTI : (T.length : Int) ≤ 6000 := by omega
 by_cases hse : se = 0
 ·rw [if_pos hse] at ho
  subst hse
  obtain ⟨R, hR, hoR⟩ := ho
  obtain ⟨n, hn⟩ := hR
  have hlo := left_suf (prs_left (show goodM (.joint 1) from ⟨by decide, by decide⟩) hn)
  have hdf : Hid (∀ q : ByteArray, q.size ≤ 281474976710656 → ∀ v, Calls Tryz.prog 19 #[.string q, .string s] v fun e w' => e = .returned (.int .i64 (if q = s then -1 else (differP q.data.toList L : Int))) ∧ Below v.heap.size v w') := fun q hq v => by
   rw [hL]
   exact rdiffer_any v q s hq
  have CR : Hid (∀ w1 la lc, OwnE w1 w.heap.size la T.length lc T → Below w.heap.size w w1 → ∃ X : RdX, RzOk X ∧ X.W = w1 ∧ X.g = w1.heap.size ∧ X.T = T ∧ X.N = N ∧ X.na = na ∧ X.nc = nc ∧ X.en = L.length ∧ X.la = la ∧ X.lc = lc ∧ ∀ wa, wa = w1.alloc (.cells #[.slice la T.length lc, .int .i64 (s.size : Int), .slice na N.length nc, .int .i64 0, .int .i64 0, .int .i64 0] TRz) → Below w1.heap.size w1 wa ∧ Calls Tryz.prog 16 #[.pointer (some ⟨w1.heap.size, 0, none⟩), .int .i64 1] wa (RzP X R wa 0)) := fun w1 la lc h1 h2 => by
   obtain ⟨k1, k2⟩ := rz_start (en := s.size) w.heap.size h1 (hd.below h2) (hN.below h2) hNl hNc hNs hT6 hTl hTd
   refine ⟨⟨w1, w1.heap.size, la, lc, T, na, nc, N, s.size⟩, k1, rfl, rfl, rfl, rfl, rfl, rfl, hLn, rfl, rfl, fun wa hwa => ?_⟩
   obtain ⟨k3, k4⟩ := k2 wa hwa
   exact ⟨k4, (read_z _ k1 n).2 1 R 0 wa (by decide) (by decide) hn (Nat.zero_le _) k3⟩
  have WRT : Hid (∀ v, Below w.heap.size w v → ∀ (t : Fm) a c, R = .ok t [] → NdAt v a t.post → t.post.length ≤ 24 → Calls Tryz.prog 18 #[.slice a t.post.length c, .slice na N.length nc] v fun e w' => e = .returned (.tuple #[.string ⟨(txt (nmP N) t).toArray⟩, .int .i64 0]) ∧ Below v.heap.size v w') := fun v hv t a c e hna hl => by
   subst e
   obtain ⟨p1, p2⟩ := (prs_ok N n (.joint 1) _ t [] (clsL_good N T) (fun k u e => by cases e) hn).1
   have h3 := nameErr_of N t p1 p2 []
   rw [List.append_nil] at h3
   have h := rtext_form v a c t.post hna (by omega) na nc N (hN.below hv) hNl hNc hNs
   rw [textP_tree p1 hl (by rw [h3]; rfl)] at h
   exact h
  have TXL : Hid (∀ t, R = .ok t [] → t.post.length ≤ 24 → (txt (nmP N) t).length ≤ 281474976710656) := fun t e hl => by
   subst e
   have h1 := (txt_len (nmP N) t (goodNm_of N t (prs_ok N n (.joint 1) _ t [] (clsL_good N T) (fun k u e => by cases e) hn).1.2)).1
   omega
  have LOH := Lib.hid hlo
  replace SC := Lib.hid SC
  replace hoR := Lib.hid hoR
  replace hLn := Lib.hid hLn
  replace hL := Lib.hid hL
  clear hd hs hN hNl hNc hNs hTl hTd hsc hn hT6 hlo
  go_enter Tryz.func7, Tryz.ntmps7
  go_wp2_with fail
  refine SC.out.mono ?_
  rintro e w1 ⟨⟨la, lc, rfl, hot⟩, hb1⟩
  obtain ⟨X, hX, xW, xg, xT, xN, xna, xnc, xen, xla, xlc, hcr⟩ := CR.out w1 la lc hot hb1
  clear SC CR
  rw [show ((0 : Nat) : Int) = 0 from rfl]
  obtain ⟨wa, hwa⟩ : ∃ wa, wa = w1.alloc (.cells #[.slice la T.length lc, .int .i64 (s.size : Int), .slice na N.length nc, .int .i64 0, .int .i64 0, .int .i64 0] TRz) := ⟨_, rfl⟩
  obtain ⟨hba, CJ⟩ := hcr wa hwa
  obtain ⟨g, hg⟩ : ∃ g, g = w1.heap.size := ⟨_, rfl⟩
  rw [← hg] at CJ
  replace hwa := Lib.hid hwa
  replace hg := Lib.hid hg
  replace CJ := Lib.hid CJ
  replace hX := Lib.hid hX
  replace hba := Lib.hid hba
  replace hb1 := Lib.hid hb1
  have xg' : Hid (X.g = g) := by show _ = _; rw [xg]; exact hg.out.symm
  replace xW := Lib.hid xW
  replace xT := Lib.hid xT
  replace xN := Lib.hid xN
  replace xna := Lib.hid xna
  replace xnc := Lib.hid xnc
  replace xen := Lib.hid xen
  replace xla := Lib.hid xla
  replace xlc := Lib.hid xlc
  clear hcr xg hot
  go_upto_region 5 with (fail)
  rw [← hwa.out, ← hg.out]
  go_wp2_with fail
  refine CJ.out.mono ?_
  rintro e w3 hpq
  clear CJ
  have BEL : Hid (∀ v, Below X.W.heap.size X.W v → Below w.heap.size w v) := fun v hv => by
   rw [xW.out] at hv
   exact btrans hb1.out hv
  have hba' : Hid (w.heap.size ≤ wa.heap.size) := by show _ ≤ _; have h1 := hb1.out.size; have h2 := hba.out.size; omega
  cases R with
  | no r =>
   obtain ⟨oa3, oc3, on3, O3, a3, rfl, _, _, ha3, rs3, _⟩ := hpq
   obtain ⟨d1, d2⟩ := suf_drop (a := 0) (LOH.out.2 r rfl) (by rw [List.drop_zero])
   have hCl := cls_len N T
   rw [hCl] at d1 d2
   obtain ⟨q1, q2⟩ := stop_same X xen.out (a := T.length - r.length) (r := r) (by rw [xN.out, xT.out]; exact d1) (by rw [xT.out]; omega)
   have hoN : o = ([], stopP L X.N X.T r) := by rw [hoR.out, xN.out, xT.out]; rfl
   rw [xT.out, q1] at rs3
   generalize stopP L X.N X.T r = sp at q2 hoN rs3
   obtain ⟨p, ec⟩ := sp
   dsimp only at q2 rs3
   have bx := BEL.out _ rs3.bel
   have box := rs3.box
   rw [xg'.out] at box
   have c4 : w3.cell? ⟨g, 4, none⟩ = some (.int .i64 (p : Int)) := box.cell 4
   have c5 : w3.cell? ⟨g, 5, none⟩ = some (.int .i64 (ec : Int)) := box.cell 5
   replace box := Lib.hid box
   have q2B : ((ec : Int) != 0) = true := by rw [bne_iff_ne]; omega
   have q2N : (ec != 0) = true := by rw [bne_iff_ne]; exact q2
   have q2C : ((ec : Int) == 0) = false := by rw [beq_eq_false_iff_ne]; omega
   have q2M : (ec == 0) = false := by rw [beq_eq_false_iff_ne]; exact q2
   have fin : Hid (∀ v, Below w3.heap.size w3 v → ParseV w o (.returned (.tuple #[.slice none 0 0, .int .i64 (p : Int), .int .i64 (ec : Int)])) v) := fun v hv => by
    rw [hoN]
    exact ParseV.no rfl (btrans bx hv)
   clear hoR hoN bx rs3 d1 d2 hCl q1 q2 BEL LOH WRT TXL hdf ha3
   go_wp2_with fail
   go_quiet (fail)
   have fq := Lib.hid (fin.out _ (bdrewN (n := nq) (Below.refl w3.heap.size w3)))
   clear fin
   go_wp2
   refine bodyPost_ret (v := .tuple #[.slice none 0 0, .int .i64 (p : Int), .int .i64 (ec : Int)]) (by simp [results, Tryz.results7]) rfl ?_
   exact fq.out
  | ok t r =>
   obtain ⟨oa3, oc3, rfl, own3, rs3, _⟩ := hpq
   obtain ⟨d1, d2⟩ := suf_drop (a := 0) (LOH.out.1 t r rfl) (by rw [List.drop_zero])
   have hCl := cls_len N T
   rw [hCl] at d1 d2
   rw [xT.out] at rs3
   cases r with
   | cons c r' =>
    obtain ⟨a3, ha3⟩ : ∃ a3, a3 = T.length - (c :: r').length := ⟨_, rfl⟩
    rw [← ha3] at rs3 d1
    have ha : a3 < T.length := by rw [ha3]; simp only [List.length_cons] at d2 ⊢; omega
    obtain ⟨q1, q2⟩ := stop_same X xen.out (a := a3) (r := c :: r') (by rw [xN.out, xT.out]; exact d1) (by rw [xT.out]; omega)
    have hoN : o = ([], stopP L X.N X.T (c :: r')) := by rw [hoR.out, xN.out, xT.out]; rfl
    have ST := rfail_any X hX.out.ok w3 a3 rs3 (by rw [xT.out]; omega)
    unfold FailV at ST
    rw [q1] at ST
    generalize stopP L X.N X.T (c :: r') = sp at q2 hoN ST
    obtain ⟨p, ec⟩ := sp
    dsimp only at q2 ST
    rw [xg'.out] at ST
    have box := rs3.box
    rw [xg'.out] at box
    have c3 : w3.cell? ⟨g, 3, none⟩ = some (.int .i64 (a3 : Int)) := box.cell 3
    have c5 : w3.cell? ⟨g, 5, none⟩ = some (.int .i64 0) := box.cell 5
    have haI : (a3 : Int) < (T.length : Int) := by omega
    have q2B : ((ec : Int) != 0) = true := by rw [bne_iff_ne]; omega
    have q2N : (ec != 0) = true := by rw [bne_iff_ne]; exact q2
    have fin : Hid (∀ v, Below w.heap.size w v → ParseV w o (.returned (.tuple #[.slice none 0 0, .int .i64 (p : Int), .int .i64 (ec : Int)])) v) := fun v hv => by
     rw [hoN]
     exact ParseV.no rfl hv
    replace ST := Lib.hid ST
    replace box := Lib.hid box
    clear hoR hoN rs3 own3 d1 d2 hCl q1 q2 LOH WRT TXL hdf ha ha3
    go_wp2_with fail
    refine ST.out.mono ?_
    rintro e w4 ⟨rfl, rs4, _⟩
    have bx := BEL.out _ rs4.bel
    have box4 := rs4.box
    rw [xg'.out] at box4
    have c4 : w4.cell? ⟨g, 4, none⟩ = some (.int .i64 (p : Int)) := box4.cell 4
    have c5 : w4.cell? ⟨g, 5, none⟩ = some (.int .i64 (ec : Int)) := box4.cell 5
    have fin4 : Hid (∀ v, Below w4.heap.size w4 v → ParseV w o (.returned (.tuple #[.slice none 0 0, .int .i64 (p : Int), .int .i64 (ec : Int)])) v) := fun v hv => fin.out v (btrans bx hv)
    clear rs4 bx box4 ST fin BEL c3
    go_wp2_with fail
    go_quiet (fail)
    have fq := Lib.hid (fin4.out _ (bdrewN (n := nq) (Below.refl w4.heap.size w4)))
    clear fin4
    go_wp2
    refine bodyPost_ret (v := .tuple #[.slice none 0 0, .int .i64 (p : Int), .int .i64 (ec : Int)]) (by simp [results, Tryz.results7]) rfl ?_
    exact fq.out
   | nil =>
    rw [List.length_nil, Nat.sub_zero] at rs3
    have bx := BEL.out _ rs3.bel
    have box := rs3.box
    rw [xg'.out] at box
    have c3 : w3.cell? ⟨g, 3, none⟩ = some (.int .i64 (T.length : Int)) := box.cell 3
    have c5 : w3.cell? ⟨g, 5, none⟩ = some (.int .i64 0) := box.cell 5
    have hnI : ¬ (T.length : Int) < (T.length : Int) := by omega
    have hnB : decide ((T.length : Int) < (T.length : Int)) = false := decide_eq_false hnI
    have hnN : decide (T.length < T.length) = false := decide_eq_false (by omega)
    have own3 := OwnR.lowB own3 hba'.out
    have nd3 : NdAt w3 oa3 t.post := NdAt.of_own own3
    by_cases h24 : 24 < t.post.length
    ·have h24I : (24 : Int) < (t.post.length : Int) := by omega
     have hoN : o = ([], L.length, 5) := by
      rw [hoR.out]
      show (if 24 < t.post.length then _ else _) = _
      rw [if_pos h24]
     have fin : Hid (ParseV w o (.returned (.tuple #[.slice none 0 0, .int .i64 (s.size : Int), .int .i64 5])) w3) := by
      show ParseV _ _ _ _
      rw [hoN]
      exact ParseV.no (by rw [hLn.out]; rfl) bx
     replace box := Lib.hid box
     clear own3 nd3
     generalize t.post.length = pn at *
     clear hoR hoN bx rs3 d1 d2 hCl LOH WRT TXL hdf h24 BEL
     go_wp2
     refine bodyPost_ret (v := .tuple #[.slice none 0 0, .int .i64 (s.size : Int), .int .i64 5]) (by simp [results, Tryz.results7]) rfl ?_
     exact fin.out
    ·have h24I : ¬ (24 : Int) < (t.post.length : Int) := by omega
     have W1 := WRT.out w3 bx t oa3 oc3 rfl nd3 (by omega)
     have hxl := TXL.out t rfl (by omega)
     obtain ⟨x, hx⟩ : ∃ x : ByteArray, x = ⟨(txt (nmP N) t).toArray⟩ := ⟨_, rfl⟩
     rw [← hx] at W1
     have hxs : x.data.toList = txt (nmP N) t := by rw [hx]
     have hxn : x.size ≤ 281474976710656 := by
      have : x.size = x.data.toList.length := by rw [Array.length_toList]; rfl
      rw [this, hxs]
      exact hxl
     have D0 := hdf.out x hxn
     rw [hxs] at D0
     obtain ⟨pn, hpn⟩ : ∃ pn, pn = t.post.length := ⟨_, rfl⟩
     rw [← hpn] at W1 h24I ⊢
     by_cases hxe : txt (nmP N) t = L
     ·have hq : x = s := by
       rw [hx]
       exact (str_eq _ _).2 (hxe.trans hL.out)
      have hoN : o = (t.post, 0, 0) := by
       rw [hoR.out]
       show (if 24 < t.post.length then _ else if txt (nmP N) t = L then _ else _) = _
       rw [if_neg h24, if_pos hxe]
      have fin : Hid (∀ v, Below w3.heap.size w3 v → ParseV w o (.returned (.tuple #[.slice oa3 pn oc3, .int .i64 0, .int .i64 0])) v) := fun v hv => by
       rw [hoN, hpn]
       exact ⟨oa3, oc3, rfl, OwnR.keeps (S := fun _ => False) own3 (Keeps.of_below hv) (fun _ _ e => e), btrans bx hv⟩
      rw [if_pos hq] at D0
      have DF := Lib.hid D0
      replace W1 := Lib.hid W1
      replace box := Lib.hid box
      replace hpn := Lib.hid hpn
      clear D0 hoR hoN bx rs3 d1 d2 hCl LOH WRT TXL hdf h24 own3 nd3 BEL hxe hxs hxn hxl hx hq
      go_wp2_with fail
      refine W1.out.mono ?_
      rintro e w4 ⟨rfl, hb4⟩
      replace hb4 := Lib.hid hb4
      clear W1 c3 c5
      go_wp2_with fail
      refine (DF.out w4).mono ?_
      rintro e w5 ⟨rfl, hb5⟩
      have hf := Lib.hid (fin.out w5 (btrans hb4.out hb5))
      clear fin hb4 hb5 DF
      go_wp2
      refine bodyPost_ret (v := .tuple #[.slice oa3 pn oc3, .int .i64 0, .int .i64 0]) (by simp [results, Tryz.results7]) rfl ?_
      exact hf.out
     ·have hq : ¬ x = s := fun e => hxe (by rw [← hxs, e, hL.out])
      have hoN : o = ([], differP (txt (nmP N) t) L, 13) := by
       rw [hoR.out]
       show (if 24 < t.post.length then _ else if txt (nmP N) t = L then _ else _) = _
       rw [if_neg h24, if_neg hxe]
      rw [if_neg hq] at D0
      have fin : Hid (∀ v, Below w3.heap.size w3 v → ParseV w o (.returned (.tuple #[.slice none 0 0, .int .i64 (differP (txt (nmP N) t) L : Int), .int .i64 13])) v) := fun v hv => by
       rw [hoN]
       exact ParseV.no rfl (btrans bx hv)
      generalize differP (txt (nmP N) t) L = dp at D0 fin
      have dpI : (0 : Int) ≤ (dp : Int) := Int.natCast_nonneg _
      have DF := Lib.hid D0
      replace W1 := Lib.hid W1
      replace box := Lib.hid box
      replace hpn := Lib.hid hpn
      clear D0 hoR hoN bx rs3 d1 d2 hCl LOH WRT TXL hdf h24 own3 nd3 BEL hxe hxs hxn hxl hx hq
      go_wp2_with fail
      refine W1.out.mono ?_
      rintro e w4 ⟨rfl, hb4⟩
      replace hb4 := Lib.hid hb4
      clear W1 c3 c5
      go_wp2_with fail
      refine (DF.out w4).mono ?_
      rintro e w5 ⟨rfl, hb5⟩
      have hf := Lib.hid (fin.out w5 (btrans hb4.out hb5))
      clear fin hb4 hb5 DF
      go_wp2
      refine bodyPost_ret (v := .tuple #[.slice none 0 0, .int .i64 (dp : Int), .int .i64 13]) (by simp [results, Tryz.results7]) rfl ?_
      exact hf.out
 ·rw [if_neg hse] at ho
  have seB : ((se : Int) != 0) = true := by rw [bne_iff_ne]; omega
  have seN : (se != 0) = true := by rw [bne_iff_ne]; exact hse
  replace SC := Lib.hid SC
  replace ho := Lib.hid ho
  clear hd hs hN hNl hNc hNs hTl hTd hsc hT6 hLn hL hse
  go_enter Tryz.func7, Tryz.ntmps7
  go_wp2_with fail
  refine SC.out.mono ?_
  rintro e w1 ⟨⟨la, lc, rfl, hot⟩, hb1⟩
  have fin : Hid (ParseV w o (.returned (.tuple #[.slice none 0 0, .int .i64 (sa : Int), .int .i64 (se : Int)])) w1) := by
   show ParseV _ _ _ _
   rw [ho.out]
   exact ParseV.no rfl hb1
  clear SC hot hb1 ho
  go_wp2
  refine bodyPost_ret (v := .tuple #[.slice none 0 0, .int .i64 (sa : Int), .int .i64 (se : Int)]) (by simp [results, Tryz.results7]) rfl ?_
  exact fin.out
end Go.Proofs.YtkehfolcfcbplaaGreatDoor
namespace Go.Proofs.YtkehfolcfcbplaaGreatDoor
open Go.RowKit Go.ChangeShapes Go.WideShapes Go.ChangeAt
set_option linter.unusedVariables false
set_option linter.unusedSimpArgs false
def rNm : Rd (List UInt8) := fun _ cs x => cs = [.string ⟨x.toArray⟩]
theorem opens_Nm : Opens Tryz.prog 9 rNm := by
 intro H enc w fuel cs d ps hd hwt
 obtain ⟨s, h, _⟩ := opens_str Tryz.underlying9 H enc w fuel cs d ps hd hwt
 refine ⟨s.data.toList, ?_⟩
 show _ = [_]
 rw [h]
theorem opens_nms : Opens Tryz.prog 22 (rSl 1 16 rNm) := opens_slice Tryz.underlying22 (by kernel_rfl) (by kernel_rfl) (by decide) opens_Nm
theorem nms_at {W : World} {v : Value} {N : List (List UInt8)} (r : rSl 1 16 rNm W [v] N) : ∃ a c, v = .slice a N.length c ∧ StrsAt W a N ∧ N.length ≤ 281474976710656 ∧ N.length ≤ c := by
 obtain ⟨a, cap, hv, hb, hc1, _, hcells⟩ := r
 refine ⟨a, cap, by simpa using hv, fun h0 => ?_, by unfold reachBytes at hb; omega, hc1⟩
 obtain ⟨b, off, e, h⟩ := hcells h0
 refine ⟨b, off, e, fun i hi => ?_⟩
 obtain ⟨vs, _, hc, hR⟩ := h i hi
 have h1 := hc 0 (by decide)
 rw [hR, Nat.mul_one] at h1
 exact h1
theorem parse_none {L : List UInt8} {N : List (List UInt8)} {o : List Nd × Nat × Nat} (h : ParseR L N o) (h0 : o.2.2 ≠ 0) : o.1 = [] := by
 unfold ParseR at h
 split at h
 ·obtain ⟨R, _, rfl⟩ := h
  cases R with
  | no r => rfl
  | ok t r =>
   cases r with
   | cons c r => rfl
   | nil =>
    revert h0
    show (if 24 < t.post.length then (([], L.length, 5) : List Nd × Nat × Nat) else if txt (nmP N) t = L then (t.post, 0, 0) else ([], differP (txt (nmP N) t) L, 13)).2.2 ≠ 0 → _
    intro h0
    show (if 24 < t.post.length then (([], L.length, 5) : List Nd × Nat × Nat) else if txt (nmP N) t = L then (t.post, 0, 0) else ([], differP (txt (nmP N) t) L, 13)).1 = []
    split
    ·rfl
    ·rename_i h1
     rw [if_neg h1] at h0
     split
     ·rename_i h2
      rw [if_pos h2] at h0
      exact absurd rfl h0
     ·rfl
 ·rw [h]
theorem parse_told (v : World) (hd : Door v) (s : ByteArray) (hs : s.size ≤ 281474976710656) (na : Option Addr) (nc : Nat) (N : List (List UInt8)) (hN : StrsAt v na N) (hNl : N.length ≤ 1000) (hNc : N.length ≤ nc) (hNs : ∀ x ∈ N, x.length ≤ 281474976710656) (o : List Nd × Nat × Nat) (ho : ParseR s.data.toList N o) :
  Calls Tryz.prog 6 #[.string s, .slice na N.length nc] v fun e w' => ∃ oa oc, e = .returned (.tuple #[.slice oa o.1.length oc, .int .i64 (o.2.1 : Int), .int .i64 (o.2.2 : Int)]) ∧ NdAt w' oa o.1 ∧ Below v.heap.size v w' :=
 (parse_form v hd s hs na nc N hN hNl hNc hNs o ho).mono fun e w' ⟨oa, oc, h1, h2, h3⟩ => ⟨oa, oc, h1, NdAt.of_own h2, h3⟩
theorem rparse_told (v : World) (hd : Door v) (s : ByteArray) (hs : s.size ≤ 281474976710656) (na : Option Addr) (nc : Nat) (N : List (List UInt8)) (hN : StrsAt v na N) (hNl : N.length ≤ 1000) (hNc : N.length ≤ nc) (hNs : ∀ x ∈ N, x.length ≤ 281474976710656) (o : List Nd × Nat × Nat) (ho : ParseR s.data.toList N o) :
  Calls Tryz.prog 7 #[.string s, .slice na N.length nc] v fun e w' => ∃ oa oc, e = .returned (.tuple #[.slice oa o.1.length oc, .int .i64 (o.2.1 : Int), .int .i64 (o.2.2 : Int)]) ∧ NdAt w' oa o.1 ∧ Below v.heap.size v w' :=
 (rparse_form v hd s hs na nc N hN hNl hNc hNs o ho).mono fun e w' ⟨oa, oc, h1, h2, h3⟩ => ⟨oa, oc, h1, NdAt.of_own h2, h3⟩
set_option maxRecDepth 8000 in
set_option maxHeartbeats 16000000 in
theorem ltextParses_walk (W : World) (hd : Door W) (s : ByteArray) (hsz : s.size ≤ reachBytes) (v1 : Value) (N : List (List UInt8)) (r1 : rSl 1 16 rNm W [v1] N) : Calls Tryz.prog 3 #[.string s, v1] W fun e w' => e = .returned (.bool true) ∧ Below W.heap.size W w' := by
 have AW := Lib.hid (fun v (hb : Below W.heap.size W v) => awake_true v (hd.below hb))
 obtain ⟨na, nc, rfl, hN, hNl, hNc⟩ := nms_at r1
 have HV := heavy_any W none 0 0 na nc N hN hNl (by decide)
 have hs2 : s.size ≤ 281474976710656 := by unfold reachBytes at hsz; omega
 have hsI : (s.size : Int) ≤ 281474976710656 := by omega
 by_cases h600 : s.size ≤ 600
 ·have h600I : ¬ (600 : Int) < (s.size : Int) := by omega
  cases hh : heavyP 0 N with
  | true =>
   rw [hh] at HV
   replace HV := Lib.hid HV
   generalize N.length = m at *
   clear hd r1 hN hNl hNc hh hsz hs2 h600
   go_enter Tryz.func3, Tryz.ntmps3
   go_wp2_with fail
   refine HV.out.mono ?_
   rintro e w1 ⟨rfl, rfl⟩
   clear HV
   go_wp2_with fail
   refine (AW.out W (Below.refl _ _)).mono ?_
   rintro e w2 ⟨rfl, hb2⟩
   replace hb2 := Lib.hid hb2
   clear AW
   go_wp2
   go_ret
   exact ⟨rfl, hb2.out⟩
  | false =>
   rw [hh] at HV
   obtain ⟨n40, n60, n20⟩ := heavy_not hh
   have hNs : ∀ x ∈ N, x.length ≤ 281474976710656 := fun x hx => by have := n40 x hx; omega
   obtain ⟨o, ho⟩ := parse_total s.data.toList N
   have PT := fun v (hb : Below W.heap.size W v) => parse_told v (hd.below hb) s hs2 na nc N (hN.below hb) (by omega) hNc hNs o ho
   have RT := fun v (hb : Below W.heap.size W v) => rparse_told v (hd.below hb) s hs2 na nc N (hN.below hb) (by omega) hNc hNs o ho
   have hol : o.1.length ≤ 1000 := by
    by_cases h0 : o.2.2 = 0
    ·obtain ⟨t, _, ht, h24, _⟩ := parse_text ho h0
     rw [ht]
     show t.post.length ≤ 1000
     omega
    ·rw [parse_none ho h0]
     exact Nat.zero_le _
   have NB : Hid (∀ v a b c d, NdAt v a o.1 → NdAt v b o.1 → Calls Tryz.prog 8 #[.slice a o.1.length c, .slice b o.1.length d] v fun e w' => e = .returned (.bool true) ∧ Below v.heap.size v w') := fun v a b c d ha hb =>
    (nodes_any v a b c d o.1 o.1 ha hb (by omega) (by omega)).mono fun e w' ⟨h1, h2⟩ => ⟨by rw [h1, decide_eq_true rfl], h2.below _⟩
   obtain ⟨ol, op, oe⟩ := o
   dsimp only at PT RT NB hol
   generalize hg : ol.length = gl at PT RT NB
   generalize N.length = m at *
   replace HV := Lib.hid HV
   replace PT := Lib.hid PT
   replace RT := Lib.hid RT
   have hpB : ((op : Int) == (op : Int)) = true := beq_self_eq_true _
   have heB : ((oe : Int) == (oe : Int)) = true := beq_self_eq_true _
   clear hd r1 hN hNl hNc hh n40 n60 n20 hNs ho hsz hs2 h600 hg hol
   go_enter Tryz.func3, Tryz.ntmps3
   go_wp2_with fail
   refine HV.out.mono ?_
   rintro e w1 ⟨rfl, rfl⟩
   clear HV
   go_wp2_with fail
   refine (PT.out W (Below.refl _ _)).mono ?_
   rintro e w2 ⟨oa2, oc2, rfl, nd2, hb2⟩
   have z2 := Lib.hid hb2
   replace nd2 := Lib.hid nd2
   clear hb2 PT
   go_wp2_with fail
   refine (RT.out w2 z2.out).mono ?_
   rintro e w3 ⟨oa3, oc3, rfl, nd3, hb3⟩
   have z3 := Lib.hid (btrans z2.out hb3)
   have N3 := Lib.hid (NB.out w3 oa2 oa3 oc2 oc3 (nd2.out.below hb3) nd3)
   clear hb3 RT nd2 nd3 NB z2
   go_wp2_with fail
   refine N3.out.mono ?_
   rintro e w4 ⟨rfl, hb4⟩
   have z4 := Lib.hid (btrans z3.out hb4)
   have A4 := Lib.hid (AW.out w4 z4.out)
   clear hb4 N3 z3 AW
   go_wp2_with fail
   refine A4.out.mono ?_
   rintro e w5 ⟨rfl, hb5⟩
   have z5 := Lib.hid (btrans z4.out hb5)
   clear hb5 A4 z4
   go_wp2
   go_ret
   exact ⟨rfl, z5.out⟩
 ·have h600I : (600 : Int) < (s.size : Int) := by omega
  clear HV hd r1 hNl hNc hsz hs2 h600 hN
  generalize N.length = m at *
  go_enter Tryz.func3, Tryz.ntmps3
  go_wp2_with fail
  refine (AW.out W (Below.refl _ _)).mono ?_
  rintro e w2 ⟨rfl, hb2⟩
  replace hb2 := Lib.hid hb2
  clear AW
  go_wp2
  go_ret
  exact ⟨rfl, hb2.out⟩
end Go.Proofs.YtkehfolcfcbplaaGreatDoor
