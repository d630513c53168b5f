/- The reader of formulas ends at a token, walked. Conditions: not too many tokens. -/
import Derived.Test.YtkehfolcfcbplaaGreatDoorSLtR2
namespace Go.Proofs.YtkehfolcfcbplaaGreatDoor
open Go.RowKit
set_option linter.unusedVariables false
set_option linter.unusedSimpArgs false
def stopAt (X : RdX) (a : Nat) : Int × Int := match X.T[a]? with
 | none => ((X.en : Int), 4)
 | some t => ((t.at_ : Int), (errC (clsP X.N t.kind t.text) : Int))
theorem own_op {s : List UInt8} : ownF.contains s = false ↔ opOf s = 0 := by
 constructor
 ·exact opOf_zero
 ·intro h
  cases hc : ownF.contains s with
  | false => rfl
  | true =>
   have h2 : ∀ x ∈ ownF, opOf x ≠ 0 := by decide
   exact absurd h (h2 s (List.contains_iff_mem.1 hc))
theorem err_other {N : List (List UInt8)} {k : Nat} {s : List UInt8} (h : k ≠ 1) : errC (clsP N k s) = 3 := by
 unfold clsP
 split
 ·rfl
 ·split
  ·rfl
  ·split
   ·rfl
   ·split
    ·first | rfl | (rw [if_neg h]; rfl)
    ·split
     ·rfl
     ·split <;> rfl
theorem word_br {s : List UInt8} (h : headB isLet s = true) : s ≠ [40] ∧ s ≠ [41] := by
 cases s with
 | nil => cases h
 | cons c r => exact head_word h
theorem err_word {N : List (List UInt8)} {s : List UInt8} (h : headB isLet s = true) : (ownF.contains s = true → errC (clsP N 1 s) = 3) ∧ (ownF.contains s = false → errC (clsP N 1 s) = match nameAt N s with | some _ => 3 | none => 8) := by
 obtain ⟨h1, h2⟩ := word_br h
 refine ⟨fun e => ?_, fun e => ?_⟩
 ·have h0 : ¬ opOf s = 0 := fun e2 => by rw [own_op.2 e2] at e; cases e
  unfold clsP
  rw [if_neg (by decide), if_neg h1, if_neg h2, if_neg h0]
  split
  ·rfl
  ·split <;> rfl
 ·unfold clsP
  rw [if_neg (by decide), if_neg h1, if_neg h2, if_pos (own_op.1 e), if_pos rfl]
  cases nameAt N s <;> rfl
def StopV (X : RdX) (w : World) (a : Nat) (O : List Nd) (oa : Option Addr) (oc : Nat) (e : Ending) (w' : World) : Prop :=
 e = .returned (.bool false) ∧ RdS X w' a O oa oc (stopAt X a).1 (stopAt X a).2 ∧ RdG X.g w w' (Value.slice oa O.length oc).ownBlock (Value.slice oa O.length oc).ownBlock
theorem RdS.put {X : RdX} {w w' : World} {a : Nat} {O : List Nd} {oa : Option Addr} {oc : Nat} {pl wy pl' wy' : Int} (h : RdS X w a O oa oc pl wy) (hX : RdOk X) (q : RowAt w' X.g TRd (rdV X a O.length oa oc pl' wy')) (k : Keeps w w' (fun j => j = X.g)) : RdS X w' a O oa oc pl' wy' :=
 ⟨q, OwnR.keeps h.own k (fun j hj e => h.ap j hj e), h.ap, k.below h.bel (fun j e => by rw [e]; exact hX.gB), h.le⟩
set_option maxRecDepth 8000 in
set_option maxHeartbeats 8000000 in
theorem stop_any (X : RdX) (hX : RdOk X) (w : World) (a : Nat) (O : List Nd) (oa : Option Addr) (oc : Nat) (h : RdS X w a O oa oc 0 0) :
  Calls Tryz.prog 12 #[.pointer (some ⟨X.g, 0, none⟩)] w fun e w' => StopV X w a O oa oc e w' := by
 have c0 : w.cell? ⟨X.g, 0, none⟩ = some (.slice X.la X.T.length X.lc) := h.box.cell 0
 have c1 : w.cell? ⟨X.g, 1, none⟩ = some (.int .i64 (a : Int)) := h.box.cell 1
 have c5 : w.cell? ⟨X.g, 5, none⟩ = some (.int .i64 0) := h.box.cell 5
 have htk := hX.toks.below h.bel
 have hal := h.le.2
 have htl := hX.tl
 obtain ⟨sp, hsp⟩ : ∃ sp, sp = stopAt X a := ⟨_, rfl⟩
 have hsp0 := Lib.hid hsp
 have FIN : Hid (∀ v (v' : World), Below w.heap.size w v → RowAt v' X.g TRd (rdV X a O.length oa oc sp.1 sp.2) → Keeps v v' (fun j => j = X.g) → StopV X w a O oa oc (.returned (.bool false)) v') := fun v v' hb q k => by
  have h1 := (h.below hb).put hX q k
  rw [hsp] at h1
  exact ⟨rfl, h1, (RdG.below hb).trans ⟨(Keeps.refl _ _).trans k (fun j _ e => .inl e), fun j e => .inl e⟩⟩
 unfold stopAt at hsp
 have BX : Hid (∀ v, Below w.heap.size w v → RowAt v X.g TRd (rdV X a O.length oa oc 0 0)) := fun v hb => h.box.below hb
 obtain ⟨n, hn⟩ : ∃ n, n = X.T.length := ⟨_, rfl⟩
 have hnI : (n : Int) ≤ 6000 := by omega
 rw [← hn] at c0
 by_cases hl : a < X.T.length
 ·have hlI : (a : Int) < (n : Int) := by omega
  have hlB : decide (n ≤ a) = false := decide_eq_false (by omega)
  obtain ⟨b, off, ea, hbl, hc⟩ := htk (by omega)
  have SGT := hc a hl
  have TI := hX.ti X.T[a] (List.getElem_mem hl)
  rw [List.getElem?_eq_getElem hl] at hsp
  generalize X.T[a] = t at SGT hsp TI
  obtain ⟨tk, tn, ta, tt⟩ := t
  dsimp only at SGT hsp TI
  obtain ⟨ts, hts⟩ : ∃ ts : ByteArray, ts = ⟨tt.toArray⟩ := ⟨_, rfl⟩
  rw [← hts] at SGT
  have htd : ts.data.toList = tt := by rw [hts]
  have OW := Lib.hid (fun v (hb : Below w.heap.size w v) => own_word v (hX.door.below (h.bel.trans (hb.mono h.bel.size))) ts)
  rw [htd] at OW
  have NP : Hid (∀ v, Below w.heap.size w v → ∀ v', RowAt v' X.g TRd (rdV X a O.length oa oc (ta : Int) 3) → Keeps v v' (fun j => j = X.g) → Calls Tryz.prog 30 #[.pointer (some ⟨X.g, 0, none⟩), .string ts] v' fun e w' => NameW (nameAt X.N tt) e ∧ Below v'.heap.size v' w') := fun v hb v' q k => by
   have h1 := name_place X hX v' a O oa oc (ta : Int) 3 ((h.below hb).put hX q k) ts
   rw [htd] at h1
   exact h1
  have OW8 : Hid (∀ v, Below w.heap.size w v → ∀ v', RowAt v' X.g TRd (rdV X a O.length oa oc (ta : Int) 3) → Keeps v v' (fun j => j = X.g) → Calls Tryz.prog 29 #[.string ts] v' fun e w' => e = .returned (.bool (ownF.contains tt)) ∧ Below v'.heap.size v' w') := fun v hb v' q k => by
   have h1 := own_word v' (hX.door.below ((h.below hb).put hX q k).bel) ts
   rw [htd] at h1
   exact h1
  have NPX : Hid (∀ v, Below w.heap.size w v → ∀ v', RowAt v' X.g TRd (rdV X a O.length oa oc (ta : Int) 3) → Keeps v v' (fun j => j = X.g) → ∀ v2, Below v'.heap.size v' v2 → Calls Tryz.prog 30 #[.pointer (some ⟨X.g, 0, none⟩), .string ts] v2 fun e w' => NameW (nameAt X.N tt) e ∧ Below v2.heap.size v2 w') := fun v hb v' q k v2 hb2 => by
   have h1 := name_place X hX v2 a O oa oc (ta : Int) 3 (((h.below hb).put hX q k).below hb2) ts
   rw [htd] at h1
   exact h1
  have h0 : Hid (∀ v, Below w.heap.size w v → ∀ v', RowAt v' X.g TRd (rdV X a O.length oa oc (ta : Int) 3) → Keeps v v' (fun j => j = X.g) → RdS X v' a O oa oc (ta : Int) 3) := fun v hb v' q k => (h.below hb).put hX q k
  have hX2 := Lib.hid hX
  have EW := fun h1 => err_word (N := X.N) (s := tt) h1
  have hgw := h.box.lt
  rw [ea] at c0
  replace hn := Lib.hid hn
  replace SGT := Lib.hid SGT
  clear hl hc htk hal htl hts htd ea
  go_enter Tryz.func12, Tryz.ntmps12
  go_wp2
  go_quiet (fail)
  go_wp2
  go_upto_region 6 with (fail)
  refine wp_region_kp (by kernel_rfl) 11 [.fix (.pointer (some ⟨X.g, 0, none⟩)), .fix (.pointer (some ⟨X.g, 0, none⟩)), .fix (.pointer (some ⟨X.g, 0, none⟩)), .fix (.slice (some ⟨b, off, none⟩) n X.lc), .fix (.pointer (some ⟨X.g, 0, none⟩)), .fix (.pointer (some ⟨X.g, 0, none⟩)), .fix (.pointer (some ⟨X.g, 1, none⟩)), .fix (.int .i64 (a : Int)), .fix (.pointer (some ⟨b, off + a * 4, none⟩)), .fix (.agg #[.int .i64 (tk : Int), .int .i64 tn, .int .i64 (ta : Int), .string ts]), Kp.box w.heap.size TTok [.int .i64 0, .int .i64 0, .int .i64 0, .string ⟨#[]⟩]] (by kernel_rfl) (by kernel_rfl) (by kernel_rfl) ?_ ?_
  ·intro i hi
   match i, hi with
   | 0, _ =>
    intro o ho ac w' hR hF hD K hK
    simp only [zqA, zqZ, zqI] at ho
    subst ho
    have e0 : ac.tmps.getD 0 undef = .pointer (some ⟨X.g, 0, none⟩) := hF 0 (znd (by kernel_rfl))
    have d0 := zgD e0
    clear hD hF
    go_simp
    exact hK _ _ (Below.refl _ _) rfl
   | 1, _ =>
    intro o ho ac w' hR hF hD K hK
    simp only [zqA, zqZ, zqS, zqI] at ho
    subst ho
    have e31 : ac.tmps.getD 31 undef = .pointer (some ⟨X.g, 0, none⟩) := hD 0 (zdp (by kernel_rfl)) 31 rfl
    have d31 := zgD e31
    clear hD hF
    go_simp
    exact hK _ _ (Below.refl _ _) rfl
   | 2, _ =>
    intro o ho ac w' hR hF hD K hK
    simp only [zqA, zqZ, zqS, zqI] at ho
    subst ho
    have e32 : ac.tmps.getD 32 undef = .pointer (some ⟨X.g, 0, none⟩) := hD 1 (zdp (by kernel_rfl)) 32 rfl
    have d32 := zgD e32
    clear hD hF
    go_simp
    exact hK _ _ (Below.refl _ _) rfl
   | 3, _ =>
    intro o ho ac w' hR hF hD K hK
    simp only [zqA, zqZ, zqS, zqI] at ho
    subst ho
    have e33 : ac.tmps.getD 33 undef = .pointer (some ⟨X.g, 0, none⟩) := hD 2 (zdp (by kernel_rfl)) 33 rfl
    have d33 := zgD e33
    clear hD hF
    have q0 : w'.cell? ⟨X.g, 0, none⟩ = some (.slice (some ⟨b, off, none⟩) n X.lc) := bcell (btrans (bdrewN (Below.refl _ _) _) hR) c0
    go_simp
    exact hK _ _ (Below.refl _ _) rfl
   | 4, _ =>
    intro o ho ac w' hR hF hD K hK
    simp only [zqA, zqZ, zqS, zqI] at ho
    subst ho
    have e0 : ac.tmps.getD 0 undef = .pointer (some ⟨X.g, 0, none⟩) := hF 0 (znd (by kernel_rfl))
    have d0 := zgD e0
    clear hD hF
    go_simp
    exact hK _ _ (Below.refl _ _) rfl
   | 5, _ =>
    intro o ho ac w' hR hF hD K hK
    simp only [zqA, zqZ, zqS, zqI] at ho
    subst ho
    have e35 : ac.tmps.getD 35 undef = .pointer (some ⟨X.g, 0, none⟩) := hD 4 (zdp (by kernel_rfl)) 35 rfl
    have d35 := zgD e35
    clear hD hF
    go_simp
    exact hK _ _ (Below.refl _ _) rfl
   | 6, _ =>
    intro o ho ac w' hR hF hD K hK
    simp only [zqA, zqZ, zqS, zqI] at ho
    subst ho
    have e36 : ac.tmps.getD 36 undef = .pointer (some ⟨X.g, 0, none⟩) := hD 5 (zdp (by kernel_rfl)) 36 rfl
    have d36 := zgD e36
    clear hD hF
    go_simp
    exact hK _ _ (Below.refl _ _) rfl
   | 7, _ =>
    intro o ho ac w' hR hF hD K hK
    simp only [zqA, zqZ, zqS, zqI] at ho
    subst ho
    have e37 : ac.tmps.getD 37 undef = .pointer (some ⟨X.g, 1, none⟩) := hD 6 (zdp (by kernel_rfl)) 37 rfl
    have d37 := zgD e37
    clear hD hF
    have q0 : w'.cell? ⟨X.g, 1, none⟩ = some (.int .i64 (a : Int)) := bcell (btrans (bdrewN (Below.refl _ _) _) hR) c1
    go_simp
    exact hK _ _ (Below.refl _ _) rfl
   | 8, _ =>
    intro o ho ac w' hR hF hD K hK
    simp only [zqA, zqZ, zqS, zqI] at ho
    subst ho
    have e34 : ac.tmps.getD 34 undef = .slice (some ⟨b, off, none⟩) n X.lc := hD 3 (zdp (by kernel_rfl)) 34 rfl
    have d34 := zgD e34
    have e38 : ac.tmps.getD 38 undef = .int .i64 (a : Int) := hD 7 (zdp (by kernel_rfl)) 38 rfl
    have d38 := zgD e38
    clear hD hF
    go_simp
    exact hK _ _ (Below.refl _ _) rfl
   | 9, _ =>
    intro o ho ac w' hR hF hD K hK
    simp only [zqA, zqZ, zqS, zqI] at ho
    subst ho
    have e39 : ac.tmps.getD 39 undef = .pointer (some ⟨b, off + a * 4, none⟩) := hD 8 (zdp (by kernel_rfl)) 39 rfl
    have d39 := zgD e39
    clear hD hF
    exact step_loadM undTok (l := [.int .i64 (tk : Int), .int .i64 tn, .int .i64 (ta : Int), .string ts]) (fun j u hj => bcell (btrans (bdrewN (Below.refl _ _) _) hR) (SGT.out j u hj)) rfl rfl 39 rfl e39 (hK _ _ (Below.refl _ _) rfl)
   | 10, _ =>
    intro o ho ac w' hR hF hD K hK
    simp only [zqA, zqZ, zqS, zqI] at ho
    subst ho
    clear hD hF
    go_simp
    exact hK _ _ (balloc (Below.refl _ _) _) ⟨w'.heap.size, rfl, hR.size, RowAt.new #[.int .i64 0, .int .i64 0, .int .i64 0, .string ⟨#[]⟩] rfl⟩
   | k + 11, hk => omega
  ·rintro ⟨tm, df⟩ w5 hdf hsz hF hR9 hV
   obtain rfl : df = [] := hdf
   obtain ⟨q, rfl⟩ := frame70 tm hsz
   have k40 : q 40 = .agg #[.int .i64 (tk : Int), .int .i64 tn, .int .i64 (ta : Int), .string ts] := hV 9 40 (by decide) rfl
   have h10 := hV 10 3 (by decide) rfl
   obtain ⟨gT, k3, hgT, r10⟩ := h10
   replace k3 : q 3 = _ := k3
   rw [k3]
   simp only [k40]
   clear k40
   have kk := zbk hF [0, 1, 2, 4, 5, 6, 7, 8, 9, 10, 11, 12, 13, 14, 15, 16, 17, 18, 19, 20, 21, 22, 23, 24, 25, 26, 27, 28, 29, 30, 41, 42, 43, 44, 45, 46, 47, 48, 49, 50, 51, 52, 53, 54, 55, 56, 57, 58, 59, 60, 61, 62, 63, 64, 65, 66, 67, 68, 69] (by kernel_rfl)
   simp only [Bk, Array.getD_eq_getD_getElem?, zqA, zqS, zqZ, Option.getD_some] at kk
   simp only [kk]
   clear kk
   clear hF hV hsz
   change wpAny _ _ _ _ 1 _ _ _
   refine wpAny_ready (rs := [11]) (by kernel_rfl) (by simp) ?_
   refine AllReady.cons (i := 11) rfl (fun K hK => ?_) AllReady.nil
   refine step_store infoTok r10 rfl rfl (tkV_one tk tn ta ts) rfl 3 40 rfl rfl rfl ?_
   intro w6 q6 k6
   refine hK _ _ ?_
   clear hK K
   refine ⟨by kernel_rfl, ?_⟩
   have b5 : Below w.heap.size w w5 := btrans (bdrewN (Below.refl _ _) _) hR9
   have hgT2 : w.heap.size ≤ gT := hgT
   have b6 : Below w.heap.size w w6 := k6.below b5 (fun j e => by rw [e]; exact hgT2)
   have q6g := BX.out w6 b6
   have t0 : w6.cell? ⟨gT, 0, none⟩ = some (.int .i64 (tk : Int)) := q6.cell 0
   have t2 : w6.cell? ⟨gT, 2, none⟩ = some (.int .i64 (ta : Int)) := q6.cell 2
   have p4 : w6.cell? ⟨X.g, 4, none⟩ = some (.int .i64 0) := q6g.cell 4
   have pf4 := q6g.free 4
   have hne : gT ≠ X.g := by omega
   replace hR9 := Lib.hid hR9
   replace b5 := Lib.hid b5
   replace b6 := Lib.hid b6
   clear k6 r10 c0 c1 c5
   go_upto_region 7 with (fail)
   refine wp_region_list ?_
   refine wpList_plain rfl (fun K hK => ?_)
   go_simp
   refine hK _ _ ?_
   clear hK K
   refine wpList_plain rfl (fun K hK => ?_)
   go_simp
   refine hK _ _ ?_
   clear hK K
   refine wpList_plain rfl (fun K hK => ?_)
   go_simp
   refine hK _ _ ?_
   clear hK K
   refine wpList_plain rfl (fun K hK => ?_)
   go_simp
   refine hK _ _ ?_
   clear hK K
   refine wpList_plain rfl (fun K hK => ?_)
   go_simp
   refine hK _ _ ?_
   clear hK K
   refine wpList_plain rfl (fun K hK => ?_)
   go_simp
   refine hK _ _ ?_
   clear hK K
   refine wpList_plain rfl (fun K hK => ?_)
   go_simp
   refine hK _ _ ?_
   clear hK K
   have q7 := q6g.set 4 (.int .i64 (ta : Int))
   have k7 : Keeps w6 (w6.setCell ⟨X.g, 4, none⟩ (.int .i64 (ta : Int))) (fun j => j = X.g) := Keeps.set _ _ _ _ rfl
   generalize w6.setCell ⟨X.g, 4, none⟩ (.int .i64 (ta : Int)) = w7 at q7 k7 ⊢
   have p5 : w7.cell? ⟨X.g, 5, none⟩ = some (.int .i64 0) := q7.cell 5
   have pf5 := q7.free 5
   clear p4 pf4 t0 t2
   refine wpList_plain rfl (fun K hK => ?_)
   go_simp
   refine hK _ _ ?_
   clear hK K
   refine wpList_plain rfl (fun K hK => ?_)
   go_simp
   refine hK _ _ ?_
   clear hK K
   refine wpList_plain rfl (fun K hK => ?_)
   go_simp
   refine hK _ _ ?_
   clear hK K
   have q8 := q7.set 5 (.int .i64 3)
   have k8 : Keeps w7 (w7.setCell ⟨X.g, 5, none⟩ (.int .i64 3)) (fun j => j = X.g) := Keeps.set _ _ _ _ rfl
   generalize w7.setCell ⟨X.g, 5, none⟩ (.int .i64 3) = w8 at q8 k8 ⊢
   refine wpList_nil ?_
   clear p5 pf5
   have q8' : RowAt w8 X.g TRd (rdV X a O.length oa oc (ta : Int) 3) := q8
   have k68 : Keeps w6 w8 (fun j => j = X.g) := k7.trans k8 (fun j _ e => e)
   have qT8 := q6.keeps k68 hne
   have t0 : w8.cell? ⟨gT, 0, none⟩ = some (.int .i64 (tk : Int)) := qT8.cell 0
   have t3 : w8.cell? ⟨gT, 3, none⟩ = some (.string ts) := qT8.cell 3
   have hgs : w.heap.size ≤ w8.heap.size := Nat.le_trans b6.out.size k68.size
   clear q7 k7 q8 k8 q6 q6g
   by_cases hk : tk = 1
   ·have hkB : ((tk : Int) == 1) = true := by rw [hk]; rfl
    have hkN : (tk == 1) = true := by rw [hk]; rfl
    obtain ⟨w1, w2⟩ := EW (TI hk)
    rw [hk] at hsp
    have NP1 := NP.out w6 b6.out w8 q8' k68
    have OW1 := OW8.out w6 b6.out w8 q8' k68
    have F1 := FIN.out w6 w8 b6.out
    replace NP1 := Lib.hid NP1
    cases hown : ownF.contains tt with
    | true =>
     rw [hown] at OW1
     have hs : sp = ((ta : Int), 3) := by rw [hsp, w1 hown]; rfl
     have q9 := q8'
     have fin : Hid (∀ v, Below w8.heap.size w8 v → StopV X w a O oa oc (.returned (.bool false)) v) := fun v hb => by
      have h1 := FIN.out w6 w8 b6.out (by rw [hs]; exact q9) k68
      exact ⟨rfl, h1.2.1.below hb, h1.2.2.trans (RdG.below hb)⟩
     clear F1 hsp hs q9 w1 w2 EW hown NP1 FIN
     replace OW1 := Lib.hid OW1
     go_wp2_with fail
     refine OW1.out.mono ?_
     rintro e w9 ⟨rfl, hb9⟩
     have hf := Lib.hid (fin.out w9 hb9)
     clear hb9 fin
     go_wp2
     go_ret
     exact hf.out
    | false =>
     rw [hown] at OW1
     have w3 := w2 hown
     replace OW1 := Lib.hid OW1
     have NPB : Hid (∀ v, Below w8.heap.size w8 v → RowAt v X.g TRd (rdV X a O.length oa oc (ta : Int) 3) ∧ Calls Tryz.prog 30 #[.pointer (some ⟨X.g, 0, none⟩), .string ts] v fun e w' => NameW (nameAt X.N tt) e ∧ Below v.heap.size v w') := fun v hb => ⟨q8'.below hb, NPX.out w6 b6.out w8 q8' k68 v hb⟩
     generalize nameAt X.N tt = nk at w3 NPB
     cases nk with
     | some k =>
      have hs : sp = ((ta : Int), 3) := by rw [hsp, w3]; rfl
      have fin : Hid (∀ v, Below w8.heap.size w8 v → StopV X w a O oa oc (.returned (.bool false)) v) := fun v hb => by
       have h1 := FIN.out w6 w8 b6.out (by rw [hs]; exact q8') k68
       exact ⟨rfl, h1.2.1.below hb, h1.2.2.trans (RdG.below hb)⟩
      clear F1 hsp hs w1 w2 EW hown NP1 FIN w3
      go_wp2_with fail
      refine OW1.out.mono ?_
      rintro e w9 ⟨rfl, hb9⟩
      have t3 : w9.cell? ⟨gT, 3, none⟩ = some (.string ts) := bcell hb9 t3
      obtain ⟨_, N9⟩ := NPB.out w9 hb9
      replace N9 := Lib.hid N9
      replace hb9 := Lib.hid hb9
      go_wp2_with fail
      refine N9.out.mono ?_
      rintro e wa ⟨hnw, hba⟩
      obtain rfl : e = .returned (.tuple #[.int .i64 (k : Int), .bool true]) := hnw
      have hf := Lib.hid (fin.out wa (btrans hb9.out hba))
      clear hba fin
      go_wp2
      go_ret
      exact hf.out
     | none =>
      have hs : sp = ((ta : Int), 8) := by rw [hsp, w3]; rfl
      have fin : Hid (∀ v v', Below w8.heap.size w8 v → RowAt v' X.g TRd (rdV X a O.length oa oc (ta : Int) 8) → Keeps v v' (fun j => j = X.g) → StopV X w a O oa oc (.returned (.bool false)) v') := fun v v' hb q k => by
       have h1 := (h0.out w6 b6.out w8 q8' k68).below hb
       have h2 := h1.put hX2.out q k
       rw [show (ta : Int) = sp.1 by rw [hs], show (8 : Int) = sp.2 by rw [hs], hsp0.out] at h2
       exact ⟨rfl, h2, ((RdG.below b6.out).trans ⟨(Keeps.refl _ _).trans k68 (fun j _ e => .inl e), fun j e => .inl e⟩).trans ((RdG.below hb).trans ⟨(Keeps.refl _ _).trans k (fun j _ e => .inl e), fun j e => .inl e⟩)⟩
      clear F1 hsp hs w1 w2 EW hown NP1 FIN w3
      go_wp2_with fail
      refine OW1.out.mono ?_
      rintro e w9 ⟨rfl, hb9⟩
      have t3 : w9.cell? ⟨gT, 3, none⟩ = some (.string ts) := bcell hb9 t3
      obtain ⟨q9, N9⟩ := NPB.out w9 hb9
      replace N9 := Lib.hid N9
      replace hb9 := Lib.hid hb9
      go_wp2_with fail
      refine N9.out.mono ?_
      rintro e wa ⟨hnw, hba⟩
      obtain ⟨ni, rfl⟩ : ∃ i : Int, e = .returned (.tuple #[.int .i64 i, .bool false]) := hnw
      have qa := q9.below hba
      have pa5 : wa.cell? ⟨X.g, 5, none⟩ = some (.int .i64 3) := qa.cell 5
      have paf := qa.free 5
      have zba := Lib.hid (btrans hb9.out hba)
      clear hba q9
      go_wp2
      have hf := fin.out wa (wa.setCell ⟨X.g, 5, none⟩ (.int .i64 8)) zba.out (qa.set 5 _) (Keeps.set _ _ _ _ rfl)
      replace hf := Lib.hid hf
      go_ret
      exact hf.out
   ·have hkB : ((tk : Int) == 1) = false := by rw [beq_eq_false_iff_ne]; omega
    have hkN : (tk == 1) = false := by rw [beq_eq_false_iff_ne]; exact hk
    have hs : sp = ((ta : Int), 3) := by rw [hsp, err_other hk]; rfl
    have fin := Lib.hid (FIN.out w6 w8 b6.out (by rw [hs]; exact q8') k68)
    clear hsp hs EW TI hk NP OW
    go_wp2
    go_ret
    exact fin.out
 ·have hlI : ¬ (a : Int) < (n : Int) := by omega
  have hlB : decide (n ≤ a) = true := decide_eq_true (by omega)
  have hlI2 : (n : Int) ≤ (a : Int) := by omega
  rw [List.getElem?_eq_none (by omega)] at hsp
  have c3 : w.cell? ⟨X.g, 3, none⟩ = some (.int .i64 (X.en : Int)) := h.box.cell 3
  have p4 : w.cell? ⟨X.g, 4, none⟩ = some (.int .i64 0) := h.box.cell 4
  have pf4 := h.box.free 4
  have hs1 : sp.1 = (X.en : Int) := by rw [hsp]
  have hs2 : sp.2 = 4 := by rw [hsp]
  rw [hs1, hs2] at FIN
  replace hn := Lib.hid hn
  clear hl htk hal htl hX h hsp hs1 hs2
  go_enter Tryz.func12, Tryz.ntmps12
  go_wp2
  go_quiet (fail)
  obtain ⟨wq, hwq⟩ : ∃ wq, wq = w.drewN nq := ⟨_, rfl⟩
  have bq : Below w.heap.size w wq := by rw [hwq]; exact bdrewN (Below.refl _ _) _
  rw [← hwq]
  have qg := BX.out wq bq
  have c3 : wq.cell? ⟨X.g, 3, none⟩ = some (.int .i64 (X.en : Int)) := bcell bq c3
  have p4 : wq.cell? ⟨X.g, 4, none⟩ = some (.int .i64 0) := qg.cell 4
  have pf4 := qg.free 4
  replace hwq := Lib.hid hwq
  replace bq := Lib.hid bq
  go_upto_region 4 with (fail)
  refine wp_region_list ?_
  refine wpList_plain rfl (fun K hK => ?_)
  go_simp
  refine hK _ _ ?_
  clear hK K
  refine wpList_plain rfl (fun K hK => ?_)
  go_simp
  refine hK _ _ ?_
  clear hK K
  refine wpList_plain rfl (fun K hK => ?_)
  go_simp
  refine hK _ _ ?_
  clear hK K
  refine wpList_plain rfl (fun K hK => ?_)
  go_simp
  refine hK _ _ ?_
  clear hK K
  refine wpList_plain rfl (fun K hK => ?_)
  go_simp
  refine hK _ _ ?_
  clear hK K
  refine wpList_plain rfl (fun K hK => ?_)
  go_simp
  refine hK _ _ ?_
  clear hK K
  refine wpList_plain rfl (fun K hK => ?_)
  go_simp
  refine hK _ _ ?_
  clear hK K
  refine wpList_plain rfl (fun K hK => ?_)
  go_simp
  refine hK _ _ ?_
  clear hK K
  refine wpList_plain rfl (fun K hK => ?_)
  go_simp
  refine hK _ _ ?_
  clear hK K
  have q7 := qg.set 4 (.int .i64 (X.en : Int))
  have k7 : Keeps wq (wq.setCell ⟨X.g, 4, none⟩ (.int .i64 (X.en : Int))) (fun j => j = X.g) := Keeps.set _ _ _ _ rfl
  generalize wq.setCell ⟨X.g, 4, none⟩ (.int .i64 (X.en : Int)) = w7 at q7 k7 ⊢
  have p5 : w7.cell? ⟨X.g, 5, none⟩ = some (.int .i64 0) := q7.cell 5
  have pf5 := q7.free 5
  clear p4 pf4 c3
  refine wpList_plain rfl (fun K hK => ?_)
  go_simp
  refine hK _ _ ?_
  clear hK K
  refine wpList_plain rfl (fun K hK => ?_)
  go_simp
  refine hK _ _ ?_
  clear hK K
  refine wpList_plain rfl (fun K hK => ?_)
  go_simp
  refine hK _ _ ?_
  clear hK K
  have q8 := q7.set 5 (.int .i64 4)
  have k8 : Keeps w7 (w7.setCell ⟨X.g, 5, none⟩ (.int .i64 4)) (fun j => j = X.g) := Keeps.set _ _ _ _ rfl
  generalize w7.setCell ⟨X.g, 5, none⟩ (.int .i64 4) = w8 at q8 k8 ⊢
  refine wpList_nil ?_
  have fin := Lib.hid (FIN.out wq w8 bq.out q8 (k7.trans k8 (fun j _ e => e)))
  clear p5 pf5 q7 k7 q8 k8 c0 c1 c5
  go_wp2
  go_ret
  exact fin.out
end Go.Proofs.YtkehfolcfcbplaaGreatDoor
