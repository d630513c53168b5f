/- What binds most is read, walked. Conditions: what joint does, with fewer steps. -/
import Derived.Test.YtkehfolcfcbplaaGreatDoorSLtR5
import Derived.Test.YtkehfolcfcbplaaGreatDoorSFreeW
namespace Go.Proofs.YtkehfolcfcbplaaGreatDoor
open Go.RowKit
set_option linter.unusedVariables false
set_option linter.unusedSimpArgs false
theorem frameL116 (arr : Array Value) (h : arr.size = 116) : ∃ q : Nat → Value, arr = #[q 0, q 1, q 2, q 3, q 4, q 5, q 6, q 7, q 8, q 9, q 10, q 11, q 12, q 13, q 14, q 15, q 16, q 17, q 18, q 19, q 20, q 21, q 22, q 23, q 24, q 25, q 26, q 27, q 28, q 29, q 30, q 31, q 32, q 33, q 34, q 35, q 36, q 37, q 38, q 39, q 40, q 41, q 42, q 43, q 44, q 45, q 46, q 47, q 48, q 49, q 50, q 51, q 52, q 53, q 54, q 55, q 56, q 57, q 58, q 59, q 60, q 61, q 62, q 63, q 64, q 65, q 66, q 67, q 68, q 69, q 70, q 71, q 72, q 73, q 74, q 75, q 76, q 77, q 78, q 79, q 80, q 81, q 82, q 83, q 84, q 85, q 86, q 87, q 88, q 89, q 90, q 91, q 92, q 93, q 94, q 95, q 96, q 97, q 98, q 99, q 100, q 101, q 102, q 103, q 104, q 105, q 106, q 107, q 108, q 109, q 110, q 111, q 112, q 113, q 114, q 115] := by
 refine ⟨fun i => arr.toList.getD i undef, ?_⟩
 have h1 := list_getN (l := arr.toList) (n := 116) (by simpa using h)
 apply Array.ext'
 exact h1
structure LfS (C : List Cls) (a n : Nat) (R : Res) : Prop where
 un : ∀ op, C[a]? = some (.un op) → ∃ Q, prs n .leaf (C.drop (a + 1)) = some Q ∧ (∀ t r, Q = .ok t r → R = .ok (.un (op, 0) t) r) ∧ (∀ r, Q = .no r → R = .no r)
 con : ∀ op, C[a]? = some (.con op) → R = .ok (.leaf (op, 0)) (C.drop (a + 1))
 prop : ∀ i, C[a]? = some (.prop i) → R = .ok (.leaf (3, (i : Int))) (C.drop (a + 1))
 lp : C[a]? = some .lp → ∃ Q, prs n (.joint 1) (C.drop (a + 1)) = some Q ∧ (∀ t r, Q = .ok t (.rp :: r) → R = .ok t r) ∧ (∀ t r, Q = .ok t r → (∀ r', r ≠ .rp :: r') → R = .no r) ∧ (∀ r, Q = .no r → R = .no r)
 rest : (∀ op, C[a]? ≠ some (.un op)) → (∀ op, C[a]? ≠ some (.con op)) → (∀ i, C[a]? ≠ some (.prop i)) → C[a]? ≠ some .lp → R = .no (C.drop a)
theorem leaf_step {C : List Cls} {a n : Nat} {R : Res} (h : prs (n + 1) .leaf (C.drop a) = some R) : LfS C a n R := by
 change stepLeaf (prs n) (C.drop a) = some R at h
 by_cases ha : a < C.length
 ·rw [List.drop_eq_getElem_cons ha] at h
  have hc : C[a]? = some C[a] := List.getElem?_eq_getElem ha
  have hd : C.drop a = C[a] :: C.drop (a + 1) := List.drop_eq_getElem_cons ha
  generalize C[a] = c at h hc hd
  refine ⟨fun op e => ?_, fun op e => ?_, fun i e => ?_, fun e => ?_, fun e1 e2 e3 e4 => ?_⟩
  ·rw [hc] at e
   cases e
   change (match prs n .leaf (C.drop (a + 1)) with | some (.ok t r') => some (.ok (.un (op, 0) t) r') | x => x) = some R at h
   cases hq : prs n .leaf (C.drop (a + 1)) with
   | none => rw [hq] at h; cases h
   | some Q =>
    rw [hq] at h
    refine ⟨Q, rfl, fun t r e => ?_, fun r e => ?_⟩ <;> (subst e; exact (Option.some.inj h).symm)
  ·rw [hc] at e
   cases e
   exact (Option.some.inj h).symm
  ·rw [hc] at e
   cases e
   exact (Option.some.inj h).symm
  ·rw [hc] at e
   cases e
   change (match prs n (.joint 1) (C.drop (a + 1)) with | some (.ok t (.rp :: r')) => some (.ok t r') | some (.ok t r') => some (.no r') | x => x) = some R at h
   cases hq : prs n (.joint 1) (C.drop (a + 1)) with
   | none => rw [hq] at h; cases h
   | some Q =>
    rw [hq] at h
    refine ⟨Q, rfl, fun t r e => ?_, fun t r e hne => ?_, fun r e => ?_⟩
    ·subst e; exact (Option.some.inj h).symm
    ·subst e
     cases r with
     | nil => exact (Option.some.inj h).symm
     | cons c r =>
      cases c with
      | rp => exact absurd rfl (hne r)
      | _ => exact (Option.some.inj h).symm
    ·subst e; exact (Option.some.inj h).symm
  ·rw [hc] at e1 e2 e3 e4
   rw [hd]
   cases c with
   | un op => exact absurd rfl (e1 op)
   | con op => exact absurd rfl (e2 op)
   | prop i => exact absurd rfl (e3 i)
   | lp => exact absurd rfl e4
   | _ => exact (Option.some.inj h).symm
 ·have hc : C[a]? = none := List.getElem?_eq_none (by omega)
  have hd : C.drop a = [] := List.drop_of_length_le (by omega)
  rw [hd] at h
  refine ⟨fun op e => (by rw [hc] at e; cases e), fun op e => (by rw [hc] at e; cases e), fun i e => (by rw [hc] at e; cases e), fun e => (by rw [hc] at e; cases e), fun _ _ _ _ => ?_⟩
  rw [hd]
  exact (Option.some.inj h).symm
theorem cls_len (N : List (List UInt8)) (T : List Tk) : (clsL N T).length = T.length := by unfold clsL; rw [List.length_map]
def opN : Nat → Nat
 | 0 => 4
 | 1 => 8
 | 2 => 11
 | _ => 12
theorem opN_ok (i : Nat) : opN i < 13 ∧ takesP (opN i : Int) = 1 := by
 match i with
 | 0 => decide
 | 1 => decide
 | 2 => decide
 | i + 3 => exact (by decide : (12 : Nat) < 13 ∧ takesP ((12 : Nat) : Int) = 1)
theorem opN_all {op : Int} (h : takesP op = 1) : ∃ i, i < 4 ∧ op = (opN i : Int) := by
 unfold takesP at h
 split at h
 ·cases h
 ·split at h
  ·rename_i h1
   rcases h1 with rfl | rfl | rfl | rfl
   ·exact ⟨0, by decide, rfl⟩
   ·exact ⟨1, by decide, rfl⟩
   ·exact ⟨2, by decide, rfl⟩
   ·exact ⟨3, by decide, rfl⟩
  ·split at h <;> cases h
theorem run_index_ops (w : World) (T : Nat) (hT : Tryz.prog.underlying T = some (.array 4 3)) (i : Nat) (hi : i < 4) : (Instr.index T (.agg #[.int .i64 4, .int .i64 8, .int .i64 11, .int .i64 12]) (.int .i64 (i : Int))).run Tryz.prog w = .ok (.int .i64 (opN i : Int)) w := by
 have z := Tryz.sizeOf3
 have a := Tryz.isAgg3
 match i, hi with
 | 0, _ => simp [Instr.index, run_underlying hT, asIntOf, go_sem, z, a, part, opN]
 | 1, _ => simp [Instr.index, run_underlying hT, asIntOf, go_sem, z, a, part, opN]
 | 2, _ => simp [Instr.index, run_underlying hT, asIntOf, go_sem, z, a, part, opN]
 | 3, _ => simp [Instr.index, run_underlying hT, asIntOf, go_sem, z, a, part, opN]
theorem way_word {w : World} (hd : Door w) {i : Nat} : w.cell? ⟨0, opN i * 4, none⟩ = some (.string ⟨(wordP (opN i : Int)).toArray⟩) := by
 have h := opN_ok i
 obtain ⟨k, e1, e2, e3⟩ := way_at (op := (opN i : Int)) (by omega)
 have : k = opN i := by omega
 subst this
 have h1 := hd.way e2 e3 0 (.string ⟨(wordP (opN i : Int)).toArray⟩) rfl
 exact h1
def Kp.tupF : Kp := ⟨fun v _ => ∃ i : Int, v = .tuple #[.int .i64 i, .bool false], fun _ _ _ h _ => h⟩
def Kp.intE : Kp := ⟨fun v _ => ∃ i : Int, v = .int .i64 i, fun _ _ _ h _ => h⟩
theorem RdP.okI {X : RdX} {w w' : World} {a' : Nat} {O : List Nd} {oa oa' : Option Addr} {oc oc' : Nat} {t : Fm} {r : List Cls} {O' : List Nd} (hO : O' = O ++ t.post) (ha : a' = X.T.length - r.length) (h : RdS X w' a' O' oa' oc' 0 0) (g : RdG X.g w w' (Value.slice oa O.length oc).ownBlock (Value.slice oa' O'.length oc').ownBlock) : RdP X (.ok t r) w O oa oc (.returned (.bool true)) w' := by
 subst hO; subst ha
 exact ⟨rfl, oa', oc', h, g⟩
theorem RdP.noI {X : RdX} {w w' : World} {a' : Nat} {O O' : List Nd} {oa oa' : Option Addr} {oc oc' : Nat} {r : List Cls} {pl wy : Int} (hp : (pl, wy) = stopAt X (X.T.length - r.length)) (h : RdS X w' a' O' oa' oc' pl wy) (g : RdG X.g w w' (Value.slice oa O.length oc).ownBlock (Value.slice oa' O'.length oc').ownBlock) : RdP X (.no r) w O oa oc (.returned (.bool false)) w' := by
 refine ⟨rfl, a', O', oa', oc', ?_, g⟩
 rw [← hp]
 exact h
set_option maxRecDepth 20000 in
set_option maxHeartbeats 16000000 in
theorem leaf_any (X : RdX) (hX : RdOk X) (n : Nat) (IL : RdLeaf X n) (IJ : RdJoint X n) : RdLeaf X (n + 1) := by
 intro R a w O oa oc hp h
 have LS := leaf_step hp
 have hCl := cls_len X.N X.T
 have LFT := fun (m : Md) Q (hm : goodM m) hq => left_suf (prs_left (n := n) (m := m) (rem := (clsL X.N X.T).drop (a + 1)) (R := Q) hm hq)
 have IB : Hid (∀ op, (takesP op = 0 ∧ op ≠ 3 ∨ takesP op = 1 ∨ takesP op = 2) → (isB X.T a (wordP op) = true ↔ (clsL X.N X.T)[a]? = some (opC op))) := fun op h => isB_opC h
 have BR : Hid ((isB X.T a [40] = true ↔ (clsL X.N X.T)[a]? = some .lp)) := isB_br.1
 have BR2 : Hid (∀ a', isB X.T a' [41] = true ↔ (clsL X.N X.T)[a']? = some .rp) := fun a' => isB_br.2
 have SZ : Hid (∀ m Q t r, prs n m ((clsL X.N X.T).drop (a + 1)) = some Q → Q = .ok t r → SizeP m ((clsL X.N X.T).drop (a + 1)) t r) := fun m Q t r hq e => by rw [e] at hq; exact prs_size n m _ t r hq
 have DROP : Hid (((clsL X.N X.T).drop (a + 1)).length = X.T.length - (a + 1)) := by show _ = _; rw [List.length_drop, hCl]
 have HX := Lib.hid hX
 have TK : Hid (∀ v, RdS X v a O oa oc 0 0 → ∀ s : ByteArray, Calls Tryz.prog 53 #[.pointer (some ⟨X.g, 0, none⟩), .string s] v fun e w' => TakeV X v a O oa oc 0 0 (isB X.T a s.data.toList) e w') := fun v hv s => take_any X hX v a O oa oc 0 0 hv s
 have PUT : Hid (∀ v a' O' oa' oc', RdS X v a' O' oa' oc' 0 0 → O'.length < a' → ∀ op k : Int, Calls Tryz.prog 28 #[.pointer (some ⟨X.g, 0, none⟩), .int .i64 op, .int .i64 k] v fun e w' => PutV X v a' O' oa' oc' (op, k) e w') := fun v a' O' oa' oc' hv hl op k => put_any X hX v a' O' oa' oc' hv hl op k
 have STP : Hid (∀ v a', RdS X v a' O oa oc 0 0 → Calls Tryz.prog 12 #[.pointer (some ⟨X.g, 0, none⟩)] v fun e w' => StopV X v a' O oa oc e w') := fun v a' hv => stop_any X hX v a' O oa oc hv
 have IXR : Hid (∀ i : Nat, i < 4 → ∀ v, (Instr.index 85 (.agg #[.int .i64 4, .int .i64 8, .int .i64 11, .int .i64 12]) (.int .i64 (i : Int))).run Tryz.prog v = .ok (.int .i64 (opN i : Int)) v) := fun i hi v => run_index_ops v 85 Tryz.underlying85 i hi
 have ILH := Lib.hid IL
 have IJH := Lib.hid IJ
 have hle := Lib.hid h.le
 have G0 : Hid (RdG X.g w w (Value.slice oa O.length oc).ownBlock (Value.slice oa O.length oc).ownBlock) := RdG.refl _ _ _
 have A0 : Hid (∀ i, i < 0 → isB X.T a (wordP (opN i : Int)) = false) := fun i h => by omega
 replace h := Lib.hid h
 replace LS := Lib.hid LS
 replace hCl := Lib.hid hCl
 replace LFT := Lib.hid LFT
 clear hp hX IL IJ
 go_enter Tryz.func24, Tryz.ntmps24
 go_wp2
 go_loopw [2, 8] (fun rv iv wr => ∃ i : Nat, rv = .bool false ∧ iv = .int .i64 (i : Int) ∧ i ≤ 4 ∧ Hid (∀ j, j < i → isB X.T a (wordP (opN j : Int)) = false) ∧ Hid (RdS X wr a O oa oc 0 0) ∧ Hid (RdG X.g w wr (Value.slice oa O.length oc).ownBlock (Value.slice oa O.length oc).ownBlock)) (fun _ iv _ => 4 - (intOf iv).toNat)
 case atStart => exact ⟨0, rfl, rfl, Nat.zero_le _, A0, h, G0⟩
 case round =>
  obtain ⟨i, rfl, rfl, hi, hno, rs, gr⟩ := hrel
  clear A0 h G0
  by_cases hl : i < 4
  ·have hlI : (i : Int) < 4 := by omega
   have hix := IXR.out i hl
   obtain ⟨o1, o2⟩ := opN_ok i
   have wd0 := way_word (HX.out.door.below rs.out.bel) (i := i)
   have IBi := IB.out (opN i : Int) (.inr (.inl o2))
   have T1 := TK.out wr rs.out ⟨(wordP (opN i : Int)).toArray⟩
   have hopc : opC (opN i : Int) = .un (opN i : Int) := by unfold opC; rw [if_neg (by omega), if_pos o2]
   rw [hopc] at IBi
   change Calls _ _ _ _ fun e w' => TakeV X wr a O oa oc 0 0 (isB X.T a (wordP (opN i : Int))) e w' at T1
   have hno2 : isB X.T a (wordP (opN i : Int)) = false → ∀ j, j < i + 1 → isB X.T a (wordP (opN j : Int)) = false := fun e j hj => by
    by_cases ej : j = i
    ·subst ej; exact e
    ·exact hno.out j (by omega)
   generalize isB X.T a (wordP (opN i : Int)) = bv at T1 IBi hno2
   generalize (⟨(wordP (opN i : Int)).toArray⟩ : ByteArray) = wd at wd0 T1
   obtain ⟨on, hon⟩ : ∃ on, on = opN i := ⟨_, rfl⟩
   rw [← hon] at hix wd0 IBi o1
   have honI : (on : Int) < 13 := by omega
   replace hon := Lib.hid hon
   replace IBi := Lib.hid IBi
   replace hno2 := Lib.hid hno2
   replace T1 := Lib.hid T1
   clear hopc o1 o2 IXR
   cases bv with
   | true =>
    have hun := IBi.out.1 rfl
    obtain ⟨Q, hq, hQ1, hQ2⟩ := LS.out.un _ hun
    have hlt : a < X.T.length := by have := (List.getElem?_eq_some_iff.1 hun).1; have := hCl.out; omega
    have hlo := LFT.out .leaf Q trivial hq
    have hsz := SZ.out .leaf Q
    go_wp2_with fail
    refine T1.out.mono ?_
    rintro e w2 ⟨rfl, rs2, gr2⟩
    rw [if_pos rfl] at rs2
    have I1 := ILH.out Q (a + 1) w2 O oa oc hq rs2
    have g2 := Lib.hid (gr.out.trans gr2)
    clear wd0 hix T1 IBi hno2 hno gr gr2 rs
    cases Q with
    | ok t r =>
     have hR := hQ1 t r rfl
     have hs1 : t.post.length + r.length ≤ ((clsL X.N X.T).drop (a + 1)).length := hsz t r hq rfl
     rw [DROP.out] at hs1
     have hrl := (suf_drop (hlo.1 t r rfl) rfl).2
     rw [hCl.out] at hrl
     have hR2 := Lib.hid hR
     have hle1 := hle.out
     have hOl : (O ++ t.post).length < X.T.length - r.length := by rw [List.length_append]; omega
     replace hOl := Lib.hid hOl
     replace I1 := Lib.hid I1
     clear hQ1 hQ2 hq hun hlt hlo hsz hs1 hrl hR hle1 rs2
     go_wp2_with fail
     refine I1.out.mono ?_
     rintro e w3 ⟨rfl, oa3, oc3, rs3, gr3⟩
     have P1 := Lib.hid (PUT.out w3 _ _ oa3 oc3 rs3 hOl.out (on : Int) 0)
     have g3 := Lib.hid (g2.out.trans gr3)
     clear rs3 gr3 I1 g2
     go_wp2_with fail
     refine P1.out.mono ?_
     rintro e w4 ⟨rfl, oa4, oc4, rs4, gr4⟩
     have fin : Hid (RdP X R w O oa oc (.returned (.bool true)) w4) := by
      show RdP _ _ _ _ _ _ _ _
      rw [hR2.out]
      exact RdP.okI (by rw [Fm.post, List.append_assoc]) rfl rs4 (g3.out.trans gr4)
     clear rs4 gr4 P1 g3
     go_wp2
     go_ret
     exact fin.out
    | no r =>
     have hR2 := Lib.hid (hQ2 r rfl)
     replace I1 := Lib.hid I1
     clear hQ1 hQ2 hq hun hlt hlo hsz rs2
     go_wp2_with fail
     refine I1.out.mono ?_
     rintro e w3 ⟨rfl, a3, O3, oa3, oc3, rs3, gr3⟩
     have fin : Hid (RdP X R w O oa oc (.returned (.bool false)) w3) := by
      show RdP _ _ _ _ _ _ _ _
      rw [hR2.out]
      exact RdP.noI rfl rs3 (g2.out.trans gr3)
     clear rs3 gr3 I1 g2
     go_wp2
     go_ret
     exact fin.out
   | false =>
    have hno3 := Lib.hid (hno2.out rfl)
    clear hno2 hno IBi
    go_wp2_with fail
    refine T1.out.mono ?_
    rintro e w2 ⟨rfl, rs2, gr2⟩
    have rs3 : Hid (RdS X w2 a O oa oc 0 0) := rs2
    have gr3 := Lib.hid (gr.out.trans gr2)
    clear rs2 gr2 gr rs wd0 hix T1
    go_wp2
    go_roundw
    case rel => exact ⟨i + 1, rfl, by go_num, by omega, hno3, rs3, gr3⟩
    case measure => simp [intOf]; omega
  ·have hlI : ¬ (i : Int) < 4 := by omega
   have h4 : i = 4 := by omega
   have hU : ∀ op, (clsL X.N X.T)[a]? ≠ some (.un op) := fun op e => by
    have hg : takesP op = 1 := clsL_good X.N X.T _ (List.mem_of_getElem? e)
    obtain ⟨j, hj, rfl⟩ := opN_all hg
    have h1 := hno.out j (by omega)
    have hopc : opC (opN j : Int) = .un (opN j : Int) := by unfold opC; rw [if_neg (by omega), if_pos hg]
    rw [(IB.out _ (.inr (.inl hg))).2 (by rw [hopc]; exact e)] at h1
    cases h1
   replace hU := Lib.hid hU
   clear hno IXR h4
   have T1 := TK.out wr rs.out ⟨#[116, 114, 117, 101]⟩
   change Calls _ _ _ _ fun e w' => TakeV X wr a O oa oc 0 0 (isB X.T a [116, 114, 117, 101]) e w' at T1
   have T1I : isB X.T a [116, 114, 117, 101] = true ↔ (clsL X.N X.T)[a]? = some (.con 1) := IB.out 1 (.inl (by decide))
   generalize isB X.T a [116, 114, 117, 101] = bv at T1 T1I
   replace T1 := Lib.hid T1
   cases bv with
   | true =>
    have hcl := T1I.1 rfl
    clear T1I
    have hR2 := Lib.hid (LS.out.con _ hcl)
    have hlt : a < X.T.length := by have := (List.getElem?_eq_some_iff.1 hcl).1; have := hCl.out; omega
    clear hcl
    go_wp2_with fail
    refine T1.out.mono ?_
    rintro e w3 ⟨rfl, rs3, gr3⟩
    rw [if_pos rfl] at rs3
    have P1 := Lib.hid (PUT.out w3 _ _ oa oc rs3 (by have := hle.out; omega) 1 0)
    have g3 := Lib.hid (gr.out.trans gr3)
    clear rs3 gr3
    go_wp2_with fail
    refine P1.out.mono ?_
    rintro e w4 ⟨rfl, oa4, oc4, rs4, gr4⟩
    have fin : Hid (RdP X R w O oa oc (.returned (.bool true)) w4) := by
     show RdP _ _ _ _ _ _ _ _
     rw [hR2.out]
     exact RdP.okI rfl (by rw [DROP.out]; omega) rs4 (g3.out.trans gr4)
    clear rs4 gr4 P1 g3
    go_wp2
    go_ret
    exact fin.out
   | false =>
    have hNT1 : Hid (¬ (clsL X.N X.T)[a]? = some (.con 1)) := fun e => by have := T1I.2 e; cases this
    clear T1I
    go_wp2_with fail
    refine T1.out.mono ?_
    rintro e w2 ⟨rfl, rs2, gr2⟩
    have rs2a : Hid (RdS X w2 a O oa oc 0 0) := rs2
    have gr2a := Lib.hid (gr.out.trans gr2)
    clear rs2 gr2 gr rs T1
    have T2 := TK.out w2 rs2a.out ⟨#[102, 97, 108, 115, 101]⟩
    change Calls _ _ _ _ fun e w' => TakeV X w2 a O oa oc 0 0 (isB X.T a [102, 97, 108, 115, 101]) e w' at T2
    have T2I : isB X.T a [102, 97, 108, 115, 101] = true ↔ (clsL X.N X.T)[a]? = some (.con 2) := IB.out 2 (.inl (by decide))
    generalize isB X.T a [102, 97, 108, 115, 101] = bv at T2 T2I
    replace T2 := Lib.hid T2
    cases bv with
    | true =>
     have hcl := T2I.1 rfl
     clear T2I
     have hR2 := Lib.hid (LS.out.con _ hcl)
     have hlt : a < X.T.length := by have := (List.getElem?_eq_some_iff.1 hcl).1; have := hCl.out; omega
     clear hcl
     go_wp2_with fail
     refine T2.out.mono ?_
     rintro e w3 ⟨rfl, rs3, gr3⟩
     rw [if_pos rfl] at rs3
     have P1 := Lib.hid (PUT.out w3 _ _ oa oc rs3 (by have := hle.out; omega) 2 0)
     have g3 := Lib.hid (gr2a.out.trans gr3)
     clear rs3 gr3
     go_wp2_with fail
     refine P1.out.mono ?_
     rintro e w4 ⟨rfl, oa4, oc4, rs4, gr4⟩
     have fin : Hid (RdP X R w O oa oc (.returned (.bool true)) w4) := by
      show RdP _ _ _ _ _ _ _ _
      rw [hR2.out]
      exact RdP.okI rfl (by rw [DROP.out]; omega) rs4 (g3.out.trans gr4)
     clear rs4 gr4 P1 g3
     go_wp2
     go_ret
     exact fin.out
    | false =>
     have hNT2 : Hid (¬ (clsL X.N X.T)[a]? = some (.con 2)) := fun e => by have := T2I.2 e; cases this
     clear T2I
     go_wp2_with fail
     refine T2.out.mono ?_
     rintro e w3 ⟨rfl, rs2, gr2⟩
     have rs3a : Hid (RdS X w3 a O oa oc 0 0) := rs2
     have gr3a := Lib.hid (gr2a.out.trans gr2)
     clear rs2 gr2 gr2a rs2a T2
     have T3 := TK.out w3 rs3a.out ⟨#[40]⟩
     change Calls _ _ _ _ fun e w' => TakeV X w3 a O oa oc 0 0 (isB X.T a [40]) e w' at T3
     have T3I : isB X.T a [40] = true ↔ (clsL X.N X.T)[a]? = some .lp := BR.out
     generalize isB X.T a [40] = bv at T3 T3I
     replace T3 := Lib.hid T3
     cases bv with
     | true =>
      have hcl := T3I.1 rfl
      clear T3I
      obtain ⟨Q, hq, hQ1, hQ2, hQ3⟩ := LS.out.lp hcl
      have hlt : a < X.T.length := by have := (List.getElem?_eq_some_iff.1 hcl).1; have := hCl.out; omega
      have hlo := LFT.out (.joint 1) Q ⟨by decide, by decide⟩ hq
      have hsz := SZ.out (.joint 1) Q
      go_wp2_with fail
      refine T3.out.mono ?_
      rintro e w3 ⟨rfl, rs3, gr3⟩
      rw [if_pos rfl] at rs3
      have I1 := IJH.out 1 Q (a + 1) w3 O oa oc (by decide) (by decide) hq rs3
      rw [show ((1 : Nat) : Int) = 1 from rfl] at I1
      have g3 := Lib.hid (gr3a.out.trans gr3)
      clear rs3 gr3 T3 gr3a hcl
      cases Q with
      | ok t r =>
       have hs1 : t.post.length + r.length ≤ ((clsL X.N X.T).drop (a + 1)).length := hsz t r hq rfl
       rw [DROP.out] at hs1
       obtain ⟨hrd, hrl⟩ := suf_drop (hlo.1 t r rfl) rfl
       rw [hCl.out] at hrd hrl
       obtain ⟨a3, ha3⟩ : ∃ a3, a3 = X.T.length - r.length := ⟨_, rfl⟩
       have hcls : (clsL X.N X.T)[a3]? = r.head? := by
        rw [← ha3] at hrd
        rw [hrd, List.head?_drop]
       have B3 := BR2.out a3
       have hRy : isB X.T a3 [41] = true → ∃ r', r = .rp :: r' ∧ R = .ok t r' := fun e => by
        have h1 := B3.1 e
        rw [hcls] at h1
        cases r with
        | nil => cases h1
        | cons c r =>
         cases h1
         exact ⟨r, rfl, hQ1 t r rfl⟩
       have hRn : isB X.T a3 [41] = false → R = .no r := fun e => hQ2 t r rfl (fun r' er => by
        have h1 := B3.2 (by rw [hcls, er]; rfl)
        rw [e] at h1
        cases h1)
       replace I1 := Lib.hid I1
       replace hRy := Lib.hid hRy
       replace hRn := Lib.hid hRn
       have ha3H := Lib.hid ha3
       have hrlH := Lib.hid hrl
       clear hQ1 hQ2 hQ3 hq hlo hsz hs1 hrd hrl hcls B3 ha3
       go_wp2_with fail
       refine I1.out.mono ?_
       rintro e w4 ⟨rfl, oa4, oc4, rs4, gr4⟩
       rw [← ha3H.out] at rs4
       have g4 := Lib.hid (g3.out.trans gr4)
       have T4 := take_any X HX.out w4 a3 _ oa4 oc4 0 0 rs4 ⟨#[41]⟩
       change Calls _ _ _ _ fun e w' => TakeV X w4 a3 _ oa4 oc4 0 0 (isB X.T a3 [41]) e w' at T4
       generalize isB X.T a3 [41] = bv at T4 hRy hRn
       replace T4 := Lib.hid T4
       clear rs4 gr4 I1 g3
       cases bv with
       | true =>
        obtain ⟨r', er, hR⟩ := hRy.out rfl
        have hR2 := Lib.hid hR
        have her : Hid (r.length = r'.length + 1) := by show _ = _; rw [er]; rfl
        clear er hR hRy hRn
        go_wp2_with fail
        refine T4.out.mono ?_
        rintro e w5 ⟨rfl, rs5, gr5⟩
        rw [if_pos rfl] at rs5
        have fin : Hid (RdP X R w O oa oc (.returned (.bool true)) w5) := by
         show RdP _ _ _ _ _ _ _ _
         rw [hR2.out]
         exact RdP.okI rfl (by have := ha3H.out; have := her.out; have := hrlH.out; omega) rs5 (g4.out.trans gr5)
        clear rs5 gr5 T4 g4
        go_wp2
        go_ret
        exact fin.out
       | false =>
        have hR2 := Lib.hid (hRn.out rfl)
        clear hRy hRn
        go_wp2_with fail
        refine T4.out.mono ?_
        rintro e w5 ⟨rfl, rs5, gr5⟩
        have rs6 : RdS X w5 a3 _ oa4 oc4 0 0 := rs5
        have S5 := Lib.hid (stop_any X HX.out w5 a3 _ oa4 oc4 rs6)
        have g5 := Lib.hid (g4.out.trans gr5)
        clear rs5 gr5 T4 g4 rs6
        go_wp2_with fail
        refine S5.out.mono ?_
        rintro e w6 ⟨rfl, rs7, gr7⟩
        have fin : Hid (RdP X R w O oa oc (.returned (.bool false)) w6) := by
         show RdP _ _ _ _ _ _ _ _
         rw [hR2.out]
         exact RdP.noI (by rw [← ha3H.out]) rs7 (g5.out.trans gr7)
        clear rs7 gr7 S5 g5
        go_wp2
        go_ret
        exact fin.out
      | no r =>
       have hR2 := Lib.hid (hQ3 r rfl)
       replace I1 := Lib.hid I1
       clear hQ1 hQ2 hQ3 hq hlo hsz
       go_wp2_with fail
       refine I1.out.mono ?_
       rintro e w4 ⟨rfl, a4, O4, oa4, oc4, rs4, gr4⟩
       have fin : Hid (RdP X R w O oa oc (.returned (.bool false)) w4) := by
        show RdP _ _ _ _ _ _ _ _
        rw [hR2.out]
        exact RdP.noI rfl rs4 (g3.out.trans gr4)
       clear rs4 gr4 I1 g3
       go_wp2
       go_ret
       exact fin.out
     | false =>
      have hNT3 : Hid (¬ (clsL X.N X.T)[a]? = some .lp) := fun e => by have := T3I.2 e; cases this
      clear T3I
      go_wp2_with fail
      refine T3.out.mono ?_
      rintro e w4 ⟨rfl, rs2, gr2⟩
      have rs4 : Hid (RdS X w4 a O oa oc 0 0) := rs2
      have gr4 := Lib.hid (gr3a.out.trans gr2)
      clear rs2 gr2 gr3a rs3a T3
      have c0 : w4.cell? ⟨X.g, 0, none⟩ = some (.slice X.la X.T.length X.lc) := rs4.out.box.cell 0
      have c1 : w4.cell? ⟨X.g, 1, none⟩ = some (.int .i64 (a : Int)) := rs4.out.box.cell 1
      have RST : Hid ((∀ i, (clsL X.N X.T)[a]? ≠ some (.prop i)) → R = .no ((clsL X.N X.T).drop a)) := fun h => LS.out.rest hU.out (fun op e => by
       have hg : takesP op = 0 ∧ op ≠ 3 := clsL_good X.N X.T _ (List.mem_of_getElem? e)
       have h12 : op = 1 ∨ op = 2 := by
        have h := hg.1
        unfold takesP at h
        split at h
        ·omega
        ·split at h
         ·cases h
         ·split at h <;> cases h
       rcases h12 with rfl | rfl
       ·exact hNT1.out e
       ·exact hNT2.out e) h hNT3.out
      have hA : Hid (((stopAt X a).1, (stopAt X a).2) = stopAt X (X.T.length - ((clsL X.N X.T).drop a).length)) := by
       show _ = _
       have h1 := hCl.out
       have h2 := hle.out
       rw [List.length_drop, h1, show X.T.length - (X.T.length - a) = a by omega]
      clear LFT IB BR BR2 SZ DROP TK ILH IJH hU hNT1 hNT2 hNT3
      obtain ⟨la, hla⟩ : ∃ la, la = X.la := ⟨_, rfl⟩
      obtain ⟨nT, hnT⟩ : ∃ nT, nT = X.T.length := ⟨_, rfl⟩
      rw [← hla, ← hnT] at c0
      have htl := HX.out.tl
      have hnTI : (nT : Int) ≤ 6000 := by omega
      by_cases hlt : a < X.T.length
      ·have hltI : (a : Int) < (nT : Int) := by omega
       have hltB : decide ((a : Int) < (nT : Int)) = true := decide_eq_true hltI
       have hltN : decide (a < nT) = true := decide_eq_true (by omega)
       obtain ⟨b, off, ea, hbl, hc⟩ := (HX.out.toks.below rs4.out.bel) (by omega)
       have SGT := hc a hlt
       have TI := HX.out.ti X.T[a] (List.getElem_mem hlt)
       have hcc : (clsL X.N X.T)[a]? = some (clsP X.N X.T[a].kind X.T[a].text) := by
        unfold clsL
        rw [List.getElem?_map, List.getElem?_eq_getElem hlt]
        rfl
       rw [hcc] at RST
       have hpr : ∀ i, clsP X.N X.T[a].kind X.T[a].text = .prop i → R = .ok (.leaf (3, (i : Int))) ((clsL X.N X.T).drop (a + 1)) := fun i e => LS.out.prop i (by rw [hcc, e])
       generalize X.T[a] = tok at SGT TI RST hpr
       obtain ⟨tk, tn, ta, tt⟩ := tok
       dsimp only at SGT TI RST hpr
       rw [← hla] at ea
       subst ea
       obtain ⟨ts, hts⟩ : ∃ ts : ByteArray, ts = ⟨tt.toArray⟩ := ⟨_, rfl⟩
       rw [← hts] at SGT
       have htd : ts.data.toList = tt := by rw [hts]
       have d0 : w4.cell? ⟨b, off + a * 4, none⟩ = some (.int .i64 (tk : Int)) := SGT 0 _ rfl
       have d3 : w4.cell? ⟨b, off + a * 4 + 3, none⟩ = some (.string ts) := SGT 3 _ rfl
       have OW := Lib.hid (fun v (hb : Below w4.heap.size w4 v) => own_word v (HX.out.door.below (rs4.out.below hb).bel) ts)
       have NP := Lib.hid (fun v (hb : Below w4.heap.size w4 v) => name_place X HX.out v a O oa oc 0 0 (rs4.out.below hb) ts)
       rw [htd] at OW NP
       have hltH := Lib.hid hlt
       replace hnT := Lib.hid hnT
       replace hla := Lib.hid hla
       clear SGT hc hbl hts htd hcc htl hlt
       by_cases hk : tk = 1
       ·have hkB : ((tk : Int) == 1) = true := by rw [hk]; rfl
        have hkN : (tk == 1) = true := by rw [hk]; rfl
        obtain ⟨n40, n41⟩ := word_br (TI hk)
        have hcls : clsP X.N tk tt = if opOf tt = 0 then (match nameAt X.N tt with | some i => .prop i | none => .bad 8) else (if takesP (opOf tt) = 0 then .con (opOf tt) else if takesP (opOf tt) = 1 then .un (opOf tt) else .bin (opOf tt)) := by
         rw [hk]
         unfold clsP
         rw [if_neg (by decide), if_neg n40, if_neg n41, if_pos rfl]
         split
         ·cases nameAt X.N tt <;> rfl
         ·rfl
        rw [hcls] at RST hpr
        have hoo := own_op (s := tt)
        cases hown : ownF.contains tt with
        | true =>
         have h0 : ¬ opOf tt = 0 := fun e => by rw [hoo.2 e] at hown; cases hown
         rw [if_neg h0] at RST
         have hR2 := Lib.hid (RST.out (fun i e => by
          injection e with e
          split at e
          ·cases e
          ·split at e <;> cases e))
         rw [hown] at OW
         clear hpr hcls TI RST hoo hown h0 n40 n41 NP hk PUT LS
         go_upto_region 13 with (fail)
         refine wp_region_kpW (by kernel_rfl) 38 [.fix (.pointer (some ⟨X.g, 0, none⟩)), .fix (.pointer (some ⟨X.g, 0, none⟩)), .fix (.pointer (some ⟨X.g, 1, none⟩)), .fix (.int .i64 (a : Int)), .fix (.pointer (some ⟨X.g, 0, none⟩)), .fix (.pointer (some ⟨X.g, 0, none⟩)), .fix (.pointer (some ⟨X.g, 0, none⟩)), .fix (.slice (some ⟨b, off, none⟩) nT X.lc), .fix (.int .i64 (nT : Int)), .fix (.bool true), .fix (.bool true), .fix (.pointer (some ⟨X.g, 0, none⟩)), .fix (.pointer (some ⟨X.g, 0, none⟩)), .fix (.pointer (some ⟨X.g, 0, none⟩)), .fix (.slice (some ⟨b, off, none⟩) nT X.lc), .fix (.pointer (some ⟨X.g, 0, none⟩)), .fix (.pointer (some ⟨X.g, 0, none⟩)), .fix (.pointer (some ⟨X.g, 1, none⟩)), .fix (.int .i64 (a : Int)), .fix (.pointer (some ⟨b, off + a * 4, none⟩)), .fix (.pointer (some ⟨b, off + a * 4, none⟩)), .fix (.int .i64 (tk : Int)), .fix (.bool true), .fix (.bool true), .fix (.bool true), .fix (.pointer (some ⟨X.g, 0, none⟩)), .fix (.pointer (some ⟨X.g, 0, none⟩)), .fix (.pointer (some ⟨X.g, 0, none⟩)), .fix (.slice (some ⟨b, off, none⟩) nT X.lc), .fix (.pointer (some ⟨X.g, 0, none⟩)), .fix (.pointer (some ⟨X.g, 0, none⟩)), .fix (.pointer (some ⟨X.g, 1, none⟩)), .fix (.int .i64 (a : Int)), .fix (.pointer (some ⟨b, off + a * 4, none⟩)), .fix (.pointer (some ⟨b, off + a * 4 + 3, none⟩)), .fix (.string ts), .fix (.bool true), .fix (.bool false)] (by kernel_rfl) (by kernel_rfl) (by kernel_rfl) ?_ ?_
         ·intro i hi
          match i, hi with
          | 0, _ =>
           intro o ho ac w' hR hF hD K hK
           simp only [zqA, zqZ, zqI] at ho
           subst ho
           have e0 : ac.tmps.getD 0 undef = .pointer (some ⟨X.g, 0, none⟩) := hF 0 (znd (by kernel_rfl))
           have d0 := zgD e0
           clear hD hF
           go_simp
           exact hK _ _ (Below.refl _ _) rfl
          | 1, _ =>
           intro o ho ac w' hR hF hD K hK
           simp only [zqA, zqZ, zqS, zqI] at ho
           subst ho
           have e48 : ac.tmps.getD 48 undef = .pointer (some ⟨X.g, 0, none⟩) := hD 0 (zdp (by kernel_rfl)) 48 rfl
           have d48 := zgD e48
           clear hD hF
           go_simp
           exact hK _ _ (Below.refl _ _) rfl
          | 2, _ =>
           intro o ho ac w' hR hF hD K hK
           simp only [zqA, zqZ, zqS, zqI] at ho
           subst ho
           have e49 : ac.tmps.getD 49 undef = .pointer (some ⟨X.g, 0, none⟩) := hD 1 (zdp (by kernel_rfl)) 49 rfl
           have d49 := zgD e49
           clear hD hF
           go_simp
           exact hK _ _ (Below.refl _ _) rfl
          | 3, _ =>
           intro o ho ac w' hR hF hD K hK
           simp only [zqA, zqZ, zqS, zqI] at ho
           subst ho
           have e50 : ac.tmps.getD 50 undef = .pointer (some ⟨X.g, 1, none⟩) := hD 2 (zdp (by kernel_rfl)) 50 rfl
           have d50 := zgD e50
           clear hD hF
           have q0 : w'.cell? ⟨X.g, 1, none⟩ = some (.int .i64 (a : Int)) := bcell hR c1
           go_simp
           exact hK _ _ (Below.refl _ _) rfl
          | 4, _ =>
           intro o ho ac w' hR hF hD K hK
           simp only [zqA, zqZ, zqS, zqI] at ho
           subst ho
           have e0 : ac.tmps.getD 0 undef = .pointer (some ⟨X.g, 0, none⟩) := hF 0 (znd (by kernel_rfl))
           have d0 := zgD e0
           clear hD hF
           go_simp
           exact hK _ _ (Below.refl _ _) rfl
          | 5, _ =>
           intro o ho ac w' hR hF hD K hK
           simp only [zqA, zqZ, zqS, zqI] at ho
           subst ho
           have e52 : ac.tmps.getD 52 undef = .pointer (some ⟨X.g, 0, none⟩) := hD 4 (zdp (by kernel_rfl)) 52 rfl
           have d52 := zgD e52
           clear hD hF
           go_simp
           exact hK _ _ (Below.refl _ _) rfl
          | 6, _ =>
           intro o ho ac w' hR hF hD K hK
           simp only [zqA, zqZ, zqS, zqI] at ho
           subst ho
           have e53 : ac.tmps.getD 53 undef = .pointer (some ⟨X.g, 0, none⟩) := hD 5 (zdp (by kernel_rfl)) 53 rfl
           have d53 := zgD e53
           clear hD hF
           go_simp
           exact hK _ _ (Below.refl _ _) rfl
          | 7, _ =>
           intro o ho ac w' hR hF hD K hK
           simp only [zqA, zqZ, zqS, zqI] at ho
           subst ho
           have e54 : ac.tmps.getD 54 undef = .pointer (some ⟨X.g, 0, none⟩) := hD 6 (zdp (by kernel_rfl)) 54 rfl
           have d54 := zgD e54
           clear hD hF
           have q0 : w'.cell? ⟨X.g, 0, none⟩ = some (.slice (some ⟨b, off, none⟩) nT X.lc) := bcell hR c0
           go_simp
           exact hK _ _ (Below.refl _ _) rfl
          | 8, _ =>
           intro o ho ac w' hR hF hD K hK
           simp only [zqA, zqZ, zqS, zqI] at ho
           subst ho
           have e55 : ac.tmps.getD 55 undef = .slice (some ⟨b, off, none⟩) nT X.lc := hD 7 (zdp (by kernel_rfl)) 55 rfl
           have d55 := zgD e55
           clear hD hF
           go_simp
           exact hK _ _ (Below.refl _ _) rfl
          | 9, _ =>
           intro o ho ac w' hR hF hD K hK
           simp only [zqA, zqZ, zqS, zqI] at ho
           subst ho
           have e51 : ac.tmps.getD 51 undef = .int .i64 (a : Int) := hD 3 (zdp (by kernel_rfl)) 51 rfl
           have d51 := zgD e51
           have e56 : ac.tmps.getD 56 undef = .int .i64 (nT : Int) := hD 8 (zdp (by kernel_rfl)) 56 rfl
           have d56 := zgD e56
           clear hD hF
           go_simp
           exact hK _ _ (Below.refl _ _) rfl
          | 10, _ =>
           intro o ho ac w' hR hF hD K hK
           simp only [zqA, zqZ, zqS, zqI] at ho
           subst ho
           have e57 : ac.tmps.getD 57 undef = .bool true := hD 9 (zdp (by kernel_rfl)) 57 rfl
           have g57 := getD_bool e57
           have d57 := zgD e57
           clear hD hF
           go_simp
           exact hK _ _ (Below.refl _ _) rfl
          | 11, _ =>
           intro o ho ac w' hR hF hD K hK
           simp only [zqA, zqZ, zqS, zqI] at ho
           subst ho
           have e0 : ac.tmps.getD 0 undef = .pointer (some ⟨X.g, 0, none⟩) := hF 0 (znd (by kernel_rfl))
           have d0 := zgD e0
           have e58 : ac.tmps.getD 58 undef = .bool true := hD 10 (zdp (by kernel_rfl)) 58 rfl
           have g58 := getD_bool e58
           have d58 := zgD e58
           clear hD hF
           go_simp
           exact hK _ _ (Below.refl _ _) rfl
          | 12, _ =>
           intro o ho ac w' hR hF hD K hK
           simp only [zqA, zqZ, zqS, zqI] at ho
           subst ho
           have e58 : ac.tmps.getD 58 undef = .bool true := hD 10 (zdp (by kernel_rfl)) 58 rfl
           have g58 := getD_bool e58
           have d58 := zgD e58
           have e59 : ac.tmps.getD 59 undef = .pointer (some ⟨X.g, 0, none⟩) := hD 11 (zdp (by kernel_rfl)) 59 rfl
           have d59 := zgD e59
           clear hD hF
           go_simp
           exact hK _ _ (Below.refl _ _) rfl
          | 13, _ =>
           intro o ho ac w' hR hF hD K hK
           simp only [zqA, zqZ, zqS, zqI] at ho
           subst ho
           have e58 : ac.tmps.getD 58 undef = .bool true := hD 10 (zdp (by kernel_rfl)) 58 rfl
           have g58 := getD_bool e58
           have d58 := zgD e58
           have e60 : ac.tmps.getD 60 undef = .pointer (some ⟨X.g, 0, none⟩) := hD 12 (zdp (by kernel_rfl)) 60 rfl
           have d60 := zgD e60
           clear hD hF
           go_simp
           exact hK _ _ (Below.refl _ _) rfl
          | 14, _ =>
           intro o ho ac w' hR hF hD K hK
           simp only [zqA, zqZ, zqS, zqI] at ho
           subst ho
           have e58 : ac.tmps.getD 58 undef = .bool true := hD 10 (zdp (by kernel_rfl)) 58 rfl
           have g58 := getD_bool e58
           have d58 := zgD e58
           have e61 : ac.tmps.getD 61 undef = .pointer (some ⟨X.g, 0, none⟩) := hD 13 (zdp (by kernel_rfl)) 61 rfl
           have d61 := zgD e61
           clear hD hF
           have q0 : w'.cell? ⟨X.g, 0, none⟩ = some (.slice (some ⟨b, off, none⟩) nT X.lc) := bcell hR c0
           go_simp
           exact hK _ _ (Below.refl _ _) rfl
          | 15, _ =>
           intro o ho ac w' hR hF hD K hK
           simp only [zqA, zqZ, zqS, zqI] at ho
           subst ho
           have e0 : ac.tmps.getD 0 undef = .pointer (some ⟨X.g, 0, none⟩) := hF 0 (znd (by kernel_rfl))
           have d0 := zgD e0
           have e58 : ac.tmps.getD 58 undef = .bool true := hD 10 (zdp (by kernel_rfl)) 58 rfl
           have g58 := getD_bool e58
           have d58 := zgD e58
           clear hD hF
           go_simp
           exact hK _ _ (Below.refl _ _) rfl
          | 16, _ =>
           intro o ho ac w' hR hF hD K hK
           simp only [zqA, zqZ, zqS, zqI] at ho
           subst ho
           have e58 : ac.tmps.getD 58 undef = .bool true := hD 10 (zdp (by kernel_rfl)) 58 rfl
           have g58 := getD_bool e58
           have d58 := zgD e58
           have e63 : ac.tmps.getD 63 undef = .pointer (some ⟨X.g, 0, none⟩) := hD 15 (zdp (by kernel_rfl)) 63 rfl
           have d63 := zgD e63
           clear hD hF
           go_simp
           exact hK _ _ (Below.refl _ _) rfl
          | 17, _ =>
           intro o ho ac w' hR hF hD K hK
           simp only [zqA, zqZ, zqS, zqI] at ho
           subst ho
           have e58 : ac.tmps.getD 58 undef = .bool true := hD 10 (zdp (by kernel_rfl)) 58 rfl
           have g58 := getD_bool e58
           have d58 := zgD e58
           have e64 : ac.tmps.getD 64 undef = .pointer (some ⟨X.g, 0, none⟩) := hD 16 (zdp (by kernel_rfl)) 64 rfl
           have d64 := zgD e64
           clear hD hF
           go_simp
           exact hK _ _ (Below.refl _ _) rfl
          | 18, _ =>
           intro o ho ac w' hR hF hD K hK
           simp only [zqA, zqZ, zqS, zqI] at ho
           subst ho
           have e58 : ac.tmps.getD 58 undef = .bool true := hD 10 (zdp (by kernel_rfl)) 58 rfl
           have g58 := getD_bool e58
           have d58 := zgD e58
           have e65 : ac.tmps.getD 65 undef = .pointer (some ⟨X.g, 1, none⟩) := hD 17 (zdp (by kernel_rfl)) 65 rfl
           have d65 := zgD e65
           clear hD hF
           have q0 : w'.cell? ⟨X.g, 1, none⟩ = some (.int .i64 (a : Int)) := bcell hR c1
           go_simp
           exact hK _ _ (Below.refl _ _) rfl
          | 19, _ =>
           intro o ho ac w' hR hF hD K hK
           simp only [zqA, zqZ, zqS, zqI] at ho
           subst ho
           have e58 : ac.tmps.getD 58 undef = .bool true := hD 10 (zdp (by kernel_rfl)) 58 rfl
           have g58 := getD_bool e58
           have d58 := zgD e58
           have e62 : ac.tmps.getD 62 undef = .slice (some ⟨b, off, none⟩) nT X.lc := hD 14 (zdp (by kernel_rfl)) 62 rfl
           have d62 := zgD e62
           have e66 : ac.tmps.getD 66 undef = .int .i64 (a : Int) := hD 18 (zdp (by kernel_rfl)) 66 rfl
           have d66 := zgD e66
           clear hD hF
           go_simp
           exact hK _ _ (Below.refl _ _) rfl
          | 20, _ =>
           intro o ho ac w' hR hF hD K hK
           simp only [zqA, zqZ, zqS, zqI] at ho
           subst ho
           have e58 : ac.tmps.getD 58 undef = .bool true := hD 10 (zdp (by kernel_rfl)) 58 rfl
           have g58 := getD_bool e58
           have d58 := zgD e58
           have e67 : ac.tmps.getD 67 undef = .pointer (some ⟨b, off + a * 4, none⟩) := hD 19 (zdp (by kernel_rfl)) 67 rfl
           have d67 := zgD e67
           clear hD hF
           go_simp
           exact hK _ _ (Below.refl _ _) rfl
          | 21, _ =>
           intro o ho ac w' hR hF hD K hK
           simp only [zqA, zqZ, zqS, zqI] at ho
           subst ho
           have e58 : ac.tmps.getD 58 undef = .bool true := hD 10 (zdp (by kernel_rfl)) 58 rfl
           have g58 := getD_bool e58
           have d58 := zgD e58
           have e68 : ac.tmps.getD 68 undef = .pointer (some ⟨b, off + a * 4, none⟩) := hD 20 (zdp (by kernel_rfl)) 68 rfl
           have d68 := zgD e68
           clear hD hF
           have q0 : w'.cell? ⟨b, off + a * 4, none⟩ = some (.int .i64 (tk : Int)) := bcell hR d0
           go_simp
           exact hK _ _ (Below.refl _ _) rfl
          | 22, _ =>
           intro o ho ac w' hR hF hD K hK
           simp only [zqA, zqZ, zqS, zqI] at ho
           subst ho
           have e58 : ac.tmps.getD 58 undef = .bool true := hD 10 (zdp (by kernel_rfl)) 58 rfl
           have g58 := getD_bool e58
           have d58 := zgD e58
           have e69 : ac.tmps.getD 69 undef = .int .i64 (tk : Int) := hD 21 (zdp (by kernel_rfl)) 69 rfl
           have d69 := zgD e69
           clear hD hF
           go_simp
           exact hK _ _ (Below.refl _ _) rfl
          | 23, _ =>
           intro o ho ac w' hR hF hD K hK
           simp only [zqA, zqZ, zqS, zqI] at ho
           subst ho
           have e58 : ac.tmps.getD 58 undef = .bool true := hD 10 (zdp (by kernel_rfl)) 58 rfl
           have g58 := getD_bool e58
           have d58 := zgD e58
           have e70 : ac.tmps.getD 70 undef = .bool true := hD 22 (zdp (by kernel_rfl)) 70 rfl
           have g70 := getD_bool e70
           have d70 := zgD e70
           clear hD hF
           go_simp
           exact hK _ _ (Below.refl _ _) rfl
          | 24, _ =>
           intro o ho ac w' hR hF hD K hK
           simp only [zqA, zqZ, zqS, zqI] at ho
           subst ho
           have e58 : ac.tmps.getD 58 undef = .bool true := hD 10 (zdp (by kernel_rfl)) 58 rfl
           have g58 := getD_bool e58
           have d58 := zgD e58
           have e71 : ac.tmps.getD 71 undef = .bool true := hD 23 (zdp (by kernel_rfl)) 71 rfl
           have g71 := getD_bool e71
           have d71 := zgD e71
           clear hD hF
           go_simp
           exact hK _ _ (Below.refl _ _) rfl
          | 25, _ =>
           intro o ho ac w' hR hF hD K hK
           simp only [zqA, zqZ, zqS, zqI] at ho
           subst ho
           have e0 : ac.tmps.getD 0 undef = .pointer (some ⟨X.g, 0, none⟩) := hF 0 (znd (by kernel_rfl))
           have d0 := zgD e0
           have e72 : ac.tmps.getD 72 undef = .bool true := hD 24 (zdp (by kernel_rfl)) 72 rfl
           have g72 := getD_bool e72
           have d72 := zgD e72
           clear hD hF
           go_simp
           exact hK _ _ (Below.refl _ _) rfl
          | 26, _ =>
           intro o ho ac w' hR hF hD K hK
           simp only [zqA, zqZ, zqS, zqI] at ho
           subst ho
           have e72 : ac.tmps.getD 72 undef = .bool true := hD 24 (zdp (by kernel_rfl)) 72 rfl
           have g72 := getD_bool e72
           have d72 := zgD e72
           have e73 : ac.tmps.getD 73 undef = .pointer (some ⟨X.g, 0, none⟩) := hD 25 (zdp (by kernel_rfl)) 73 rfl
           have d73 := zgD e73
           clear hD hF
           go_simp
           exact hK _ _ (Below.refl _ _) rfl
          | 27, _ =>
           intro o ho ac w' hR hF hD K hK
           simp only [zqA, zqZ, zqS, zqI] at ho
           subst ho
           have e72 : ac.tmps.getD 72 undef = .bool true := hD 24 (zdp (by kernel_rfl)) 72 rfl
           have g72 := getD_bool e72
           have d72 := zgD e72
           have e74 : ac.tmps.getD 74 undef = .pointer (some ⟨X.g, 0, none⟩) := hD 26 (zdp (by kernel_rfl)) 74 rfl
           have d74 := zgD e74
           clear hD hF
           go_simp
           exact hK _ _ (Below.refl _ _) rfl
          | 28, _ =>
           intro o ho ac w' hR hF hD K hK
           simp only [zqA, zqZ, zqS, zqI] at ho
           subst ho
           have e72 : ac.tmps.getD 72 undef = .bool true := hD 24 (zdp (by kernel_rfl)) 72 rfl
           have g72 := getD_bool e72
           have d72 := zgD e72
           have e75 : ac.tmps.getD 75 undef = .pointer (some ⟨X.g, 0, none⟩) := hD 27 (zdp (by kernel_rfl)) 75 rfl
           have d75 := zgD e75
           clear hD hF
           have q0 : w'.cell? ⟨X.g, 0, none⟩ = some (.slice (some ⟨b, off, none⟩) nT X.lc) := bcell hR c0
           go_simp
           exact hK _ _ (Below.refl _ _) rfl
          | 29, _ =>
           intro o ho ac w' hR hF hD K hK
           simp only [zqA, zqZ, zqS, zqI] at ho
           subst ho
           have e0 : ac.tmps.getD 0 undef = .pointer (some ⟨X.g, 0, none⟩) := hF 0 (znd (by kernel_rfl))
           have d0 := zgD e0
           have e72 : ac.tmps.getD 72 undef = .bool true := hD 24 (zdp (by kernel_rfl)) 72 rfl
           have g72 := getD_bool e72
           have d72 := zgD e72
           clear hD hF
           go_simp
           exact hK _ _ (Below.refl _ _) rfl
          | 30, _ =>
           intro o ho ac w' hR hF hD K hK
           simp only [zqA, zqZ, zqS, zqI] at ho
           subst ho
           have e72 : ac.tmps.getD 72 undef = .bool true := hD 24 (zdp (by kernel_rfl)) 72 rfl
           have g72 := getD_bool e72
           have d72 := zgD e72
           have e77 : ac.tmps.getD 77 undef = .pointer (some ⟨X.g, 0, none⟩) := hD 29 (zdp (by kernel_rfl)) 77 rfl
           have d77 := zgD e77
           clear hD hF
           go_simp
           exact hK _ _ (Below.refl _ _) rfl
          | 31, _ =>
           intro o ho ac w' hR hF hD K hK
           simp only [zqA, zqZ, zqS, zqI] at ho
           subst ho
           have e72 : ac.tmps.getD 72 undef = .bool true := hD 24 (zdp (by kernel_rfl)) 72 rfl
           have g72 := getD_bool e72
           have d72 := zgD e72
           have e78 : ac.tmps.getD 78 undef = .pointer (some ⟨X.g, 0, none⟩) := hD 30 (zdp (by kernel_rfl)) 78 rfl
           have d78 := zgD e78
           clear hD hF
           go_simp
           exact hK _ _ (Below.refl _ _) rfl
          | 32, _ =>
           intro o ho ac w' hR hF hD K hK
           simp only [zqA, zqZ, zqS, zqI] at ho
           subst ho
           have e72 : ac.tmps.getD 72 undef = .bool true := hD 24 (zdp (by kernel_rfl)) 72 rfl
           have g72 := getD_bool e72
           have d72 := zgD e72
           have e79 : ac.tmps.getD 79 undef = .pointer (some ⟨X.g, 1, none⟩) := hD 31 (zdp (by kernel_rfl)) 79 rfl
           have d79 := zgD e79
           clear hD hF
           have q0 : w'.cell? ⟨X.g, 1, none⟩ = some (.int .i64 (a : Int)) := bcell hR c1
           go_simp
           exact hK _ _ (Below.refl _ _) rfl
          | 33, _ =>
           intro o ho ac w' hR hF hD K hK
           simp only [zqA, zqZ, zqS, zqI] at ho
           subst ho
           have e72 : ac.tmps.getD 72 undef = .bool true := hD 24 (zdp (by kernel_rfl)) 72 rfl
           have g72 := getD_bool e72
           have d72 := zgD e72
           have e76 : ac.tmps.getD 76 undef = .slice (some ⟨b, off, none⟩) nT X.lc := hD 28 (zdp (by kernel_rfl)) 76 rfl
           have d76 := zgD e76
           have e80 : ac.tmps.getD 80 undef = .int .i64 (a : Int) := hD 32 (zdp (by kernel_rfl)) 80 rfl
           have d80 := zgD e80
           clear hD hF
           go_simp
           exact hK _ _ (Below.refl _ _) rfl
          | 34, _ =>
           intro o ho ac w' hR hF hD K hK
           simp only [zqA, zqZ, zqS, zqI] at ho
           subst ho
           have e72 : ac.tmps.getD 72 undef = .bool true := hD 24 (zdp (by kernel_rfl)) 72 rfl
           have g72 := getD_bool e72
           have d72 := zgD e72
           have e81 : ac.tmps.getD 81 undef = .pointer (some ⟨b, off + a * 4, none⟩) := hD 33 (zdp (by kernel_rfl)) 81 rfl
           have d81 := zgD e81
           clear hD hF
           go_simp
           exact hK _ _ (Below.refl _ _) rfl
          | 35, _ =>
           intro o ho ac w' hR hF hD K hK
           simp only [zqA, zqZ, zqS, zqI] at ho
           subst ho
           have e72 : ac.tmps.getD 72 undef = .bool true := hD 24 (zdp (by kernel_rfl)) 72 rfl
           have g72 := getD_bool e72
           have d72 := zgD e72
           have e82 : ac.tmps.getD 82 undef = .pointer (some ⟨b, off + a * 4 + 3, none⟩) := hD 34 (zdp (by kernel_rfl)) 82 rfl
           have d82 := zgD e82
           clear hD hF
           have q0 : w'.cell? ⟨b, off + a * 4 + 3, none⟩ = some (.string ts) := bcell hR d3
           go_simp
           exact hK _ _ (Below.refl _ _) rfl
          | 36, _ =>
           intro o ho ac w' hR hF hD K hK
           simp only [zqA, zqZ, zqS, zqI] at ho
           subst ho
           have e72 : ac.tmps.getD 72 undef = .bool true := hD 24 (zdp (by kernel_rfl)) 72 rfl
           have g72 := getD_bool e72
           have d72 := zgD e72
           have e83 : ac.tmps.getD 83 undef = .string ts := hD 35 (zdp (by kernel_rfl)) 83 rfl
           have d83 := zgD e83
           clear hD hF
           go_simp
           refine (OW.out w' hR).mono ?_
           rintro e w2 ⟨rfl, hb2⟩
           exact hK _ _ hb2 rfl
          | 37, _ =>
           intro o ho ac w' hR hF hD K hK
           simp only [zqA, zqZ, zqS, zqI] at ho
           subst ho
           have e72 : ac.tmps.getD 72 undef = .bool true := hD 24 (zdp (by kernel_rfl)) 72 rfl
           have g72 := getD_bool e72
           have d72 := zgD e72
           have e84 : ac.tmps.getD 84 undef = .bool true := hD 36 (zdp (by kernel_rfl)) 84 rfl
           have g84 := getD_bool e84
           have d84 := zgD e84
           clear hD hF
           go_simp
           exact hK _ _ (Below.refl _ _) rfl
          | k + 38, hk => omega
         ·rintro ⟨tm, df⟩ w5 hdf hsz hF hR9 hV
          obtain rfl : df = [] := hdf
          obtain ⟨q, rfl⟩ := frameL116 tm hsz
          have k71 : q 71 = .bool true := hV 23 71 (by decide) rfl
          have k72 : q 72 = .bool true := hV 24 72 (by decide) rfl
          have k85 : q 85 = .bool false := hV 37 85 (by decide) rfl
          simp only [k71, k72, k85]
          clear k71 k72 k85
          have kk := zbk hF [0, 1, 2, 3, 4, 5, 6, 7, 8, 9, 10, 11, 12, 13, 14, 15, 16, 17, 18, 19, 20, 21, 22, 23, 24, 25, 26, 27, 28, 29, 30, 31, 32, 33, 34, 35, 36, 37, 38, 39, 40, 41, 42, 43, 44, 45, 46, 47, 86, 87, 88, 89, 90, 91, 92, 93, 94, 95, 96, 97, 98, 99, 100, 101, 102, 103, 104, 105, 106, 107, 108, 109, 110, 111, 112, 113, 114, 115] (by kernel_rfl)
          simp only [Bk, Array.getD_eq_getD_getElem?, zqA, zqS, zqZ, Option.getD_some] at kk
          simp only [kk]
          clear kk
          clear hF hV hsz
          change wpAny _ _ _ _ 1 _ _ _
          refine wpAny_ready (rs := [38]) (by kernel_rfl) (by simp) ?_
          refine AllReady.cons (i := 38) rfl (fun K hK => ?_) AllReady.nil
          go_simp
          refine hK _ _ ?_
          clear hK K
          refine ⟨by kernel_rfl, ?_⟩
          have rs5 := rs4.out.below hR9
          have S5 := Lib.hid (STP.out w5 a rs5)
          have g5 := Lib.hid (gr4.out.trans (RdG.below hR9))
          clear hR9 rs5 c0 c1
          go_wp2_with fail
          refine S5.out.mono ?_
          rintro e w6 ⟨rfl, rs7, gr7⟩
          have fin : Hid (RdP X R w O oa oc (.returned (.bool false)) w6) := by
           show RdP _ _ _ _ _ _ _ _
           rw [hR2.out]
           exact RdP.noI hA.out rs7 (g5.out.trans gr7)
          clear rs7 gr7 S5 g5
          go_wp2
          go_ret
          exact fin.out
        | false =>
         rw [if_pos (hoo.1 hown)] at RST hpr
         rw [hown] at OW
         clear hcls TI hoo hown n40 n41 hk LS
         go_upto_region 13 with (fail)
         refine wp_region_kpW (by kernel_rfl) 38 [.fix (.pointer (some ⟨X.g, 0, none⟩)), .fix (.pointer (some ⟨X.g, 0, none⟩)), .fix (.pointer (some ⟨X.g, 1, none⟩)), .fix (.int .i64 (a : Int)), .fix (.pointer (some ⟨X.g, 0, none⟩)), .fix (.pointer (some ⟨X.g, 0, none⟩)), .fix (.pointer (some ⟨X.g, 0, none⟩)), .fix (.slice (some ⟨b, off, none⟩) nT X.lc), .fix (.int .i64 (nT : Int)), .fix (.bool true), .fix (.bool true), .fix (.pointer (some ⟨X.g, 0, none⟩)), .fix (.pointer (some ⟨X.g, 0, none⟩)), .fix (.pointer (some ⟨X.g, 0, none⟩)), .fix (.slice (some ⟨b, off, none⟩) nT X.lc), .fix (.pointer (some ⟨X.g, 0, none⟩)), .fix (.pointer (some ⟨X.g, 0, none⟩)), .fix (.pointer (some ⟨X.g, 1, none⟩)), .fix (.int .i64 (a : Int)), .fix (.pointer (some ⟨b, off + a * 4, none⟩)), .fix (.pointer (some ⟨b, off + a * 4, none⟩)), .fix (.int .i64 (tk : Int)), .fix (.bool true), .fix (.bool true), .fix (.bool true), .fix (.pointer (some ⟨X.g, 0, none⟩)), .fix (.pointer (some ⟨X.g, 0, none⟩)), .fix (.pointer (some ⟨X.g, 0, none⟩)), .fix (.slice (some ⟨b, off, none⟩) nT X.lc), .fix (.pointer (some ⟨X.g, 0, none⟩)), .fix (.pointer (some ⟨X.g, 0, none⟩)), .fix (.pointer (some ⟨X.g, 1, none⟩)), .fix (.int .i64 (a : Int)), .fix (.pointer (some ⟨b, off + a * 4, none⟩)), .fix (.pointer (some ⟨b, off + a * 4 + 3, none⟩)), .fix (.string ts), .fix (.bool false), .fix (.bool true)] (by kernel_rfl) (by kernel_rfl) (by kernel_rfl) ?_ ?_
         ·intro i hi
          match i, hi with
          | 0, _ =>
           intro o ho ac w' hR hF hD K hK
           simp only [zqA, zqZ, zqI] at ho
           subst ho
           have e0 : ac.tmps.getD 0 undef = .pointer (some ⟨X.g, 0, none⟩) := hF 0 (znd (by kernel_rfl))
           have d0 := zgD e0
           clear hD hF
           go_simp
           exact hK _ _ (Below.refl _ _) rfl
          | 1, _ =>
           intro o ho ac w' hR hF hD K hK
           simp only [zqA, zqZ, zqS, zqI] at ho
           subst ho
           have e48 : ac.tmps.getD 48 undef = .pointer (some ⟨X.g, 0, none⟩) := hD 0 (zdp (by kernel_rfl)) 48 rfl
           have d48 := zgD e48
           clear hD hF
           go_simp
           exact hK _ _ (Below.refl _ _) rfl
          | 2, _ =>
           intro o ho ac w' hR hF hD K hK
           simp only [zqA, zqZ, zqS, zqI] at ho
           subst ho
           have e49 : ac.tmps.getD 49 undef = .pointer (some ⟨X.g, 0, none⟩) := hD 1 (zdp (by kernel_rfl)) 49 rfl
           have d49 := zgD e49
           clear hD hF
           go_simp
           exact hK _ _ (Below.refl _ _) rfl
          | 3, _ =>
           intro o ho ac w' hR hF hD K hK
           simp only [zqA, zqZ, zqS, zqI] at ho
           subst ho
           have e50 : ac.tmps.getD 50 undef = .pointer (some ⟨X.g, 1, none⟩) := hD 2 (zdp (by kernel_rfl)) 50 rfl
           have d50 := zgD e50
           clear hD hF
           have q0 : w'.cell? ⟨X.g, 1, none⟩ = some (.int .i64 (a : Int)) := bcell hR c1
           go_simp
           exact hK _ _ (Below.refl _ _) rfl
          | 4, _ =>
           intro o ho ac w' hR hF hD K hK
           simp only [zqA, zqZ, zqS, zqI] at ho
           subst ho
           have e0 : ac.tmps.getD 0 undef = .pointer (some ⟨X.g, 0, none⟩) := hF 0 (znd (by kernel_rfl))
           have d0 := zgD e0
           clear hD hF
           go_simp
           exact hK _ _ (Below.refl _ _) rfl
          | 5, _ =>
           intro o ho ac w' hR hF hD K hK
           simp only [zqA, zqZ, zqS, zqI] at ho
           subst ho
           have e52 : ac.tmps.getD 52 undef = .pointer (some ⟨X.g, 0, none⟩) := hD 4 (zdp (by kernel_rfl)) 52 rfl
           have d52 := zgD e52
           clear hD hF
           go_simp
           exact hK _ _ (Below.refl _ _) rfl
          | 6, _ =>
           intro o ho ac w' hR hF hD K hK
           simp only [zqA, zqZ, zqS, zqI] at ho
           subst ho
           have e53 : ac.tmps.getD 53 undef = .pointer (some ⟨X.g, 0, none⟩) := hD 5 (zdp (by kernel_rfl)) 53 rfl
           have d53 := zgD e53
           clear hD hF
           go_simp
           exact hK _ _ (Below.refl _ _) rfl
          | 7, _ =>
           intro o ho ac w' hR hF hD K hK
           simp only [zqA, zqZ, zqS, zqI] at ho
           subst ho
           have e54 : ac.tmps.getD 54 undef = .pointer (some ⟨X.g, 0, none⟩) := hD 6 (zdp (by kernel_rfl)) 54 rfl
           have d54 := zgD e54
           clear hD hF
           have q0 : w'.cell? ⟨X.g, 0, none⟩ = some (.slice (some ⟨b, off, none⟩) nT X.lc) := bcell hR c0
           go_simp
           exact hK _ _ (Below.refl _ _) rfl
          | 8, _ =>
           intro o ho ac w' hR hF hD K hK
           simp only [zqA, zqZ, zqS, zqI] at ho
           subst ho
           have e55 : ac.tmps.getD 55 undef = .slice (some ⟨b, off, none⟩) nT X.lc := hD 7 (zdp (by kernel_rfl)) 55 rfl
           have d55 := zgD e55
           clear hD hF
           go_simp
           exact hK _ _ (Below.refl _ _) rfl
          | 9, _ =>
           intro o ho ac w' hR hF hD K hK
           simp only [zqA, zqZ, zqS, zqI] at ho
           subst ho
           have e51 : ac.tmps.getD 51 undef = .int .i64 (a : Int) := hD 3 (zdp (by kernel_rfl)) 51 rfl
           have d51 := zgD e51
           have e56 : ac.tmps.getD 56 undef = .int .i64 (nT : Int) := hD 8 (zdp (by kernel_rfl)) 56 rfl
           have d56 := zgD e56
           clear hD hF
           go_simp
           exact hK _ _ (Below.refl _ _) rfl
          | 10, _ =>
           intro o ho ac w' hR hF hD K hK
           simp only [zqA, zqZ, zqS, zqI] at ho
           subst ho
           have e57 : ac.tmps.getD 57 undef = .bool true := hD 9 (zdp (by kernel_rfl)) 57 rfl
           have g57 := getD_bool e57
           have d57 := zgD e57
           clear hD hF
           go_simp
           exact hK _ _ (Below.refl _ _) rfl
          | 11, _ =>
           intro o ho ac w' hR hF hD K hK
           simp only [zqA, zqZ, zqS, zqI] at ho
           subst ho
           have e0 : ac.tmps.getD 0 undef = .pointer (some ⟨X.g, 0, none⟩) := hF 0 (znd (by kernel_rfl))
           have d0 := zgD e0
           have e58 : ac.tmps.getD 58 undef = .bool true := hD 10 (zdp (by kernel_rfl)) 58 rfl
           have g58 := getD_bool e58
           have d58 := zgD e58
           clear hD hF
           go_simp
           exact hK _ _ (Below.refl _ _) rfl
          | 12, _ =>
           intro o ho ac w' hR hF hD K hK
           simp only [zqA, zqZ, zqS, zqI] at ho
           subst ho
           have e58 : ac.tmps.getD 58 undef = .bool true := hD 10 (zdp (by kernel_rfl)) 58 rfl
           have g58 := getD_bool e58
           have d58 := zgD e58
           have e59 : ac.tmps.getD 59 undef = .pointer (some ⟨X.g, 0, none⟩) := hD 11 (zdp (by kernel_rfl)) 59 rfl
           have d59 := zgD e59
           clear hD hF
           go_simp
           exact hK _ _ (Below.refl _ _) rfl
          | 13, _ =>
           intro o ho ac w' hR hF hD K hK
           simp only [zqA, zqZ, zqS, zqI] at ho
           subst ho
           have e58 : ac.tmps.getD 58 undef = .bool true := hD 10 (zdp (by kernel_rfl)) 58 rfl
           have g58 := getD_bool e58
           have d58 := zgD e58
           have e60 : ac.tmps.getD 60 undef = .pointer (some ⟨X.g, 0, none⟩) := hD 12 (zdp (by kernel_rfl)) 60 rfl
           have d60 := zgD e60
           clear hD hF
           go_simp
           exact hK _ _ (Below.refl _ _) rfl
          | 14, _ =>
           intro o ho ac w' hR hF hD K hK
           simp only [zqA, zqZ, zqS, zqI] at ho
           subst ho
           have e58 : ac.tmps.getD 58 undef = .bool true := hD 10 (zdp (by kernel_rfl)) 58 rfl
           have g58 := getD_bool e58
           have d58 := zgD e58
           have e61 : ac.tmps.getD 61 undef = .pointer (some ⟨X.g, 0, none⟩) := hD 13 (zdp (by kernel_rfl)) 61 rfl
           have d61 := zgD e61
           clear hD hF
           have q0 : w'.cell? ⟨X.g, 0, none⟩ = some (.slice (some ⟨b, off, none⟩) nT X.lc) := bcell hR c0
           go_simp
           exact hK _ _ (Below.refl _ _) rfl
          | 15, _ =>
           intro o ho ac w' hR hF hD K hK
           simp only [zqA, zqZ, zqS, zqI] at ho
           subst ho
           have e0 : ac.tmps.getD 0 undef = .pointer (some ⟨X.g, 0, none⟩) := hF 0 (znd (by kernel_rfl))
           have d0 := zgD e0
           have e58 : ac.tmps.getD 58 undef = .bool true := hD 10 (zdp (by kernel_rfl)) 58 rfl
           have g58 := getD_bool e58
           have d58 := zgD e58
           clear hD hF
           go_simp
           exact hK _ _ (Below.refl _ _) rfl
          | 16, _ =>
           intro o ho ac w' hR hF hD K hK
           simp only [zqA, zqZ, zqS, zqI] at ho
           subst ho
           have e58 : ac.tmps.getD 58 undef = .bool true := hD 10 (zdp (by kernel_rfl)) 58 rfl
           have g58 := getD_bool e58
           have d58 := zgD e58
           have e63 : ac.tmps.getD 63 undef = .pointer (some ⟨X.g, 0, none⟩) := hD 15 (zdp (by kernel_rfl)) 63 rfl
           have d63 := zgD e63
           clear hD hF
           go_simp
           exact hK _ _ (Below.refl _ _) rfl
          | 17, _ =>
           intro o ho ac w' hR hF hD K hK
           simp only [zqA, zqZ, zqS, zqI] at ho
           subst ho
           have e58 : ac.tmps.getD 58 undef = .bool true := hD 10 (zdp (by kernel_rfl)) 58 rfl
           have g58 := getD_bool e58
           have d58 := zgD e58
           have e64 : ac.tmps.getD 64 undef = .pointer (some ⟨X.g, 0, none⟩) := hD 16 (zdp (by kernel_rfl)) 64 rfl
           have d64 := zgD e64
           clear hD hF
           go_simp
           exact hK _ _ (Below.refl _ _) rfl
          | 18, _ =>
           intro o ho ac w' hR hF hD K hK
           simp only [zqA, zqZ, zqS, zqI] at ho
           subst ho
           have e58 : ac.tmps.getD 58 undef = .bool true := hD 10 (zdp (by kernel_rfl)) 58 rfl
           have g58 := getD_bool e58
           have d58 := zgD e58
           have e65 : ac.tmps.getD 65 undef = .pointer (some ⟨X.g, 1, none⟩) := hD 17 (zdp (by kernel_rfl)) 65 rfl
           have d65 := zgD e65
           clear hD hF
           have q0 : w'.cell? ⟨X.g, 1, none⟩ = some (.int .i64 (a : Int)) := bcell hR c1
           go_simp
           exact hK _ _ (Below.refl _ _) rfl
          | 19, _ =>
           intro o ho ac w' hR hF hD K hK
           simp only [zqA, zqZ, zqS, zqI] at ho
           subst ho
           have e58 : ac.tmps.getD 58 undef = .bool true := hD 10 (zdp (by kernel_rfl)) 58 rfl
           have g58 := getD_bool e58
           have d58 := zgD e58
           have e62 : ac.tmps.getD 62 undef = .slice (some ⟨b, off, none⟩) nT X.lc := hD 14 (zdp (by kernel_rfl)) 62 rfl
           have d62 := zgD e62
           have e66 : ac.tmps.getD 66 undef = .int .i64 (a : Int) := hD 18 (zdp (by kernel_rfl)) 66 rfl
           have d66 := zgD e66
           clear hD hF
           go_simp
           exact hK _ _ (Below.refl _ _) rfl
          | 20, _ =>
           intro o ho ac w' hR hF hD K hK
           simp only [zqA, zqZ, zqS, zqI] at ho
           subst ho
           have e58 : ac.tmps.getD 58 undef = .bool true := hD 10 (zdp (by kernel_rfl)) 58 rfl
           have g58 := getD_bool e58
           have d58 := zgD e58
           have e67 : ac.tmps.getD 67 undef = .pointer (some ⟨b, off + a * 4, none⟩) := hD 19 (zdp (by kernel_rfl)) 67 rfl
           have d67 := zgD e67
           clear hD hF
           go_simp
           exact hK _ _ (Below.refl _ _) rfl
          | 21, _ =>
           intro o ho ac w' hR hF hD K hK
           simp only [zqA, zqZ, zqS, zqI] at ho
           subst ho
           have e58 : ac.tmps.getD 58 undef = .bool true := hD 10 (zdp (by kernel_rfl)) 58 rfl
           have g58 := getD_bool e58
           have d58 := zgD e58
           have e68 : ac.tmps.getD 68 undef = .pointer (some ⟨b, off + a * 4, none⟩) := hD 20 (zdp (by kernel_rfl)) 68 rfl
           have d68 := zgD e68
           clear hD hF
           have q0 : w'.cell? ⟨b, off + a * 4, none⟩ = some (.int .i64 (tk : Int)) := bcell hR d0
           go_simp
           exact hK _ _ (Below.refl _ _) rfl
          | 22, _ =>
           intro o ho ac w' hR hF hD K hK
           simp only [zqA, zqZ, zqS, zqI] at ho
           subst ho
           have e58 : ac.tmps.getD 58 undef = .bool true := hD 10 (zdp (by kernel_rfl)) 58 rfl
           have g58 := getD_bool e58
           have d58 := zgD e58
           have e69 : ac.tmps.getD 69 undef = .int .i64 (tk : Int) := hD 21 (zdp (by kernel_rfl)) 69 rfl
           have d69 := zgD e69
           clear hD hF
           go_simp
           exact hK _ _ (Below.refl _ _) rfl
          | 23, _ =>
           intro o ho ac w' hR hF hD K hK
           simp only [zqA, zqZ, zqS, zqI] at ho
           subst ho
           have e58 : ac.tmps.getD 58 undef = .bool true := hD 10 (zdp (by kernel_rfl)) 58 rfl
           have g58 := getD_bool e58
           have d58 := zgD e58
           have e70 : ac.tmps.getD 70 undef = .bool true := hD 22 (zdp (by kernel_rfl)) 70 rfl
           have g70 := getD_bool e70
           have d70 := zgD e70
           clear hD hF
           go_simp
           exact hK _ _ (Below.refl _ _) rfl
          | 24, _ =>
           intro o ho ac w' hR hF hD K hK
           simp only [zqA, zqZ, zqS, zqI] at ho
           subst ho
           have e58 : ac.tmps.getD 58 undef = .bool true := hD 10 (zdp (by kernel_rfl)) 58 rfl
           have g58 := getD_bool e58
           have d58 := zgD e58
           have e71 : ac.tmps.getD 71 undef = .bool true := hD 23 (zdp (by kernel_rfl)) 71 rfl
           have g71 := getD_bool e71
           have d71 := zgD e71
           clear hD hF
           go_simp
           exact hK _ _ (Below.refl _ _) rfl
          | 25, _ =>
           intro o ho ac w' hR hF hD K hK
           simp only [zqA, zqZ, zqS, zqI] at ho
           subst ho
           have e0 : ac.tmps.getD 0 undef = .pointer (some ⟨X.g, 0, none⟩) := hF 0 (znd (by kernel_rfl))
           have d0 := zgD e0
           have e72 : ac.tmps.getD 72 undef = .bool true := hD 24 (zdp (by kernel_rfl)) 72 rfl
           have g72 := getD_bool e72
           have d72 := zgD e72
           clear hD hF
           go_simp
           exact hK _ _ (Below.refl _ _) rfl
          | 26, _ =>
           intro o ho ac w' hR hF hD K hK
           simp only [zqA, zqZ, zqS, zqI] at ho
           subst ho
           have e72 : ac.tmps.getD 72 undef = .bool true := hD 24 (zdp (by kernel_rfl)) 72 rfl
           have g72 := getD_bool e72
           have d72 := zgD e72
           have e73 : ac.tmps.getD 73 undef = .pointer (some ⟨X.g, 0, none⟩) := hD 25 (zdp (by kernel_rfl)) 73 rfl
           have d73 := zgD e73
           clear hD hF
           go_simp
           exact hK _ _ (Below.refl _ _) rfl
          | 27, _ =>
           intro o ho ac w' hR hF hD K hK
           simp only [zqA, zqZ, zqS, zqI] at ho
           subst ho
           have e72 : ac.tmps.getD 72 undef = .bool true := hD 24 (zdp (by kernel_rfl)) 72 rfl
           have g72 := getD_bool e72
           have d72 := zgD e72
           have e74 : ac.tmps.getD 74 undef = .pointer (some ⟨X.g, 0, none⟩) := hD 26 (zdp (by kernel_rfl)) 74 rfl
           have d74 := zgD e74
           clear hD hF
           go_simp
           exact hK _ _ (Below.refl _ _) rfl
          | 28, _ =>
           intro o ho ac w' hR hF hD K hK
           simp only [zqA, zqZ, zqS, zqI] at ho
           subst ho
           have e72 : ac.tmps.getD 72 undef = .bool true := hD 24 (zdp (by kernel_rfl)) 72 rfl
           have g72 := getD_bool e72
           have d72 := zgD e72
           have e75 : ac.tmps.getD 75 undef = .pointer (some ⟨X.g, 0, none⟩) := hD 27 (zdp (by kernel_rfl)) 75 rfl
           have d75 := zgD e75
           clear hD hF
           have q0 : w'.cell? ⟨X.g, 0, none⟩ = some (.slice (some ⟨b, off, none⟩) nT X.lc) := bcell hR c0
           go_simp
           exact hK _ _ (Below.refl _ _) rfl
          | 29, _ =>
           intro o ho ac w' hR hF hD K hK
           simp only [zqA, zqZ, zqS, zqI] at ho
           subst ho
           have e0 : ac.tmps.getD 0 undef = .pointer (some ⟨X.g, 0, none⟩) := hF 0 (znd (by kernel_rfl))
           have d0 := zgD e0
           have e72 : ac.tmps.getD 72 undef = .bool true := hD 24 (zdp (by kernel_rfl)) 72 rfl
           have g72 := getD_bool e72
           have d72 := zgD e72
           clear hD hF
           go_simp
           exact hK _ _ (Below.refl _ _) rfl
          | 30, _ =>
           intro o ho ac w' hR hF hD K hK
           simp only [zqA, zqZ, zqS, zqI] at ho
           subst ho
           have e72 : ac.tmps.getD 72 undef = .bool true := hD 24 (zdp (by kernel_rfl)) 72 rfl
           have g72 := getD_bool e72
           have d72 := zgD e72
           have e77 : ac.tmps.getD 77 undef = .pointer (some ⟨X.g, 0, none⟩) := hD 29 (zdp (by kernel_rfl)) 77 rfl
           have d77 := zgD e77
           clear hD hF
           go_simp
           exact hK _ _ (Below.refl _ _) rfl
          | 31, _ =>
           intro o ho ac w' hR hF hD K hK
           simp only [zqA, zqZ, zqS, zqI] at ho
           subst ho
           have e72 : ac.tmps.getD 72 undef = .bool true := hD 24 (zdp (by kernel_rfl)) 72 rfl
           have g72 := getD_bool e72
           have d72 := zgD e72
           have e78 : ac.tmps.getD 78 undef = .pointer (some ⟨X.g, 0, none⟩) := hD 30 (zdp (by kernel_rfl)) 78 rfl
           have d78 := zgD e78
           clear hD hF
           go_simp
           exact hK _ _ (Below.refl _ _) rfl
          | 32, _ =>
           intro o ho ac w' hR hF hD K hK
           simp only [zqA, zqZ, zqS, zqI] at ho
           subst ho
           have e72 : ac.tmps.getD 72 undef = .bool true := hD 24 (zdp (by kernel_rfl)) 72 rfl
           have g72 := getD_bool e72
           have d72 := zgD e72
           have e79 : ac.tmps.getD 79 undef = .pointer (some ⟨X.g, 1, none⟩) := hD 31 (zdp (by kernel_rfl)) 79 rfl
           have d79 := zgD e79
           clear hD hF
           have q0 : w'.cell? ⟨X.g, 1, none⟩ = some (.int .i64 (a : Int)) := bcell hR c1
           go_simp
           exact hK _ _ (Below.refl _ _) rfl
          | 33, _ =>
           intro o ho ac w' hR hF hD K hK
           simp only [zqA, zqZ, zqS, zqI] at ho
           subst ho
           have e72 : ac.tmps.getD 72 undef = .bool true := hD 24 (zdp (by kernel_rfl)) 72 rfl
           have g72 := getD_bool e72
           have d72 := zgD e72
           have e76 : ac.tmps.getD 76 undef = .slice (some ⟨b, off, none⟩) nT X.lc := hD 28 (zdp (by kernel_rfl)) 76 rfl
           have d76 := zgD e76
           have e80 : ac.tmps.getD 80 undef = .int .i64 (a : Int) := hD 32 (zdp (by kernel_rfl)) 80 rfl
           have d80 := zgD e80
           clear hD hF
           go_simp
           exact hK _ _ (Below.refl _ _) rfl
          | 34, _ =>
           intro o ho ac w' hR hF hD K hK
           simp only [zqA, zqZ, zqS, zqI] at ho
           subst ho
           have e72 : ac.tmps.getD 72 undef = .bool true := hD 24 (zdp (by kernel_rfl)) 72 rfl
           have g72 := getD_bool e72
           have d72 := zgD e72
           have e81 : ac.tmps.getD 81 undef = .pointer (some ⟨b, off + a * 4, none⟩) := hD 33 (zdp (by kernel_rfl)) 81 rfl
           have d81 := zgD e81
           clear hD hF
           go_simp
           exact hK _ _ (Below.refl _ _) rfl
          | 35, _ =>
           intro o ho ac w' hR hF hD K hK
           simp only [zqA, zqZ, zqS, zqI] at ho
           subst ho
           have e72 : ac.tmps.getD 72 undef = .bool true := hD 24 (zdp (by kernel_rfl)) 72 rfl
           have g72 := getD_bool e72
           have d72 := zgD e72
           have e82 : ac.tmps.getD 82 undef = .pointer (some ⟨b, off + a * 4 + 3, none⟩) := hD 34 (zdp (by kernel_rfl)) 82 rfl
           have d82 := zgD e82
           clear hD hF
           have q0 : w'.cell? ⟨b, off + a * 4 + 3, none⟩ = some (.string ts) := bcell hR d3
           go_simp
           exact hK _ _ (Below.refl _ _) rfl
          | 36, _ =>
           intro o ho ac w' hR hF hD K hK
           simp only [zqA, zqZ, zqS, zqI] at ho
           subst ho
           have e72 : ac.tmps.getD 72 undef = .bool true := hD 24 (zdp (by kernel_rfl)) 72 rfl
           have g72 := getD_bool e72
           have d72 := zgD e72
           have e83 : ac.tmps.getD 83 undef = .string ts := hD 35 (zdp (by kernel_rfl)) 83 rfl
           have d83 := zgD e83
           clear hD hF
           go_simp
           refine (OW.out w' hR).mono ?_
           rintro e w2 ⟨rfl, hb2⟩
           exact hK _ _ hb2 rfl
          | 37, _ =>
           intro o ho ac w' hR hF hD K hK
           simp only [zqA, zqZ, zqS, zqI] at ho
           subst ho
           have e72 : ac.tmps.getD 72 undef = .bool true := hD 24 (zdp (by kernel_rfl)) 72 rfl
           have g72 := getD_bool e72
           have d72 := zgD e72
           have e84 : ac.tmps.getD 84 undef = .bool false := hD 36 (zdp (by kernel_rfl)) 84 rfl
           have g84 := getD_bool e84
           have d84 := zgD e84
           clear hD hF
           go_simp
           exact hK _ _ (Below.refl _ _) rfl
          | k + 38, hk => omega
         ·rintro ⟨tm, df⟩ w5 hdf hsz hF hR9 hV
          obtain rfl : df = [] := hdf
          obtain ⟨q, rfl⟩ := frameL116 tm hsz
          have k71 : q 71 = .bool true := hV 23 71 (by decide) rfl
          have k72 : q 72 = .bool true := hV 24 72 (by decide) rfl
          have k85 : q 85 = .bool true := hV 37 85 (by decide) rfl
          simp only [k71, k72, k85]
          clear k71 k72 k85
          have kk := zbk hF [0, 1, 2, 3, 4, 5, 6, 7, 8, 9, 10, 11, 12, 13, 14, 15, 16, 17, 18, 19, 20, 21, 22, 23, 24, 25, 26, 27, 28, 29, 30, 31, 32, 33, 34, 35, 36, 37, 38, 39, 40, 41, 42, 43, 44, 45, 46, 47, 86, 87, 88, 89, 90, 91, 92, 93, 94, 95, 96, 97, 98, 99, 100, 101, 102, 103, 104, 105, 106, 107, 108, 109, 110, 111, 112, 113, 114, 115] (by kernel_rfl)
          simp only [Bk, Array.getD_eq_getD_getElem?, zqA, zqS, zqZ, Option.getD_some] at kk
          simp only [kk]
          clear kk
          clear hF hV hsz
          change wpAny _ _ _ _ 1 _ _ _
          refine wpAny_ready (rs := [38]) (by kernel_rfl) (by simp) ?_
          refine AllReady.cons (i := 38) rfl (fun K hK => ?_) AllReady.nil
          go_simp
          refine hK _ _ ?_
          clear hK K
          refine ⟨by kernel_rfl, ?_⟩
          generalize hna : nameAt X.N tt = na0 at RST hpr NP
          clear hna
          cases na0 with
          | some pk =>
           have hR2 := Lib.hid (hpr pk rfl)
           clear hpr RST
           go_upto_region 14 with (fail)
           refine wp_region_kp (by kernel_rfl) 17 [.fix (.pointer (some ⟨X.g, 0, none⟩)), .fix (.pointer (some ⟨X.g, 0, none⟩)), .fix (.pointer (some ⟨X.g, 0, none⟩)), .fix (.pointer (some ⟨X.g, 0, none⟩)), .fix (.slice (some ⟨b, off, none⟩) nT X.lc), .fix (.pointer (some ⟨X.g, 0, none⟩)), .fix (.pointer (some ⟨X.g, 0, none⟩)), .fix (.pointer (some ⟨X.g, 1, none⟩)), .fix (.int .i64 (a : Int)), .fix (.pointer (some ⟨b, off + a * 4, none⟩)), .fix (.pointer (some ⟨b, off + a * 4 + 3, none⟩)), .fix (.string ts), .fix (.tuple #[.int .i64 (pk : Int), .bool true]), .fix (.tuple #[.int .i64 (pk : Int), .bool true]), .fix (.int .i64 (pk : Int)), .fix (.bool true), .fix (.int .i64 (pk : Int))] (by kernel_rfl) (by kernel_rfl) (by kernel_rfl) ?_ ?_
           ·intro i hi
            match i, hi with
            | 0, _ =>
             intro o ho ac w' hR hF hD K hK
             simp only [zqA, zqZ, zqI] at ho
             subst ho
             have e0 : ac.tmps.getD 0 undef = .pointer (some ⟨X.g, 0, none⟩) := hF 0 (znd (by kernel_rfl))
             have d0 := zgD e0
             clear hD hF
             go_simp
             exact hK _ _ (Below.refl _ _) rfl
            | 1, _ =>
             intro o ho ac w' hR hF hD K hK
             simp only [zqA, zqZ, zqS, zqI] at ho
             subst ho
             have e0 : ac.tmps.getD 0 undef = .pointer (some ⟨X.g, 0, none⟩) := hF 0 (znd (by kernel_rfl))
             have d0 := zgD e0
             clear hD hF
             go_simp
             exact hK _ _ (Below.refl _ _) rfl
            | 2, _ =>
             intro o ho ac w' hR hF hD K hK
             simp only [zqA, zqZ, zqS, zqI] at ho
             subst ho
             have e89 : ac.tmps.getD 89 undef = .pointer (some ⟨X.g, 0, none⟩) := hD 1 (zdp (by kernel_rfl)) 89 rfl
             have d89 := zgD e89
             clear hD hF
             go_simp
             exact hK _ _ (Below.refl _ _) rfl
            | 3, _ =>
             intro o ho ac w' hR hF hD K hK
             simp only [zqA, zqZ, zqS, zqI] at ho
             subst ho
             have e90 : ac.tmps.getD 90 undef = .pointer (some ⟨X.g, 0, none⟩) := hD 2 (zdp (by kernel_rfl)) 90 rfl
             have d90 := zgD e90
             clear hD hF
             go_simp
             exact hK _ _ (Below.refl _ _) rfl
            | 4, _ =>
             intro o ho ac w' hR hF hD K hK
             simp only [zqA, zqZ, zqS, zqI] at ho
             subst ho
             have e91 : ac.tmps.getD 91 undef = .pointer (some ⟨X.g, 0, none⟩) := hD 3 (zdp (by kernel_rfl)) 91 rfl
             have d91 := zgD e91
             clear hD hF
             have q0 : w'.cell? ⟨X.g, 0, none⟩ = some (.slice (some ⟨b, off, none⟩) nT X.lc) := bcell (btrans hR9 hR) c0
             go_simp
             exact hK _ _ (Below.refl _ _) rfl
            | 5, _ =>
             intro o ho ac w' hR hF hD K hK
             simp only [zqA, zqZ, zqS, zqI] at ho
             subst ho
             have e0 : ac.tmps.getD 0 undef = .pointer (some ⟨X.g, 0, none⟩) := hF 0 (znd (by kernel_rfl))
             have d0 := zgD e0
             clear hD hF
             go_simp
             exact hK _ _ (Below.refl _ _) rfl
            | 6, _ =>
             intro o ho ac w' hR hF hD K hK
             simp only [zqA, zqZ, zqS, zqI] at ho
             subst ho
             have e93 : ac.tmps.getD 93 undef = .pointer (some ⟨X.g, 0, none⟩) := hD 5 (zdp (by kernel_rfl)) 93 rfl
             have d93 := zgD e93
             clear hD hF
             go_simp
             exact hK _ _ (Below.refl _ _) rfl
            | 7, _ =>
             intro o ho ac w' hR hF hD K hK
             simp only [zqA, zqZ, zqS, zqI] at ho
             subst ho
             have e94 : ac.tmps.getD 94 undef = .pointer (some ⟨X.g, 0, none⟩) := hD 6 (zdp (by kernel_rfl)) 94 rfl
             have d94 := zgD e94
             clear hD hF
             go_simp
             exact hK _ _ (Below.refl _ _) rfl
            | 8, _ =>
             intro o ho ac w' hR hF hD K hK
             simp only [zqA, zqZ, zqS, zqI] at ho
             subst ho
             have e95 : ac.tmps.getD 95 undef = .pointer (some ⟨X.g, 1, none⟩) := hD 7 (zdp (by kernel_rfl)) 95 rfl
             have d95 := zgD e95
             clear hD hF
             have q0 : w'.cell? ⟨X.g, 1, none⟩ = some (.int .i64 (a : Int)) := bcell (btrans hR9 hR) c1
             go_simp
             exact hK _ _ (Below.refl _ _) rfl
            | 9, _ =>
             intro o ho ac w' hR hF hD K hK
             simp only [zqA, zqZ, zqS, zqI] at ho
             subst ho
             have e92 : ac.tmps.getD 92 undef = .slice (some ⟨b, off, none⟩) nT X.lc := hD 4 (zdp (by kernel_rfl)) 92 rfl
             have d92 := zgD e92
             have e96 : ac.tmps.getD 96 undef = .int .i64 (a : Int) := hD 8 (zdp (by kernel_rfl)) 96 rfl
             have d96 := zgD e96
             clear hD hF
             go_simp
             exact hK _ _ (Below.refl _ _) rfl
            | 10, _ =>
             intro o ho ac w' hR hF hD K hK
             simp only [zqA, zqZ, zqS, zqI] at ho
             subst ho
             have e97 : ac.tmps.getD 97 undef = .pointer (some ⟨b, off + a * 4, none⟩) := hD 9 (zdp (by kernel_rfl)) 97 rfl
             have d97 := zgD e97
             clear hD hF
             go_simp
             exact hK _ _ (Below.refl _ _) rfl
            | 11, _ =>
             intro o ho ac w' hR hF hD K hK
             simp only [zqA, zqZ, zqS, zqI] at ho
             subst ho
             have e98 : ac.tmps.getD 98 undef = .pointer (some ⟨b, off + a * 4 + 3, none⟩) := hD 10 (zdp (by kernel_rfl)) 98 rfl
             have d98 := zgD e98
             clear hD hF
             have q0 : w'.cell? ⟨b, off + a * 4 + 3, none⟩ = some (.string ts) := bcell (btrans hR9 hR) d3
             go_simp
             exact hK _ _ (Below.refl _ _) rfl
            | 12, _ =>
             intro o ho ac w' hR hF hD K hK
             simp only [zqA, zqZ, zqS, zqI] at ho
             subst ho
             have e88 : ac.tmps.getD 88 undef = .pointer (some ⟨X.g, 0, none⟩) := hD 0 (zdp (by kernel_rfl)) 88 rfl
             have d88 := zgD e88
             have e99 : ac.tmps.getD 99 undef = .string ts := hD 11 (zdp (by kernel_rfl)) 99 rfl
             have d99 := zgD e99
             clear hD hF
             go_simp
             refine (NP.out w' (btrans hR9 hR)).mono ?_
             rintro e w2 ⟨hnw, hb2⟩
             obtain rfl : e = .returned (.tuple #[.int .i64 (pk : Int), .bool true]) := hnw
             exact hK _ _ hb2 rfl
            | 13, _ =>
             intro o ho ac w' hR hF hD K hK
             simp only [zqA, zqZ, zqS, zqI] at ho
             subst ho
             have e100 : ac.tmps.getD 100 undef = .tuple #[.int .i64 (pk : Int), .bool true] := hD 12 (zdp (by kernel_rfl)) 100 rfl
             have d100 := zgD e100
             clear hD hF
             go_simp
             exact hK _ _ (Below.refl _ _) rfl
            | 14, _ =>
             intro o ho ac w' hR hF hD K hK
             simp only [zqA, zqZ, zqS, zqI] at ho
             subst ho
             have e87 : ac.tmps.getD 87 undef = .tuple #[.int .i64 (pk : Int), .bool true] := hD 13 (zdp (by kernel_rfl)) 87 rfl
             have d87 := zgD e87
             clear hD hF
             go_simp
             exact hK _ _ (Below.refl _ _) rfl
            | 15, _ =>
             intro o ho ac w' hR hF hD K hK
             simp only [zqA, zqZ, zqS, zqI] at ho
             subst ho
             have e87 : ac.tmps.getD 87 undef = .tuple #[.int .i64 (pk : Int), .bool true] := hD 13 (zdp (by kernel_rfl)) 87 rfl
             have d87 := zgD e87
             clear hD hF
             go_simp
             exact hK _ _ (Below.refl _ _) rfl
            | 16, _ =>
             intro o ho ac w' hR hF hD K hK
             simp only [zqA, zqZ, zqS, zqI] at ho
             subst ho
             have e87 : ac.tmps.getD 87 undef = .tuple #[.int .i64 (pk : Int), .bool true] := hD 13 (zdp (by kernel_rfl)) 87 rfl
             have d87 := zgD e87
             have e88 : ac.tmps.getD 88 undef = .pointer (some ⟨X.g, 0, none⟩) := hD 0 (zdp (by kernel_rfl)) 88 rfl
             have d88 := zgD e88
             have e89 : ac.tmps.getD 89 undef = .pointer (some ⟨X.g, 0, none⟩) := hD 1 (zdp (by kernel_rfl)) 89 rfl
             have d89 := zgD e89
             have e90 : ac.tmps.getD 90 undef = .pointer (some ⟨X.g, 0, none⟩) := hD 2 (zdp (by kernel_rfl)) 90 rfl
             have d90 := zgD e90
             have e91 : ac.tmps.getD 91 undef = .pointer (some ⟨X.g, 0, none⟩) := hD 3 (zdp (by kernel_rfl)) 91 rfl
             have d91 := zgD e91
             have e92 : ac.tmps.getD 92 undef = .slice (some ⟨b, off, none⟩) nT X.lc := hD 4 (zdp (by kernel_rfl)) 92 rfl
             have d92 := zgD e92
             have e93 : ac.tmps.getD 93 undef = .pointer (some ⟨X.g, 0, none⟩) := hD 5 (zdp (by kernel_rfl)) 93 rfl
             have d93 := zgD e93
             have e94 : ac.tmps.getD 94 undef = .pointer (some ⟨X.g, 0, none⟩) := hD 6 (zdp (by kernel_rfl)) 94 rfl
             have d94 := zgD e94
             have e95 : ac.tmps.getD 95 undef = .pointer (some ⟨X.g, 1, none⟩) := hD 7 (zdp (by kernel_rfl)) 95 rfl
             have d95 := zgD e95
             have e96 : ac.tmps.getD 96 undef = .int .i64 (a : Int) := hD 8 (zdp (by kernel_rfl)) 96 rfl
             have d96 := zgD e96
             have e97 : ac.tmps.getD 97 undef = .pointer (some ⟨b, off + a * 4, none⟩) := hD 9 (zdp (by kernel_rfl)) 97 rfl
             have d97 := zgD e97
             have e98 : ac.tmps.getD 98 undef = .pointer (some ⟨b, off + a * 4 + 3, none⟩) := hD 10 (zdp (by kernel_rfl)) 98 rfl
             have d98 := zgD e98
             have e99 : ac.tmps.getD 99 undef = .string ts := hD 11 (zdp (by kernel_rfl)) 99 rfl
             have d99 := zgD e99
             have e100 : ac.tmps.getD 100 undef = .tuple #[.int .i64 (pk : Int), .bool true] := hD 12 (zdp (by kernel_rfl)) 100 rfl
             have d100 := zgD e100
             have e101 : ac.tmps.getD 101 undef = .int .i64 (pk : Int) := hD 14 (zdp (by kernel_rfl)) 101 rfl
             have d101 := zgD e101
             clear hD hF
             go_simp
             exact hK _ _ (Below.refl _ _) rfl
            | k + 17, hk => omega
           ·rintro ⟨tm, df⟩ w6 hdf hsz hF hRA hV
            obtain rfl : df = [] := hdf
            obtain ⟨q, rfl⟩ := frameL116 tm hsz
            have k102 : q 102 = .bool true := hV 15 102 (by decide) rfl
            have k5 : q 5 = .int .i64 (pk : Int) := hV 16 5 (by decide) rfl
            simp only [k102, k5]
            clear k102 k5
            have kk := zbk hF [0, 1, 2, 3, 4, 6, 7, 8, 9, 10, 11, 12, 13, 14, 15, 16, 17, 18, 19, 20, 21, 22, 23, 24, 25, 26, 27, 28, 29, 30, 31, 32, 33, 34, 35, 36, 37, 38, 39, 40, 41, 42, 43, 44, 45, 46, 47, 48, 49, 50, 51, 52, 53, 54, 55, 56, 57, 58, 59, 60, 61, 62, 63, 64, 65, 66, 67, 68, 69, 70, 71, 72, 73, 74, 75, 76, 77, 78, 79, 80, 81, 82, 83, 84, 85, 86, 103, 104, 105, 106, 107, 108, 109, 110, 111, 112, 113, 114, 115] (by kernel_rfl)
            simp only [Bk, Array.getD_eq_getD_getElem?, zqA, zqS, zqZ, Option.getD_some] at kk
            simp only [kk]
            clear kk
            clear hF hV hsz
            change wpAny _ _ _ _ 1 _ _ _
            refine wpAny_ready (rs := [17]) (by kernel_rfl) (by simp) ?_
            refine AllReady.cons (i := 17) rfl (fun K hK => ?_) AllReady.nil
            go_simp
            refine hK _ _ ?_
            clear hK K
            refine ⟨by kernel_rfl, ?_⟩
            have b6 := btrans hR9 hRA
            have rs6 := rs4.out.below b6
            have g6 := Lib.hid (gr4.out.trans (RdG.below b6))
            have p1 : w6.cell? ⟨X.g, 1, none⟩ = some (.int .i64 (a : Int)) := rs6.box.cell 1
            have pf1 := rs6.box.free 1
            have haI : (a : Int) ≤ 6000 := by have := hnT.out; have := hltH.out; omega
            have wra : IntKind.i64.wrap ((a : Int) + 1) = (a : Int) + 1 := IntWalk.i64_in _ (by omega)
            have st6 : Hid (RdS X (w6.setCell ⟨X.g, 1, none⟩ (.int .i64 ((a : Int) + 1))) (a + 1) O oa oc 0 0 ∧ RdG X.g w6 (w6.setCell ⟨X.g, 1, none⟩ (.int .i64 ((a : Int) + 1))) (Value.slice oa O.length oc).ownBlock (Value.slice oa O.length oc).ownBlock) := by
             have k1 : Keeps w6 (w6.setCell ⟨X.g, 1, none⟩ (.int .i64 ((a : Int) + 1))) (fun j => j = X.g) := Keeps.set _ _ _ _ rfl
             refine ⟨⟨rs6.box.set 1 _, OwnR.keeps rs6.own k1 (fun j hj e => rs6.ap j hj e), rs6.ap, k1.below rs6.bel (fun j e => by rw [e]; exact HX.out.gB), by have := rs6.le; omega, hltH.out⟩, (Keeps.refl _ _).trans k1 (fun j _ e => .inl e), fun j e => .inl e⟩
            clear hR9 hRA b6 rs6 c0 c1 d0 d3
            go_upto_region 16 with (fail)
            refine wp_region_list ?_
            refine wpList_plain rfl (fun K hK => ?_)
            go_simp
            refine hK _ _ ?_
            clear hK K
            refine wpList_plain rfl (fun K hK => ?_)
            go_simp
            refine hK _ _ ?_
            clear hK K
            refine wpList_plain rfl (fun K hK => ?_)
            go_simp
            refine hK _ _ ?_
            clear hK K
            refine wpList_plain rfl (fun K hK => ?_)
            go_simp
            refine hK _ _ ?_
            clear hK K
            refine wpList_plain rfl (fun K hK => ?_)
            go_simp
            refine hK _ _ ?_
            clear hK K
            refine wpList_plain rfl (fun K hK => ?_)
            go_simp
            refine hK _ _ ?_
            clear hK K
            refine wpList_plain rfl (fun K hK => ?_)
            go_simp
            refine hK _ _ ?_
            clear hK K
            refine wpList_plain rfl (fun K hK => ?_)
            go_simp
            refine hK _ _ ?_
            clear hK K
            refine wpList_nil ?_
            clear p1 pf1 wra
            generalize w6.setCell ⟨X.g, 1, none⟩ (.int .i64 ((a : Int) + 1)) = w7 at st6 ⊢
            have P1 := Lib.hid (PUT.out w7 _ _ oa oc st6.out.1 (by have := hle.out; omega) 3 (pk : Int))
            have g7 := Lib.hid (g6.out.trans st6.out.2)
            clear st6 g6
            go_wp2_with fail
            refine P1.out.mono ?_
            rintro e w8 ⟨rfl, oa4, oc4, rs8, gr8⟩
            have fin : Hid (RdP X R w O oa oc (.returned (.bool true)) w8) := by
             show RdP _ _ _ _ _ _ _ _
             rw [hR2.out]
             exact RdP.okI rfl (by rw [List.length_drop, hCl.out]; have := hltH.out; omega) rs8 (g7.out.trans gr8)
            clear rs8 gr8 P1 g7
            go_wp2
            go_ret
            exact fin.out
          | none =>
           have hR2 := Lib.hid (RST.out (fun i e => by cases e))
           clear hpr RST PUT
           go_upto_region 14 with (fail)
           refine wp_region_kp (by kernel_rfl) 17 [.fix (.pointer (some ⟨X.g, 0, none⟩)), .fix (.pointer (some ⟨X.g, 0, none⟩)), .fix (.pointer (some ⟨X.g, 0, none⟩)), .fix (.pointer (some ⟨X.g, 0, none⟩)), .fix (.slice (some ⟨b, off, none⟩) nT X.lc), .fix (.pointer (some ⟨X.g, 0, none⟩)), .fix (.pointer (some ⟨X.g, 0, none⟩)), .fix (.pointer (some ⟨X.g, 1, none⟩)), .fix (.int .i64 (a : Int)), .fix (.pointer (some ⟨b, off + a * 4, none⟩)), .fix (.pointer (some ⟨b, off + a * 4 + 3, none⟩)), .fix (.string ts), Kp.tupF, Kp.tupF, Kp.intE, .fix (.bool false), Kp.intE] (by kernel_rfl) (by kernel_rfl) (by kernel_rfl) ?_ ?_
           ·intro i hi
            match i, hi with
            | 0, _ =>
             intro o ho ac w' hR hF hD K hK
             simp only [zqA, zqZ, zqI] at ho
             subst ho
             have e0 : ac.tmps.getD 0 undef = .pointer (some ⟨X.g, 0, none⟩) := hF 0 (znd (by kernel_rfl))
             have d0 := zgD e0
             clear hD hF
             go_simp
             exact hK _ _ (Below.refl _ _) rfl
            | 1, _ =>
             intro o ho ac w' hR hF hD K hK
             simp only [zqA, zqZ, zqS, zqI] at ho
             subst ho
             have e0 : ac.tmps.getD 0 undef = .pointer (some ⟨X.g, 0, none⟩) := hF 0 (znd (by kernel_rfl))
             have d0 := zgD e0
             clear hD hF
             go_simp
             exact hK _ _ (Below.refl _ _) rfl
            | 2, _ =>
             intro o ho ac w' hR hF hD K hK
             simp only [zqA, zqZ, zqS, zqI] at ho
             subst ho
             have e89 : ac.tmps.getD 89 undef = .pointer (some ⟨X.g, 0, none⟩) := hD 1 (zdp (by kernel_rfl)) 89 rfl
             have d89 := zgD e89
             clear hD hF
             go_simp
             exact hK _ _ (Below.refl _ _) rfl
            | 3, _ =>
             intro o ho ac w' hR hF hD K hK
             simp only [zqA, zqZ, zqS, zqI] at ho
             subst ho
             have e90 : ac.tmps.getD 90 undef = .pointer (some ⟨X.g, 0, none⟩) := hD 2 (zdp (by kernel_rfl)) 90 rfl
             have d90 := zgD e90
             clear hD hF
             go_simp
             exact hK _ _ (Below.refl _ _) rfl
            | 4, _ =>
             intro o ho ac w' hR hF hD K hK
             simp only [zqA, zqZ, zqS, zqI] at ho
             subst ho
             have e91 : ac.tmps.getD 91 undef = .pointer (some ⟨X.g, 0, none⟩) := hD 3 (zdp (by kernel_rfl)) 91 rfl
             have d91 := zgD e91
             clear hD hF
             have q0 : w'.cell? ⟨X.g, 0, none⟩ = some (.slice (some ⟨b, off, none⟩) nT X.lc) := bcell (btrans hR9 hR) c0
             go_simp
             exact hK _ _ (Below.refl _ _) rfl
            | 5, _ =>
             intro o ho ac w' hR hF hD K hK
             simp only [zqA, zqZ, zqS, zqI] at ho
             subst ho
             have e0 : ac.tmps.getD 0 undef = .pointer (some ⟨X.g, 0, none⟩) := hF 0 (znd (by kernel_rfl))
             have d0 := zgD e0
             clear hD hF
             go_simp
             exact hK _ _ (Below.refl _ _) rfl
            | 6, _ =>
             intro o ho ac w' hR hF hD K hK
             simp only [zqA, zqZ, zqS, zqI] at ho
             subst ho
             have e93 : ac.tmps.getD 93 undef = .pointer (some ⟨X.g, 0, none⟩) := hD 5 (zdp (by kernel_rfl)) 93 rfl
             have d93 := zgD e93
             clear hD hF
             go_simp
             exact hK _ _ (Below.refl _ _) rfl
            | 7, _ =>
             intro o ho ac w' hR hF hD K hK
             simp only [zqA, zqZ, zqS, zqI] at ho
             subst ho
             have e94 : ac.tmps.getD 94 undef = .pointer (some ⟨X.g, 0, none⟩) := hD 6 (zdp (by kernel_rfl)) 94 rfl
             have d94 := zgD e94
             clear hD hF
             go_simp
             exact hK _ _ (Below.refl _ _) rfl
            | 8, _ =>
             intro o ho ac w' hR hF hD K hK
             simp only [zqA, zqZ, zqS, zqI] at ho
             subst ho
             have e95 : ac.tmps.getD 95 undef = .pointer (some ⟨X.g, 1, none⟩) := hD 7 (zdp (by kernel_rfl)) 95 rfl
             have d95 := zgD e95
             clear hD hF
             have q0 : w'.cell? ⟨X.g, 1, none⟩ = some (.int .i64 (a : Int)) := bcell (btrans hR9 hR) c1
             go_simp
             exact hK _ _ (Below.refl _ _) rfl
            | 9, _ =>
             intro o ho ac w' hR hF hD K hK
             simp only [zqA, zqZ, zqS, zqI] at ho
             subst ho
             have e92 : ac.tmps.getD 92 undef = .slice (some ⟨b, off, none⟩) nT X.lc := hD 4 (zdp (by kernel_rfl)) 92 rfl
             have d92 := zgD e92
             have e96 : ac.tmps.getD 96 undef = .int .i64 (a : Int) := hD 8 (zdp (by kernel_rfl)) 96 rfl
             have d96 := zgD e96
             clear hD hF
             go_simp
             exact hK _ _ (Below.refl _ _) rfl
            | 10, _ =>
             intro o ho ac w' hR hF hD K hK
             simp only [zqA, zqZ, zqS, zqI] at ho
             subst ho
             have e97 : ac.tmps.getD 97 undef = .pointer (some ⟨b, off + a * 4, none⟩) := hD 9 (zdp (by kernel_rfl)) 97 rfl
             have d97 := zgD e97
             clear hD hF
             go_simp
             exact hK _ _ (Below.refl _ _) rfl
            | 11, _ =>
             intro o ho ac w' hR hF hD K hK
             simp only [zqA, zqZ, zqS, zqI] at ho
             subst ho
             have e98 : ac.tmps.getD 98 undef = .pointer (some ⟨b, off + a * 4 + 3, none⟩) := hD 10 (zdp (by kernel_rfl)) 98 rfl
             have d98 := zgD e98
             clear hD hF
             have q0 : w'.cell? ⟨b, off + a * 4 + 3, none⟩ = some (.string ts) := bcell (btrans hR9 hR) d3
             go_simp
             exact hK _ _ (Below.refl _ _) rfl
            | 12, _ =>
             intro o ho ac w' hR hF hD K hK
             simp only [zqA, zqZ, zqS, zqI] at ho
             subst ho
             have e88 : ac.tmps.getD 88 undef = .pointer (some ⟨X.g, 0, none⟩) := hD 0 (zdp (by kernel_rfl)) 88 rfl
             have d88 := zgD e88
             have e99 : ac.tmps.getD 99 undef = .string ts := hD 11 (zdp (by kernel_rfl)) 99 rfl
             have d99 := zgD e99
             clear hD hF
             go_simp
             refine (NP.out w' (btrans hR9 hR)).mono ?_
             rintro e w2 ⟨hnw, hb2⟩
             obtain ⟨ni, rfl⟩ : ∃ i : Int, e = .returned (.tuple #[.int .i64 i, .bool false]) := hnw
             exact hK _ _ hb2 ⟨ni, rfl⟩
            | 13, _ =>
             intro o ho ac w' hR hF hD K hK
             simp only [zqA, zqZ, zqS, zqI] at ho
             subst ho
             have y100 := hD 12 (zdp (by kernel_rfl)) 100 rfl
             obtain ⟨i0, e100⟩ := y100
             have d100 := zgD e100
             clear hD hF
             go_simp
             exact hK _ _ (Below.refl _ _) ⟨_, rfl⟩
            | 14, _ =>
             intro o ho ac w' hR hF hD K hK
             simp only [zqA, zqZ, zqS, zqI] at ho
             subst ho
             have y87 := hD 13 (zdp (by kernel_rfl)) 87 rfl
             obtain ⟨i0, e87⟩ := y87
             have d87 := zgD e87
             clear hD hF
             go_simp
             exact hK _ _ (Below.refl _ _) ⟨_, rfl⟩
            | 15, _ =>
             intro o ho ac w' hR hF hD K hK
             simp only [zqA, zqZ, zqS, zqI] at ho
             subst ho
             have y87 := hD 13 (zdp (by kernel_rfl)) 87 rfl
             obtain ⟨i0, e87⟩ := y87
             have d87 := zgD e87
             clear hD hF
             go_simp
             exact hK _ _ (Below.refl _ _) rfl
            | 16, _ =>
             intro o ho ac w' hR hF hD K hK
             simp only [zqA, zqZ, zqS, zqI] at ho
             subst ho
             have y87 := hD 13 (zdp (by kernel_rfl)) 87 rfl
             obtain ⟨i0, e87⟩ := y87
             have d87 := zgD e87
             have e88 : ac.tmps.getD 88 undef = .pointer (some ⟨X.g, 0, none⟩) := hD 0 (zdp (by kernel_rfl)) 88 rfl
             have d88 := zgD e88
             have e89 : ac.tmps.getD 89 undef = .pointer (some ⟨X.g, 0, none⟩) := hD 1 (zdp (by kernel_rfl)) 89 rfl
             have d89 := zgD e89
             have e90 : ac.tmps.getD 90 undef = .pointer (some ⟨X.g, 0, none⟩) := hD 2 (zdp (by kernel_rfl)) 90 rfl
             have d90 := zgD e90
             have e91 : ac.tmps.getD 91 undef = .pointer (some ⟨X.g, 0, none⟩) := hD 3 (zdp (by kernel_rfl)) 91 rfl
             have d91 := zgD e91
             have e92 : ac.tmps.getD 92 undef = .slice (some ⟨b, off, none⟩) nT X.lc := hD 4 (zdp (by kernel_rfl)) 92 rfl
             have d92 := zgD e92
             have e93 : ac.tmps.getD 93 undef = .pointer (some ⟨X.g, 0, none⟩) := hD 5 (zdp (by kernel_rfl)) 93 rfl
             have d93 := zgD e93
             have e94 : ac.tmps.getD 94 undef = .pointer (some ⟨X.g, 0, none⟩) := hD 6 (zdp (by kernel_rfl)) 94 rfl
             have d94 := zgD e94
             have e95 : ac.tmps.getD 95 undef = .pointer (some ⟨X.g, 1, none⟩) := hD 7 (zdp (by kernel_rfl)) 95 rfl
             have d95 := zgD e95
             have e96 : ac.tmps.getD 96 undef = .int .i64 (a : Int) := hD 8 (zdp (by kernel_rfl)) 96 rfl
             have d96 := zgD e96
             have e97 : ac.tmps.getD 97 undef = .pointer (some ⟨b, off + a * 4, none⟩) := hD 9 (zdp (by kernel_rfl)) 97 rfl
             have d97 := zgD e97
             have e98 : ac.tmps.getD 98 undef = .pointer (some ⟨b, off + a * 4 + 3, none⟩) := hD 10 (zdp (by kernel_rfl)) 98 rfl
             have d98 := zgD e98
             have e99 : ac.tmps.getD 99 undef = .string ts := hD 11 (zdp (by kernel_rfl)) 99 rfl
             have d99 := zgD e99
             have y100 := hD 12 (zdp (by kernel_rfl)) 100 rfl
             obtain ⟨i0, e100⟩ := y100
             have d100 := zgD e100
             have y101 := hD 14 (zdp (by kernel_rfl)) 101 rfl
             obtain ⟨i0, e101⟩ := y101
             have d101 := zgD e101
             clear hD hF
             go_simp
             exact hK _ _ (Below.refl _ _) ⟨_, rfl⟩
            | k + 17, hk => omega
           ·rintro ⟨tm, df⟩ w6 hdf hsz hF hRA hV
            obtain rfl : df = [] := hdf
            obtain ⟨q, rfl⟩ := frameL116 tm hsz
            have k102 : q 102 = .bool false := hV 15 102 (by decide) rfl
            simp only [k102]
            clear k102
            have kk := zbk hF [0, 1, 2, 3, 4, 6, 7, 8, 9, 10, 11, 12, 13, 14, 15, 16, 17, 18, 19, 20, 21, 22, 23, 24, 25, 26, 27, 28, 29, 30, 31, 32, 33, 34, 35, 36, 37, 38, 39, 40, 41, 42, 43, 44, 45, 46, 47, 48, 49, 50, 51, 52, 53, 54, 55, 56, 57, 58, 59, 60, 61, 62, 63, 64, 65, 66, 67, 68, 69, 70, 71, 72, 73, 74, 75, 76, 77, 78, 79, 80, 81, 82, 83, 84, 85, 86, 103, 104, 105, 106, 107, 108, 109, 110, 111, 112, 113, 114, 115] (by kernel_rfl)
            simp only [Bk, Array.getD_eq_getD_getElem?, zqA, zqS, zqZ, Option.getD_some] at kk
            simp only [kk]
            clear kk
            clear hF hV hsz
            change wpAny _ _ _ _ 1 _ _ _
            refine wpAny_ready (rs := [17]) (by kernel_rfl) (by simp) ?_
            refine AllReady.cons (i := 17) rfl (fun K hK => ?_) AllReady.nil
            go_simp
            refine hK _ _ ?_
            clear hK K
            refine ⟨by kernel_rfl, ?_⟩
            have rs5 := rs4.out.below (btrans hR9 hRA)
            have S5 := Lib.hid (STP.out w6 a rs5)
            have g5 := Lib.hid (gr4.out.trans (RdG.below (btrans hR9 hRA)))
            clear hR9 hRA rs5 c0 c1
            go_wp2_with fail
            refine S5.out.mono ?_
            rintro e w8 ⟨rfl, rs7, gr7⟩
            have fin : Hid (RdP X R w O oa oc (.returned (.bool false)) w8) := by
             show RdP _ _ _ _ _ _ _ _
             rw [hR2.out]
             exact RdP.noI hA.out rs7 (g5.out.trans gr7)
            clear rs7 gr7 S5 g5
            go_wp2
            go_ret
            exact fin.out
       ·have hkB : ((tk : Int) == 1) = false := by rw [beq_eq_false_iff_ne]; omega
        have hkN : (tk == 1) = false := by rw [beq_eq_false_iff_ne]; exact hk
        have hR2 := Lib.hid (RST.out (fun i e => by
         injection e with e
         have h1 := err_other (N := X.N) (s := tt) hk
         unfold clsP at e
         split at e
         ·cases e
         ·split at e
          ·cases e
          ·split at e
           ·cases e
           ·split at e
            ·first | (cases e; done) | (rw [if_neg hk] at e; cases e)
            ·split at e
             ·cases e
             ·split at e <;> cases e))
        clear hpr TI RST NP hk PUT LS OW d3
        go_upto_region 13 with (fail)
        refine wp_region_kpW (by kernel_rfl) 38 [.fix (.pointer (some ⟨X.g, 0, none⟩)), .fix (.pointer (some ⟨X.g, 0, none⟩)), .fix (.pointer (some ⟨X.g, 1, none⟩)), .fix (.int .i64 (a : Int)), .fix (.pointer (some ⟨X.g, 0, none⟩)), .fix (.pointer (some ⟨X.g, 0, none⟩)), .fix (.pointer (some ⟨X.g, 0, none⟩)), .fix (.slice (some ⟨b, off, none⟩) nT X.lc), .fix (.int .i64 (nT : Int)), .fix (.bool true), .fix (.bool true), .fix (.pointer (some ⟨X.g, 0, none⟩)), .fix (.pointer (some ⟨X.g, 0, none⟩)), .fix (.pointer (some ⟨X.g, 0, none⟩)), .fix (.slice (some ⟨b, off, none⟩) nT X.lc), .fix (.pointer (some ⟨X.g, 0, none⟩)), .fix (.pointer (some ⟨X.g, 0, none⟩)), .fix (.pointer (some ⟨X.g, 1, none⟩)), .fix (.int .i64 (a : Int)), .fix (.pointer (some ⟨b, off + a * 4, none⟩)), .fix (.pointer (some ⟨b, off + a * 4, none⟩)), .fix (.int .i64 (tk : Int)), .fix (.bool false), .fix (.bool false), .fix (.bool false), .fix (undef), .fix (undef), .fix (undef), .fix (undef), .fix (undef), .fix (undef), .fix (undef), .fix (undef), .fix (undef), .fix (undef), .fix (undef), .fix (undef), .fix (undef)] (by kernel_rfl) (by kernel_rfl) (by kernel_rfl) ?_ ?_
        ·intro i hi
         match i, hi with
         | 0, _ =>
          intro o ho ac w' hR hF hD K hK
          simp only [zqA, zqZ, zqI] at ho
          subst ho
          have e0 : ac.tmps.getD 0 undef = .pointer (some ⟨X.g, 0, none⟩) := hF 0 (znd (by kernel_rfl))
          have d0 := zgD e0
          clear hD hF
          go_simp
          exact hK _ _ (Below.refl _ _) rfl
         | 1, _ =>
          intro o ho ac w' hR hF hD K hK
          simp only [zqA, zqZ, zqS, zqI] at ho
          subst ho
          have e48 : ac.tmps.getD 48 undef = .pointer (some ⟨X.g, 0, none⟩) := hD 0 (zdp (by kernel_rfl)) 48 rfl
          have d48 := zgD e48
          clear hD hF
          go_simp
          exact hK _ _ (Below.refl _ _) rfl
         | 2, _ =>
          intro o ho ac w' hR hF hD K hK
          simp only [zqA, zqZ, zqS, zqI] at ho
          subst ho
          have e49 : ac.tmps.getD 49 undef = .pointer (some ⟨X.g, 0, none⟩) := hD 1 (zdp (by kernel_rfl)) 49 rfl
          have d49 := zgD e49
          clear hD hF
          go_simp
          exact hK _ _ (Below.refl _ _) rfl
         | 3, _ =>
          intro o ho ac w' hR hF hD K hK
          simp only [zqA, zqZ, zqS, zqI] at ho
          subst ho
          have e50 : ac.tmps.getD 50 undef = .pointer (some ⟨X.g, 1, none⟩) := hD 2 (zdp (by kernel_rfl)) 50 rfl
          have d50 := zgD e50
          clear hD hF
          have q0 : w'.cell? ⟨X.g, 1, none⟩ = some (.int .i64 (a : Int)) := bcell hR c1
          go_simp
          exact hK _ _ (Below.refl _ _) rfl
         | 4, _ =>
          intro o ho ac w' hR hF hD K hK
          simp only [zqA, zqZ, zqS, zqI] at ho
          subst ho
          have e0 : ac.tmps.getD 0 undef = .pointer (some ⟨X.g, 0, none⟩) := hF 0 (znd (by kernel_rfl))
          have d0 := zgD e0
          clear hD hF
          go_simp
          exact hK _ _ (Below.refl _ _) rfl
         | 5, _ =>
          intro o ho ac w' hR hF hD K hK
          simp only [zqA, zqZ, zqS, zqI] at ho
          subst ho
          have e52 : ac.tmps.getD 52 undef = .pointer (some ⟨X.g, 0, none⟩) := hD 4 (zdp (by kernel_rfl)) 52 rfl
          have d52 := zgD e52
          clear hD hF
          go_simp
          exact hK _ _ (Below.refl _ _) rfl
         | 6, _ =>
          intro o ho ac w' hR hF hD K hK
          simp only [zqA, zqZ, zqS, zqI] at ho
          subst ho
          have e53 : ac.tmps.getD 53 undef = .pointer (some ⟨X.g, 0, none⟩) := hD 5 (zdp (by kernel_rfl)) 53 rfl
          have d53 := zgD e53
          clear hD hF
          go_simp
          exact hK _ _ (Below.refl _ _) rfl
         | 7, _ =>
          intro o ho ac w' hR hF hD K hK
          simp only [zqA, zqZ, zqS, zqI] at ho
          subst ho
          have e54 : ac.tmps.getD 54 undef = .pointer (some ⟨X.g, 0, none⟩) := hD 6 (zdp (by kernel_rfl)) 54 rfl
          have d54 := zgD e54
          clear hD hF
          have q0 : w'.cell? ⟨X.g, 0, none⟩ = some (.slice (some ⟨b, off, none⟩) nT X.lc) := bcell hR c0
          go_simp
          exact hK _ _ (Below.refl _ _) rfl
         | 8, _ =>
          intro o ho ac w' hR hF hD K hK
          simp only [zqA, zqZ, zqS, zqI] at ho
          subst ho
          have e55 : ac.tmps.getD 55 undef = .slice (some ⟨b, off, none⟩) nT X.lc := hD 7 (zdp (by kernel_rfl)) 55 rfl
          have d55 := zgD e55
          clear hD hF
          go_simp
          exact hK _ _ (Below.refl _ _) rfl
         | 9, _ =>
          intro o ho ac w' hR hF hD K hK
          simp only [zqA, zqZ, zqS, zqI] at ho
          subst ho
          have e51 : ac.tmps.getD 51 undef = .int .i64 (a : Int) := hD 3 (zdp (by kernel_rfl)) 51 rfl
          have d51 := zgD e51
          have e56 : ac.tmps.getD 56 undef = .int .i64 (nT : Int) := hD 8 (zdp (by kernel_rfl)) 56 rfl
          have d56 := zgD e56
          clear hD hF
          go_simp
          exact hK _ _ (Below.refl _ _) rfl
         | 10, _ =>
          intro o ho ac w' hR hF hD K hK
          simp only [zqA, zqZ, zqS, zqI] at ho
          subst ho
          have e57 : ac.tmps.getD 57 undef = .bool true := hD 9 (zdp (by kernel_rfl)) 57 rfl
          have g57 := getD_bool e57
          have d57 := zgD e57
          clear hD hF
          go_simp
          exact hK _ _ (Below.refl _ _) rfl
         | 11, _ =>
          intro o ho ac w' hR hF hD K hK
          simp only [zqA, zqZ, zqS, zqI] at ho
          subst ho
          have e0 : ac.tmps.getD 0 undef = .pointer (some ⟨X.g, 0, none⟩) := hF 0 (znd (by kernel_rfl))
          have d0 := zgD e0
          have e58 : ac.tmps.getD 58 undef = .bool true := hD 10 (zdp (by kernel_rfl)) 58 rfl
          have g58 := getD_bool e58
          have d58 := zgD e58
          clear hD hF
          go_simp
          exact hK _ _ (Below.refl _ _) rfl
         | 12, _ =>
          intro o ho ac w' hR hF hD K hK
          simp only [zqA, zqZ, zqS, zqI] at ho
          subst ho
          have e58 : ac.tmps.getD 58 undef = .bool true := hD 10 (zdp (by kernel_rfl)) 58 rfl
          have g58 := getD_bool e58
          have d58 := zgD e58
          have e59 : ac.tmps.getD 59 undef = .pointer (some ⟨X.g, 0, none⟩) := hD 11 (zdp (by kernel_rfl)) 59 rfl
          have d59 := zgD e59
          clear hD hF
          go_simp
          exact hK _ _ (Below.refl _ _) rfl
         | 13, _ =>
          intro o ho ac w' hR hF hD K hK
          simp only [zqA, zqZ, zqS, zqI] at ho
          subst ho
          have e58 : ac.tmps.getD 58 undef = .bool true := hD 10 (zdp (by kernel_rfl)) 58 rfl
          have g58 := getD_bool e58
          have d58 := zgD e58
          have e60 : ac.tmps.getD 60 undef = .pointer (some ⟨X.g, 0, none⟩) := hD 12 (zdp (by kernel_rfl)) 60 rfl
          have d60 := zgD e60
          clear hD hF
          go_simp
          exact hK _ _ (Below.refl _ _) rfl
         | 14, _ =>
          intro o ho ac w' hR hF hD K hK
          simp only [zqA, zqZ, zqS, zqI] at ho
          subst ho
          have e58 : ac.tmps.getD 58 undef = .bool true := hD 10 (zdp (by kernel_rfl)) 58 rfl
          have g58 := getD_bool e58
          have d58 := zgD e58
          have e61 : ac.tmps.getD 61 undef = .pointer (some ⟨X.g, 0, none⟩) := hD 13 (zdp (by kernel_rfl)) 61 rfl
          have d61 := zgD e61
          clear hD hF
          have q0 : w'.cell? ⟨X.g, 0, none⟩ = some (.slice (some ⟨b, off, none⟩) nT X.lc) := bcell hR c0
          go_simp
          exact hK _ _ (Below.refl _ _) rfl
         | 15, _ =>
          intro o ho ac w' hR hF hD K hK
          simp only [zqA, zqZ, zqS, zqI] at ho
          subst ho
          have e0 : ac.tmps.getD 0 undef = .pointer (some ⟨X.g, 0, none⟩) := hF 0 (znd (by kernel_rfl))
          have d0 := zgD e0
          have e58 : ac.tmps.getD 58 undef = .bool true := hD 10 (zdp (by kernel_rfl)) 58 rfl
          have g58 := getD_bool e58
          have d58 := zgD e58
          clear hD hF
          go_simp
          exact hK _ _ (Below.refl _ _) rfl
         | 16, _ =>
          intro o ho ac w' hR hF hD K hK
          simp only [zqA, zqZ, zqS, zqI] at ho
          subst ho
          have e58 : ac.tmps.getD 58 undef = .bool true := hD 10 (zdp (by kernel_rfl)) 58 rfl
          have g58 := getD_bool e58
          have d58 := zgD e58
          have e63 : ac.tmps.getD 63 undef = .pointer (some ⟨X.g, 0, none⟩) := hD 15 (zdp (by kernel_rfl)) 63 rfl
          have d63 := zgD e63
          clear hD hF
          go_simp
          exact hK _ _ (Below.refl _ _) rfl
         | 17, _ =>
          intro o ho ac w' hR hF hD K hK
          simp only [zqA, zqZ, zqS, zqI] at ho
          subst ho
          have e58 : ac.tmps.getD 58 undef = .bool true := hD 10 (zdp (by kernel_rfl)) 58 rfl
          have g58 := getD_bool e58
          have d58 := zgD e58
          have e64 : ac.tmps.getD 64 undef = .pointer (some ⟨X.g, 0, none⟩) := hD 16 (zdp (by kernel_rfl)) 64 rfl
          have d64 := zgD e64
          clear hD hF
          go_simp
          exact hK _ _ (Below.refl _ _) rfl
         | 18, _ =>
          intro o ho ac w' hR hF hD K hK
          simp only [zqA, zqZ, zqS, zqI] at ho
          subst ho
          have e58 : ac.tmps.getD 58 undef = .bool true := hD 10 (zdp (by kernel_rfl)) 58 rfl
          have g58 := getD_bool e58
          have d58 := zgD e58
          have e65 : ac.tmps.getD 65 undef = .pointer (some ⟨X.g, 1, none⟩) := hD 17 (zdp (by kernel_rfl)) 65 rfl
          have d65 := zgD e65
          clear hD hF
          have q0 : w'.cell? ⟨X.g, 1, none⟩ = some (.int .i64 (a : Int)) := bcell hR c1
          go_simp
          exact hK _ _ (Below.refl _ _) rfl
         | 19, _ =>
          intro o ho ac w' hR hF hD K hK
          simp only [zqA, zqZ, zqS, zqI] at ho
          subst ho
          have e58 : ac.tmps.getD 58 undef = .bool true := hD 10 (zdp (by kernel_rfl)) 58 rfl
          have g58 := getD_bool e58
          have d58 := zgD e58
          have e62 : ac.tmps.getD 62 undef = .slice (some ⟨b, off, none⟩) nT X.lc := hD 14 (zdp (by kernel_rfl)) 62 rfl
          have d62 := zgD e62
          have e66 : ac.tmps.getD 66 undef = .int .i64 (a : Int) := hD 18 (zdp (by kernel_rfl)) 66 rfl
          have d66 := zgD e66
          clear hD hF
          go_simp
          exact hK _ _ (Below.refl _ _) rfl
         | 20, _ =>
          intro o ho ac w' hR hF hD K hK
          simp only [zqA, zqZ, zqS, zqI] at ho
          subst ho
          have e58 : ac.tmps.getD 58 undef = .bool true := hD 10 (zdp (by kernel_rfl)) 58 rfl
          have g58 := getD_bool e58
          have d58 := zgD e58
          have e67 : ac.tmps.getD 67 undef = .pointer (some ⟨b, off + a * 4, none⟩) := hD 19 (zdp (by kernel_rfl)) 67 rfl
          have d67 := zgD e67
          clear hD hF
          go_simp
          exact hK _ _ (Below.refl _ _) rfl
         | 21, _ =>
          intro o ho ac w' hR hF hD K hK
          simp only [zqA, zqZ, zqS, zqI] at ho
          subst ho
          have e58 : ac.tmps.getD 58 undef = .bool true := hD 10 (zdp (by kernel_rfl)) 58 rfl
          have g58 := getD_bool e58
          have d58 := zgD e58
          have e68 : ac.tmps.getD 68 undef = .pointer (some ⟨b, off + a * 4, none⟩) := hD 20 (zdp (by kernel_rfl)) 68 rfl
          have d68 := zgD e68
          clear hD hF
          have q0 : w'.cell? ⟨b, off + a * 4, none⟩ = some (.int .i64 (tk : Int)) := bcell hR d0
          go_simp
          exact hK _ _ (Below.refl _ _) rfl
         | 22, _ =>
          intro o ho ac w' hR hF hD K hK
          simp only [zqA, zqZ, zqS, zqI] at ho
          subst ho
          have e58 : ac.tmps.getD 58 undef = .bool true := hD 10 (zdp (by kernel_rfl)) 58 rfl
          have g58 := getD_bool e58
          have d58 := zgD e58
          have e69 : ac.tmps.getD 69 undef = .int .i64 (tk : Int) := hD 21 (zdp (by kernel_rfl)) 69 rfl
          have d69 := zgD e69
          clear hD hF
          go_simp
          exact hK _ _ (Below.refl _ _) rfl
         | 23, _ =>
          intro o ho ac w' hR hF hD K hK
          simp only [zqA, zqZ, zqS, zqI] at ho
          subst ho
          have e58 : ac.tmps.getD 58 undef = .bool true := hD 10 (zdp (by kernel_rfl)) 58 rfl
          have g58 := getD_bool e58
          have d58 := zgD e58
          have e70 : ac.tmps.getD 70 undef = .bool false := hD 22 (zdp (by kernel_rfl)) 70 rfl
          have g70 := getD_bool e70
          have d70 := zgD e70
          clear hD hF
          go_simp
          exact hK _ _ (Below.refl _ _) rfl
         | 24, _ =>
          intro o ho ac w' hR hF hD K hK
          simp only [zqA, zqZ, zqS, zqI] at ho
          subst ho
          have e58 : ac.tmps.getD 58 undef = .bool true := hD 10 (zdp (by kernel_rfl)) 58 rfl
          have g58 := getD_bool e58
          have d58 := zgD e58
          have e71 : ac.tmps.getD 71 undef = .bool false := hD 23 (zdp (by kernel_rfl)) 71 rfl
          have g71 := getD_bool e71
          have d71 := zgD e71
          clear hD hF
          go_simp
          exact hK _ _ (Below.refl _ _) rfl
         | 25, _ =>
          intro o ho ac w' hR hF hD K hK
          simp only [zqA, zqZ, zqS, zqI] at ho
          subst ho
          have e0 : ac.tmps.getD 0 undef = .pointer (some ⟨X.g, 0, none⟩) := hF 0 (znd (by kernel_rfl))
          have d0 := zgD e0
          have e72 : ac.tmps.getD 72 undef = .bool false := hD 24 (zdp (by kernel_rfl)) 72 rfl
          have g72 := getD_bool e72
          have d72 := zgD e72
          clear hD hF
          go_simp
          exact hK _ _ (Below.refl _ _) rfl
         | 26, _ =>
          intro o ho ac w' hR hF hD K hK
          simp only [zqA, zqZ, zqS, zqI] at ho
          subst ho
          have e72 : ac.tmps.getD 72 undef = .bool false := hD 24 (zdp (by kernel_rfl)) 72 rfl
          have g72 := getD_bool e72
          have d72 := zgD e72
          have e73 : ac.tmps.getD 73 undef = undef := hD 25 (zdp (by kernel_rfl)) 73 rfl
          have d73 := zgD e73
          clear hD hF
          go_simp
          exact hK _ _ (Below.refl _ _) rfl
         | 27, _ =>
          intro o ho ac w' hR hF hD K hK
          simp only [zqA, zqZ, zqS, zqI] at ho
          subst ho
          have e72 : ac.tmps.getD 72 undef = .bool false := hD 24 (zdp (by kernel_rfl)) 72 rfl
          have g72 := getD_bool e72
          have d72 := zgD e72
          have e74 : ac.tmps.getD 74 undef = undef := hD 26 (zdp (by kernel_rfl)) 74 rfl
          have d74 := zgD e74
          clear hD hF
          go_simp
          exact hK _ _ (Below.refl _ _) rfl
         | 28, _ =>
          intro o ho ac w' hR hF hD K hK
          simp only [zqA, zqZ, zqS, zqI] at ho
          subst ho
          have e72 : ac.tmps.getD 72 undef = .bool false := hD 24 (zdp (by kernel_rfl)) 72 rfl
          have g72 := getD_bool e72
          have d72 := zgD e72
          have e75 : ac.tmps.getD 75 undef = undef := hD 27 (zdp (by kernel_rfl)) 75 rfl
          have d75 := zgD e75
          clear hD hF
          go_simp
          exact hK _ _ (Below.refl _ _) rfl
         | 29, _ =>
          intro o ho ac w' hR hF hD K hK
          simp only [zqA, zqZ, zqS, zqI] at ho
          subst ho
          have e0 : ac.tmps.getD 0 undef = .pointer (some ⟨X.g, 0, none⟩) := hF 0 (znd (by kernel_rfl))
          have d0 := zgD e0
          have e72 : ac.tmps.getD 72 undef = .bool false := hD 24 (zdp (by kernel_rfl)) 72 rfl
          have g72 := getD_bool e72
          have d72 := zgD e72
          clear hD hF
          go_simp
          exact hK _ _ (Below.refl _ _) rfl
         | 30, _ =>
          intro o ho ac w' hR hF hD K hK
          simp only [zqA, zqZ, zqS, zqI] at ho
          subst ho
          have e72 : ac.tmps.getD 72 undef = .bool false := hD 24 (zdp (by kernel_rfl)) 72 rfl
          have g72 := getD_bool e72
          have d72 := zgD e72
          have e77 : ac.tmps.getD 77 undef = undef := hD 29 (zdp (by kernel_rfl)) 77 rfl
          have d77 := zgD e77
          clear hD hF
          go_simp
          exact hK _ _ (Below.refl _ _) rfl
         | 31, _ =>
          intro o ho ac w' hR hF hD K hK
          simp only [zqA, zqZ, zqS, zqI] at ho
          subst ho
          have e72 : ac.tmps.getD 72 undef = .bool false := hD 24 (zdp (by kernel_rfl)) 72 rfl
          have g72 := getD_bool e72
          have d72 := zgD e72
          have e78 : ac.tmps.getD 78 undef = undef := hD 30 (zdp (by kernel_rfl)) 78 rfl
          have d78 := zgD e78
          clear hD hF
          go_simp
          exact hK _ _ (Below.refl _ _) rfl
         | 32, _ =>
          intro o ho ac w' hR hF hD K hK
          simp only [zqA, zqZ, zqS, zqI] at ho
          subst ho
          have e72 : ac.tmps.getD 72 undef = .bool false := hD 24 (zdp (by kernel_rfl)) 72 rfl
          have g72 := getD_bool e72
          have d72 := zgD e72
          have e79 : ac.tmps.getD 79 undef = undef := hD 31 (zdp (by kernel_rfl)) 79 rfl
          have d79 := zgD e79
          clear hD hF
          go_simp
          exact hK _ _ (Below.refl _ _) rfl
         | 33, _ =>
          intro o ho ac w' hR hF hD K hK
          simp only [zqA, zqZ, zqS, zqI] at ho
          subst ho
          have e72 : ac.tmps.getD 72 undef = .bool false := hD 24 (zdp (by kernel_rfl)) 72 rfl
          have g72 := getD_bool e72
          have d72 := zgD e72
          have e76 : ac.tmps.getD 76 undef = undef := hD 28 (zdp (by kernel_rfl)) 76 rfl
          have d76 := zgD e76
          have e80 : ac.tmps.getD 80 undef = undef := hD 32 (zdp (by kernel_rfl)) 80 rfl
          have d80 := zgD e80
          clear hD hF
          go_simp
          exact hK _ _ (Below.refl _ _) rfl
         | 34, _ =>
          intro o ho ac w' hR hF hD K hK
          simp only [zqA, zqZ, zqS, zqI] at ho
          subst ho
          have e72 : ac.tmps.getD 72 undef = .bool false := hD 24 (zdp (by kernel_rfl)) 72 rfl
          have g72 := getD_bool e72
          have d72 := zgD e72
          have e81 : ac.tmps.getD 81 undef = undef := hD 33 (zdp (by kernel_rfl)) 81 rfl
          have d81 := zgD e81
          clear hD hF
          go_simp
          exact hK _ _ (Below.refl _ _) rfl
         | 35, _ =>
          intro o ho ac w' hR hF hD K hK
          simp only [zqA, zqZ, zqS, zqI] at ho
          subst ho
          have e72 : ac.tmps.getD 72 undef = .bool false := hD 24 (zdp (by kernel_rfl)) 72 rfl
          have g72 := getD_bool e72
          have d72 := zgD e72
          have e82 : ac.tmps.getD 82 undef = undef := hD 34 (zdp (by kernel_rfl)) 82 rfl
          have d82 := zgD e82
          clear hD hF
          go_simp
          exact hK _ _ (Below.refl _ _) rfl
         | 36, _ =>
          intro o ho ac w' hR hF hD K hK
          simp only [zqA, zqZ, zqS, zqI] at ho
          subst ho
          have e72 : ac.tmps.getD 72 undef = .bool false := hD 24 (zdp (by kernel_rfl)) 72 rfl
          have g72 := getD_bool e72
          have d72 := zgD e72
          have e83 : ac.tmps.getD 83 undef = undef := hD 35 (zdp (by kernel_rfl)) 83 rfl
          have d83 := zgD e83
          clear hD hF
          go_simp
          exact hK _ _ (Below.refl _ _) rfl
         | 37, _ =>
          intro o ho ac w' hR hF hD K hK
          simp only [zqA, zqZ, zqS, zqI] at ho
          subst ho
          have e72 : ac.tmps.getD 72 undef = .bool false := hD 24 (zdp (by kernel_rfl)) 72 rfl
          have g72 := getD_bool e72
          have d72 := zgD e72
          have e84 : ac.tmps.getD 84 undef = undef := hD 36 (zdp (by kernel_rfl)) 84 rfl
          have d84 := zgD e84
          clear hD hF
          go_simp
          exact hK _ _ (Below.refl _ _) rfl
         | k + 38, hk => omega
        ·rintro ⟨tm, df⟩ w5 hdf hsz hF hR9 hV
         obtain rfl : df = [] := hdf
         obtain ⟨q, rfl⟩ := frameL116 tm hsz
         have k71 : q 71 = .bool false := hV 23 71 (by decide) rfl
         have k72 : q 72 = .bool false := hV 24 72 (by decide) rfl
         simp only [k71, k72]
         clear k71 k72
         have kk := zbk hF [0, 1, 2, 3, 4, 5, 6, 7, 8, 9, 10, 11, 12, 13, 14, 15, 16, 17, 18, 19, 20, 21, 22, 23, 24, 25, 26, 27, 28, 29, 30, 31, 32, 33, 34, 35, 36, 37, 38, 39, 40, 41, 42, 43, 44, 45, 46, 47, 86, 87, 88, 89, 90, 91, 92, 93, 94, 95, 96, 97, 98, 99, 100, 101, 102, 103, 104, 105, 106, 107, 108, 109, 110, 111, 112, 113, 114, 115] (by kernel_rfl)
         simp only [Bk, Array.getD_eq_getD_getElem?, zqA, zqS, zqZ, Option.getD_some] at kk
         simp only [kk]
         clear kk
         clear hF hV hsz
         change wpAny _ _ _ _ 1 _ _ _
         refine wpAny_ready (rs := [38]) (by kernel_rfl) (by simp) ?_
         refine AllReady.cons (i := 38) rfl (fun K hK => ?_) AllReady.nil
         go_simp
         refine hK _ _ ?_
         clear hK K
         refine ⟨by kernel_rfl, ?_⟩
         have rs5 := rs4.out.below hR9
         have S5 := Lib.hid (STP.out w5 a rs5)
         have g5 := Lib.hid (gr4.out.trans (RdG.below hR9))
         clear hR9 rs5 c0 c1
         go_wp2_with fail
         refine S5.out.mono ?_
         rintro e w6 ⟨rfl, rs7, gr7⟩
         have fin : Hid (RdP X R w O oa oc (.returned (.bool false)) w6) := by
          show RdP _ _ _ _ _ _ _ _
          rw [hR2.out]
          exact RdP.noI hA.out rs7 (g5.out.trans gr7)
         clear rs7 gr7 S5 g5
         go_wp2
         go_ret
         exact fin.out
      ·have hltI : ¬ (a : Int) < (nT : Int) := by omega
       have hltB : decide ((a : Int) < (nT : Int)) = false := decide_eq_false hltI
       have hltN : decide (a < nT) = false := decide_eq_false (by omega)
       have hR2 := Lib.hid (RST.out (fun i e => by
        have := (List.getElem?_eq_some_iff.1 e).1
        have := hCl.out
        omega))
       replace hnT := Lib.hid hnT
       replace hla := Lib.hid hla
       clear RST PUT LS hlt htl
       go_upto_region 13 with (fail)
       refine wp_region_kpW (by kernel_rfl) 38 [.fix (.pointer (some ⟨X.g, 0, none⟩)), .fix (.pointer (some ⟨X.g, 0, none⟩)), .fix (.pointer (some ⟨X.g, 1, none⟩)), .fix (.int .i64 (a : Int)), .fix (.pointer (some ⟨X.g, 0, none⟩)), .fix (.pointer (some ⟨X.g, 0, none⟩)), .fix (.pointer (some ⟨X.g, 0, none⟩)), .fix (.slice la nT X.lc), .fix (.int .i64 (nT : Int)), .fix (.bool false), .fix (.bool false), .fix (undef), .fix (undef), .fix (undef), .fix (undef), .fix (undef), .fix (undef), .fix (undef), .fix (undef), .fix (undef), .fix (undef), .fix (undef), .fix (undef), .fix (.bool false), .fix (.bool false), .fix (undef), .fix (undef), .fix (undef), .fix (undef), .fix (undef), .fix (undef), .fix (undef), .fix (undef), .fix (undef), .fix (undef), .fix (undef), .fix (undef), .fix (undef)] (by kernel_rfl) (by kernel_rfl) (by kernel_rfl) ?_ ?_
       ·intro i hi
        match i, hi with
        | 0, _ =>
         intro o ho ac w' hR hF hD K hK
         simp only [zqA, zqZ, zqI] at ho
         subst ho
         have e0 : ac.tmps.getD 0 undef = .pointer (some ⟨X.g, 0, none⟩) := hF 0 (znd (by kernel_rfl))
         have d0 := zgD e0
         clear hD hF
         go_simp
         exact hK _ _ (Below.refl _ _) rfl
        | 1, _ =>
         intro o ho ac w' hR hF hD K hK
         simp only [zqA, zqZ, zqS, zqI] at ho
         subst ho
         have e48 : ac.tmps.getD 48 undef = .pointer (some ⟨X.g, 0, none⟩) := hD 0 (zdp (by kernel_rfl)) 48 rfl
         have d48 := zgD e48
         clear hD hF
         go_simp
         exact hK _ _ (Below.refl _ _) rfl
        | 2, _ =>
         intro o ho ac w' hR hF hD K hK
         simp only [zqA, zqZ, zqS, zqI] at ho
         subst ho
         have e49 : ac.tmps.getD 49 undef = .pointer (some ⟨X.g, 0, none⟩) := hD 1 (zdp (by kernel_rfl)) 49 rfl
         have d49 := zgD e49
         clear hD hF
         go_simp
         exact hK _ _ (Below.refl _ _) rfl
        | 3, _ =>
         intro o ho ac w' hR hF hD K hK
         simp only [zqA, zqZ, zqS, zqI] at ho
         subst ho
         have e50 : ac.tmps.getD 50 undef = .pointer (some ⟨X.g, 1, none⟩) := hD 2 (zdp (by kernel_rfl)) 50 rfl
         have d50 := zgD e50
         clear hD hF
         have q0 : w'.cell? ⟨X.g, 1, none⟩ = some (.int .i64 (a : Int)) := bcell hR c1
         go_simp
         exact hK _ _ (Below.refl _ _) rfl
        | 4, _ =>
         intro o ho ac w' hR hF hD K hK
         simp only [zqA, zqZ, zqS, zqI] at ho
         subst ho
         have e0 : ac.tmps.getD 0 undef = .pointer (some ⟨X.g, 0, none⟩) := hF 0 (znd (by kernel_rfl))
         have d0 := zgD e0
         clear hD hF
         go_simp
         exact hK _ _ (Below.refl _ _) rfl
        | 5, _ =>
         intro o ho ac w' hR hF hD K hK
         simp only [zqA, zqZ, zqS, zqI] at ho
         subst ho
         have e52 : ac.tmps.getD 52 undef = .pointer (some ⟨X.g, 0, none⟩) := hD 4 (zdp (by kernel_rfl)) 52 rfl
         have d52 := zgD e52
         clear hD hF
         go_simp
         exact hK _ _ (Below.refl _ _) rfl
        | 6, _ =>
         intro o ho ac w' hR hF hD K hK
         simp only [zqA, zqZ, zqS, zqI] at ho
         subst ho
         have e53 : ac.tmps.getD 53 undef = .pointer (some ⟨X.g, 0, none⟩) := hD 5 (zdp (by kernel_rfl)) 53 rfl
         have d53 := zgD e53
         clear hD hF
         go_simp
         exact hK _ _ (Below.refl _ _) rfl
        | 7, _ =>
         intro o ho ac w' hR hF hD K hK
         simp only [zqA, zqZ, zqS, zqI] at ho
         subst ho
         have e54 : ac.tmps.getD 54 undef = .pointer (some ⟨X.g, 0, none⟩) := hD 6 (zdp (by kernel_rfl)) 54 rfl
         have d54 := zgD e54
         clear hD hF
         have q0 : w'.cell? ⟨X.g, 0, none⟩ = some (.slice la nT X.lc) := bcell hR c0
         go_simp
         exact hK _ _ (Below.refl _ _) rfl
        | 8, _ =>
         intro o ho ac w' hR hF hD K hK
         simp only [zqA, zqZ, zqS, zqI] at ho
         subst ho
         have e55 : ac.tmps.getD 55 undef = .slice la nT X.lc := hD 7 (zdp (by kernel_rfl)) 55 rfl
         have d55 := zgD e55
         clear hD hF
         go_simp
         exact hK _ _ (Below.refl _ _) rfl
        | 9, _ =>
         intro o ho ac w' hR hF hD K hK
         simp only [zqA, zqZ, zqS, zqI] at ho
         subst ho
         have e51 : ac.tmps.getD 51 undef = .int .i64 (a : Int) := hD 3 (zdp (by kernel_rfl)) 51 rfl
         have d51 := zgD e51
         have e56 : ac.tmps.getD 56 undef = .int .i64 (nT : Int) := hD 8 (zdp (by kernel_rfl)) 56 rfl
         have d56 := zgD e56
         clear hD hF
         go_simp
         exact hK _ _ (Below.refl _ _) rfl
        | 10, _ =>
         intro o ho ac w' hR hF hD K hK
         simp only [zqA, zqZ, zqS, zqI] at ho
         subst ho
         have e57 : ac.tmps.getD 57 undef = .bool false := hD 9 (zdp (by kernel_rfl)) 57 rfl
         have g57 := getD_bool e57
         have d57 := zgD e57
         clear hD hF
         go_simp
         exact hK _ _ (Below.refl _ _) rfl
        | 11, _ =>
         intro o ho ac w' hR hF hD K hK
         simp only [zqA, zqZ, zqS, zqI] at ho
         subst ho
         have e0 : ac.tmps.getD 0 undef = .pointer (some ⟨X.g, 0, none⟩) := hF 0 (znd (by kernel_rfl))
         have d0 := zgD e0
         have e58 : ac.tmps.getD 58 undef = .bool false := hD 10 (zdp (by kernel_rfl)) 58 rfl
         have g58 := getD_bool e58
         have d58 := zgD e58
         clear hD hF
         go_simp
         exact hK _ _ (Below.refl _ _) rfl
        | 12, _ =>
         intro o ho ac w' hR hF hD K hK
         simp only [zqA, zqZ, zqS, zqI] at ho
         subst ho
         have e58 : ac.tmps.getD 58 undef = .bool false := hD 10 (zdp (by kernel_rfl)) 58 rfl
         have g58 := getD_bool e58
         have d58 := zgD e58
         have e59 : ac.tmps.getD 59 undef = undef := hD 11 (zdp (by kernel_rfl)) 59 rfl
         have d59 := zgD e59
         clear hD hF
         go_simp
         exact hK _ _ (Below.refl _ _) rfl
        | 13, _ =>
         intro o ho ac w' hR hF hD K hK
         simp only [zqA, zqZ, zqS, zqI] at ho
         subst ho
         have e58 : ac.tmps.getD 58 undef = .bool false := hD 10 (zdp (by kernel_rfl)) 58 rfl
         have g58 := getD_bool e58
         have d58 := zgD e58
         have e60 : ac.tmps.getD 60 undef = undef := hD 12 (zdp (by kernel_rfl)) 60 rfl
         have d60 := zgD e60
         clear hD hF
         go_simp
         exact hK _ _ (Below.refl _ _) rfl
        | 14, _ =>
         intro o ho ac w' hR hF hD K hK
         simp only [zqA, zqZ, zqS, zqI] at ho
         subst ho
         have e58 : ac.tmps.getD 58 undef = .bool false := hD 10 (zdp (by kernel_rfl)) 58 rfl
         have g58 := getD_bool e58
         have d58 := zgD e58
         have e61 : ac.tmps.getD 61 undef = undef := hD 13 (zdp (by kernel_rfl)) 61 rfl
         have d61 := zgD e61
         clear hD hF
         go_simp
         exact hK _ _ (Below.refl _ _) rfl
        | 15, _ =>
         intro o ho ac w' hR hF hD K hK
         simp only [zqA, zqZ, zqS, zqI] at ho
         subst ho
         have e0 : ac.tmps.getD 0 undef = .pointer (some ⟨X.g, 0, none⟩) := hF 0 (znd (by kernel_rfl))
         have d0 := zgD e0
         have e58 : ac.tmps.getD 58 undef = .bool false := hD 10 (zdp (by kernel_rfl)) 58 rfl
         have g58 := getD_bool e58
         have d58 := zgD e58
         clear hD hF
         go_simp
         exact hK _ _ (Below.refl _ _) rfl
        | 16, _ =>
         intro o ho ac w' hR hF hD K hK
         simp only [zqA, zqZ, zqS, zqI] at ho
         subst ho
         have e58 : ac.tmps.getD 58 undef = .bool false := hD 10 (zdp (by kernel_rfl)) 58 rfl
         have g58 := getD_bool e58
         have d58 := zgD e58
         have e63 : ac.tmps.getD 63 undef = undef := hD 15 (zdp (by kernel_rfl)) 63 rfl
         have d63 := zgD e63
         clear hD hF
         go_simp
         exact hK _ _ (Below.refl _ _) rfl
        | 17, _ =>
         intro o ho ac w' hR hF hD K hK
         simp only [zqA, zqZ, zqS, zqI] at ho
         subst ho
         have e58 : ac.tmps.getD 58 undef = .bool false := hD 10 (zdp (by kernel_rfl)) 58 rfl
         have g58 := getD_bool e58
         have d58 := zgD e58
         have e64 : ac.tmps.getD 64 undef = undef := hD 16 (zdp (by kernel_rfl)) 64 rfl
         have d64 := zgD e64
         clear hD hF
         go_simp
         exact hK _ _ (Below.refl _ _) rfl
        | 18, _ =>
         intro o ho ac w' hR hF hD K hK
         simp only [zqA, zqZ, zqS, zqI] at ho
         subst ho
         have e58 : ac.tmps.getD 58 undef = .bool false := hD 10 (zdp (by kernel_rfl)) 58 rfl
         have g58 := getD_bool e58
         have d58 := zgD e58
         have e65 : ac.tmps.getD 65 undef = undef := hD 17 (zdp (by kernel_rfl)) 65 rfl
         have d65 := zgD e65
         clear hD hF
         go_simp
         exact hK _ _ (Below.refl _ _) rfl
        | 19, _ =>
         intro o ho ac w' hR hF hD K hK
         simp only [zqA, zqZ, zqS, zqI] at ho
         subst ho
         have e58 : ac.tmps.getD 58 undef = .bool false := hD 10 (zdp (by kernel_rfl)) 58 rfl
         have g58 := getD_bool e58
         have d58 := zgD e58
         have e62 : ac.tmps.getD 62 undef = undef := hD 14 (zdp (by kernel_rfl)) 62 rfl
         have d62 := zgD e62
         have e66 : ac.tmps.getD 66 undef = undef := hD 18 (zdp (by kernel_rfl)) 66 rfl
         have d66 := zgD e66
         clear hD hF
         go_simp
         exact hK _ _ (Below.refl _ _) rfl
        | 20, _ =>
         intro o ho ac w' hR hF hD K hK
         simp only [zqA, zqZ, zqS, zqI] at ho
         subst ho
         have e58 : ac.tmps.getD 58 undef = .bool false := hD 10 (zdp (by kernel_rfl)) 58 rfl
         have g58 := getD_bool e58
         have d58 := zgD e58
         have e67 : ac.tmps.getD 67 undef = undef := hD 19 (zdp (by kernel_rfl)) 67 rfl
         have d67 := zgD e67
         clear hD hF
         go_simp
         exact hK _ _ (Below.refl _ _) rfl
        | 21, _ =>
         intro o ho ac w' hR hF hD K hK
         simp only [zqA, zqZ, zqS, zqI] at ho
         subst ho
         have e58 : ac.tmps.getD 58 undef = .bool false := hD 10 (zdp (by kernel_rfl)) 58 rfl
         have g58 := getD_bool e58
         have d58 := zgD e58
         have e68 : ac.tmps.getD 68 undef = undef := hD 20 (zdp (by kernel_rfl)) 68 rfl
         have d68 := zgD e68
         clear hD hF
         go_simp
         exact hK _ _ (Below.refl _ _) rfl
        | 22, _ =>
         intro o ho ac w' hR hF hD K hK
         simp only [zqA, zqZ, zqS, zqI] at ho
         subst ho
         have e58 : ac.tmps.getD 58 undef = .bool false := hD 10 (zdp (by kernel_rfl)) 58 rfl
         have g58 := getD_bool e58
         have d58 := zgD e58
         have e69 : ac.tmps.getD 69 undef = undef := hD 21 (zdp (by kernel_rfl)) 69 rfl
         have d69 := zgD e69
         clear hD hF
         go_simp
         exact hK _ _ (Below.refl _ _) rfl
        | 23, _ =>
         intro o ho ac w' hR hF hD K hK
         simp only [zqA, zqZ, zqS, zqI] at ho
         subst ho
         have e58 : ac.tmps.getD 58 undef = .bool false := hD 10 (zdp (by kernel_rfl)) 58 rfl
         have g58 := getD_bool e58
         have d58 := zgD e58
         have e70 : ac.tmps.getD 70 undef = undef := hD 22 (zdp (by kernel_rfl)) 70 rfl
         have d70 := zgD e70
         clear hD hF
         go_simp
         exact hK _ _ (Below.refl _ _) rfl
        | 24, _ =>
         intro o ho ac w' hR hF hD K hK
         simp only [zqA, zqZ, zqS, zqI] at ho
         subst ho
         have e58 : ac.tmps.getD 58 undef = .bool false := hD 10 (zdp (by kernel_rfl)) 58 rfl
         have g58 := getD_bool e58
         have d58 := zgD e58
         have e71 : ac.tmps.getD 71 undef = .bool false := hD 23 (zdp (by kernel_rfl)) 71 rfl
         have g71 := getD_bool e71
         have d71 := zgD e71
         clear hD hF
         go_simp
         exact hK _ _ (Below.refl _ _) rfl
        | 25, _ =>
         intro o ho ac w' hR hF hD K hK
         simp only [zqA, zqZ, zqS, zqI] at ho
         subst ho
         have e0 : ac.tmps.getD 0 undef = .pointer (some ⟨X.g, 0, none⟩) := hF 0 (znd (by kernel_rfl))
         have d0 := zgD e0
         have e72 : ac.tmps.getD 72 undef = .bool false := hD 24 (zdp (by kernel_rfl)) 72 rfl
         have g72 := getD_bool e72
         have d72 := zgD e72
         clear hD hF
         go_simp
         exact hK _ _ (Below.refl _ _) rfl
        | 26, _ =>
         intro o ho ac w' hR hF hD K hK
         simp only [zqA, zqZ, zqS, zqI] at ho
         subst ho
         have e72 : ac.tmps.getD 72 undef = .bool false := hD 24 (zdp (by kernel_rfl)) 72 rfl
         have g72 := getD_bool e72
         have d72 := zgD e72
         have e73 : ac.tmps.getD 73 undef = undef := hD 25 (zdp (by kernel_rfl)) 73 rfl
         have d73 := zgD e73
         clear hD hF
         go_simp
         exact hK _ _ (Below.refl _ _) rfl
        | 27, _ =>
         intro o ho ac w' hR hF hD K hK
         simp only [zqA, zqZ, zqS, zqI] at ho
         subst ho
         have e72 : ac.tmps.getD 72 undef = .bool false := hD 24 (zdp (by kernel_rfl)) 72 rfl
         have g72 := getD_bool e72
         have d72 := zgD e72
         have e74 : ac.tmps.getD 74 undef = undef := hD 26 (zdp (by kernel_rfl)) 74 rfl
         have d74 := zgD e74
         clear hD hF
         go_simp
         exact hK _ _ (Below.refl _ _) rfl
        | 28, _ =>
         intro o ho ac w' hR hF hD K hK
         simp only [zqA, zqZ, zqS, zqI] at ho
         subst ho
         have e72 : ac.tmps.getD 72 undef = .bool false := hD 24 (zdp (by kernel_rfl)) 72 rfl
         have g72 := getD_bool e72
         have d72 := zgD e72
         have e75 : ac.tmps.getD 75 undef = undef := hD 27 (zdp (by kernel_rfl)) 75 rfl
         have d75 := zgD e75
         clear hD hF
         go_simp
         exact hK _ _ (Below.refl _ _) rfl
        | 29, _ =>
         intro o ho ac w' hR hF hD K hK
         simp only [zqA, zqZ, zqS, zqI] at ho
         subst ho
         have e0 : ac.tmps.getD 0 undef = .pointer (some ⟨X.g, 0, none⟩) := hF 0 (znd (by kernel_rfl))
         have d0 := zgD e0
         have e72 : ac.tmps.getD 72 undef = .bool false := hD 24 (zdp (by kernel_rfl)) 72 rfl
         have g72 := getD_bool e72
         have d72 := zgD e72
         clear hD hF
         go_simp
         exact hK _ _ (Below.refl _ _) rfl
        | 30, _ =>
         intro o ho ac w' hR hF hD K hK
         simp only [zqA, zqZ, zqS, zqI] at ho
         subst ho
         have e72 : ac.tmps.getD 72 undef = .bool false := hD 24 (zdp (by kernel_rfl)) 72 rfl
         have g72 := getD_bool e72
         have d72 := zgD e72
         have e77 : ac.tmps.getD 77 undef = undef := hD 29 (zdp (by kernel_rfl)) 77 rfl
         have d77 := zgD e77
         clear hD hF
         go_simp
         exact hK _ _ (Below.refl _ _) rfl
        | 31, _ =>
         intro o ho ac w' hR hF hD K hK
         simp only [zqA, zqZ, zqS, zqI] at ho
         subst ho
         have e72 : ac.tmps.getD 72 undef = .bool false := hD 24 (zdp (by kernel_rfl)) 72 rfl
         have g72 := getD_bool e72
         have d72 := zgD e72
         have e78 : ac.tmps.getD 78 undef = undef := hD 30 (zdp (by kernel_rfl)) 78 rfl
         have d78 := zgD e78
         clear hD hF
         go_simp
         exact hK _ _ (Below.refl _ _) rfl
        | 32, _ =>
         intro o ho ac w' hR hF hD K hK
         simp only [zqA, zqZ, zqS, zqI] at ho
         subst ho
         have e72 : ac.tmps.getD 72 undef = .bool false := hD 24 (zdp (by kernel_rfl)) 72 rfl
         have g72 := getD_bool e72
         have d72 := zgD e72
         have e79 : ac.tmps.getD 79 undef = undef := hD 31 (zdp (by kernel_rfl)) 79 rfl
         have d79 := zgD e79
         clear hD hF
         go_simp
         exact hK _ _ (Below.refl _ _) rfl
        | 33, _ =>
         intro o ho ac w' hR hF hD K hK
         simp only [zqA, zqZ, zqS, zqI] at ho
         subst ho
         have e72 : ac.tmps.getD 72 undef = .bool false := hD 24 (zdp (by kernel_rfl)) 72 rfl
         have g72 := getD_bool e72
         have d72 := zgD e72
         have e76 : ac.tmps.getD 76 undef = undef := hD 28 (zdp (by kernel_rfl)) 76 rfl
         have d76 := zgD e76
         have e80 : ac.tmps.getD 80 undef = undef := hD 32 (zdp (by kernel_rfl)) 80 rfl
         have d80 := zgD e80
         clear hD hF
         go_simp
         exact hK _ _ (Below.refl _ _) rfl
        | 34, _ =>
         intro o ho ac w' hR hF hD K hK
         simp only [zqA, zqZ, zqS, zqI] at ho
         subst ho
         have e72 : ac.tmps.getD 72 undef = .bool false := hD 24 (zdp (by kernel_rfl)) 72 rfl
         have g72 := getD_bool e72
         have d72 := zgD e72
         have e81 : ac.tmps.getD 81 undef = undef := hD 33 (zdp (by kernel_rfl)) 81 rfl
         have d81 := zgD e81
         clear hD hF
         go_simp
         exact hK _ _ (Below.refl _ _) rfl
        | 35, _ =>
         intro o ho ac w' hR hF hD K hK
         simp only [zqA, zqZ, zqS, zqI] at ho
         subst ho
         have e72 : ac.tmps.getD 72 undef = .bool false := hD 24 (zdp (by kernel_rfl)) 72 rfl
         have g72 := getD_bool e72
         have d72 := zgD e72
         have e82 : ac.tmps.getD 82 undef = undef := hD 34 (zdp (by kernel_rfl)) 82 rfl
         have d82 := zgD e82
         clear hD hF
         go_simp
         exact hK _ _ (Below.refl _ _) rfl
        | 36, _ =>
         intro o ho ac w' hR hF hD K hK
         simp only [zqA, zqZ, zqS, zqI] at ho
         subst ho
         have e72 : ac.tmps.getD 72 undef = .bool false := hD 24 (zdp (by kernel_rfl)) 72 rfl
         have g72 := getD_bool e72
         have d72 := zgD e72
         have e83 : ac.tmps.getD 83 undef = undef := hD 35 (zdp (by kernel_rfl)) 83 rfl
         have d83 := zgD e83
         clear hD hF
         go_simp
         exact hK _ _ (Below.refl _ _) rfl
        | 37, _ =>
         intro o ho ac w' hR hF hD K hK
         simp only [zqA, zqZ, zqS, zqI] at ho
         subst ho
         have e72 : ac.tmps.getD 72 undef = .bool false := hD 24 (zdp (by kernel_rfl)) 72 rfl
         have g72 := getD_bool e72
         have d72 := zgD e72
         have e84 : ac.tmps.getD 84 undef = undef := hD 36 (zdp (by kernel_rfl)) 84 rfl
         have d84 := zgD e84
         clear hD hF
         go_simp
         exact hK _ _ (Below.refl _ _) rfl
        | k + 38, hk => omega
       ·rintro ⟨tm, df⟩ w5 hdf hsz hF hR9 hV
        obtain rfl : df = [] := hdf
        obtain ⟨q, rfl⟩ := frameL116 tm hsz
        have k71 : q 71 = .bool false := hV 23 71 (by decide) rfl
        have k72 : q 72 = .bool false := hV 24 72 (by decide) rfl
        simp only [k71, k72]
        clear k71 k72
        have kk := zbk hF [0, 1, 2, 3, 4, 5, 6, 7, 8, 9, 10, 11, 12, 13, 14, 15, 16, 17, 18, 19, 20, 21, 22, 23, 24, 25, 26, 27, 28, 29, 30, 31, 32, 33, 34, 35, 36, 37, 38, 39, 40, 41, 42, 43, 44, 45, 46, 47, 86, 87, 88, 89, 90, 91, 92, 93, 94, 95, 96, 97, 98, 99, 100, 101, 102, 103, 104, 105, 106, 107, 108, 109, 110, 111, 112, 113, 114, 115] (by kernel_rfl)
        simp only [Bk, Array.getD_eq_getD_getElem?, zqA, zqS, zqZ, Option.getD_some] at kk
        simp only [kk]
        clear kk
        clear hF hV hsz
        change wpAny _ _ _ _ 1 _ _ _
        refine wpAny_ready (rs := [38]) (by kernel_rfl) (by simp) ?_
        refine AllReady.cons (i := 38) rfl (fun K hK => ?_) AllReady.nil
        go_simp
        refine hK _ _ ?_
        clear hK K
        refine ⟨by kernel_rfl, ?_⟩
        have rs5 := rs4.out.below hR9
        have S5 := Lib.hid (STP.out w5 a rs5)
        have g5 := Lib.hid (gr4.out.trans (RdG.below hR9))
        clear hR9 rs5 c0 c1
        go_wp2_with fail
        refine S5.out.mono ?_
        rintro e w6 ⟨rfl, rs7, gr7⟩
        have fin : Hid (RdP X R w O oa oc (.returned (.bool false)) w6) := by
         show RdP _ _ _ _ _ _ _ _
         rw [hR2.out]
         exact RdP.noI hA.out rs7 (g5.out.trans gr7)
        clear rs7 gr7 S5 g5
        go_wp2
        go_ret
        exact fin.out
end Go.Proofs.YtkehfolcfcbplaaGreatDoor
