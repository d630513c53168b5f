/- The operation of a level that comes next, walked. Conditions: not too many tokens. -/
import Derived.Test.YtkehfolcfcbplaaGreatDoorSLtR3
namespace Go.Proofs.YtkehfolcfcbplaaGreatDoor
open Go.RowKit
set_option linter.unusedVariables false
set_option linter.unusedSimpArgs false
theorem opOf_spec {s : List UInt8} (h : opOf s ≠ 0) : s = wordP (opOf s) := by
 unfold opOf at h ⊢
 split
 ·rename_i e; rw [e]
 ·split
  ·rename_i e; rw [e]
  ·split
   ·rename_i e; rw [e]
   ·split
    ·rename_i e; rw [e]
    ·split
     ·rename_i e; rw [e]
     ·split
      ·rename_i e; rw [e]
      ·split
       ·rename_i e; rw [e]
       ·split
        ·rename_i e; rw [e]
        ·split
         ·rename_i e; rw [e]
         ·split
          ·rename_i e; rw [e]
          ·split
           ·rename_i e; rw [e]
           ·rename_i e1 e2 e3 e4 e5 e6 e7 e8 e9 e10 e11
            rw [if_neg e1, if_neg e2, if_neg e3, if_neg e4, if_neg e5, if_neg e6, if_neg e7, if_neg e8, if_neg e9, if_neg e10, if_neg e11] at h
            exact absurd rfl h
def opC (op : Int) : Cls := if takesP op = 0 then .con op else if takesP op = 1 then .un op else .bin op
theorem cls_opC {N : List (List UInt8)} {k : Nat} {s : List UInt8} {op : Int} (h : takesP op = 0 ∧ op ≠ 3 ∨ takesP op = 1 ∨ takesP op = 2) : (k ≠ 2 ∧ s = wordP op) ↔ clsP N k s = opC op := by
 have h0 : op ≠ 0 := fun e => by subst e; revert h; decide
 constructor
 ·rintro ⟨hk, rfl⟩
  obtain ⟨a, b, c, _⟩ := opOf_word h
  unfold clsP opC
  rw [if_neg hk, if_neg b, if_neg c, a, if_neg h0]
 ·intro e
  unfold clsP at e
  have hop : ∀ (c : Cls), (∀ o, c ≠ .con o) → (∀ o, c ≠ .un o) → (∀ o, c ≠ .bin o) → c ≠ opC op := fun c a1 a2 a3 ec => by
   unfold opC at ec
   split at ec
   ·exact a1 _ ec
   ·split at ec
    ·exact a2 _ ec
    ·exact a3 _ ec
  split at e
  ·exact absurd e (hop _ (fun _ e => by cases e) (fun _ e => by cases e) (fun _ e => by cases e))
  ·rename_i hk
   split at e
   ·exact absurd e (hop _ (fun _ e => by cases e) (fun _ e => by cases e) (fun _ e => by cases e))
   ·split at e
    ·exact absurd e (hop _ (fun _ e => by cases e) (fun _ e => by cases e) (fun _ e => by cases e))
    ·split at e
     ·exfalso
      refine hop _ ?_ ?_ ?_ e
      all_goals
       intro o
       split
       ·split <;> (intro e2; cases e2)
       ·intro e2; cases e2
     ·rename_i hne
      have hs := opOf_spec hne
      have : opOf s = op := by
       unfold opC at e
       split at e
       ·split at e
        ·injection e
        ·split at e <;> cases e
       ·split at e
        ·split at e
         ·cases e
         ·split at e
          ·injection e
          ·cases e
        ·split at e
         ·cases e
         ·split at e
          ·cases e
          ·injection e
      rw [this] at hs
      exact ⟨hk, hs⟩
theorem isB_opC {N : List (List UInt8)} {T : List Tk} {a : Nat} {op : Int} (h : takesP op = 0 ∧ op ≠ 3 ∨ takesP op = 1 ∨ takesP op = 2) : isB T a (wordP op) = true ↔ (clsL N T)[a]? = some (opC op) := by
 unfold isB clsL
 rw [List.getElem?_map]
 cases T[a]? with
 | none => exact ⟨fun e => (by cases e), fun e => (by cases e)⟩
 | some t =>
  simp only [Option.map_some, Bool.and_eq_true, decide_eq_true_eq, Option.some.injEq]
  exact cls_opC h
theorem cls_br {N : List (List UInt8)} {k : Nat} {s : List UInt8} : ((k ≠ 2 ∧ s = [40]) ↔ clsP N k s = .lp) ∧ ((k ≠ 2 ∧ s = [41]) ↔ clsP N k s = .rp) := by
 constructor <;> constructor
 ·rintro ⟨hk, rfl⟩
  unfold clsP
  rw [if_neg hk, if_pos rfl]
 ·intro e
  unfold clsP at e
  split at e
  ·cases e
  ·rename_i hk
   split at e
   ·rename_i hs; exact ⟨hk, hs⟩
   ·split at e
    ·cases e
    ·split at e
     ·split at e
      ·split at e <;> cases e
      ·cases e
     ·split at e
      ·cases e
      ·split at e <;> cases e
 ·rintro ⟨hk, rfl⟩
  unfold clsP
  rw [if_neg hk, if_neg (by decide), if_pos rfl]
 ·intro e
  unfold clsP at e
  split at e
  ·cases e
  ·rename_i hk
   split at e
   ·cases e
   ·split at e
    ·rename_i hs; exact ⟨hk, hs⟩
    ·split at e
     ·split at e
      ·split at e <;> cases e
      ·cases e
     ·split at e
      ·cases e
      ·split at e <;> cases e
theorem isB_br {N : List (List UInt8)} {T : List Tk} {a : Nat} : (isB T a [40] = true ↔ (clsL N T)[a]? = some .lp) ∧ (isB T a [41] = true ↔ (clsL N T)[a]? = some .rp) := by
 unfold isB clsL
 rw [List.getElem?_map]
 cases T[a]? with
 | none => exact ⟨⟨fun e => (by cases e), fun e => (by cases e)⟩, ⟨fun e => (by cases e), fun e => (by cases e)⟩⟩
 | some t =>
  simp only [Option.map_some, Bool.and_eq_true, decide_eq_true_eq, Option.some.injEq]
  exact ⟨cls_br.1, cls_br.2⟩
def signOp (c : Option Cls) (k : Nat) : Int := match c with
 | some (.bin op) => if bindsP op = k then op else 0
 | _ => 0
def SignV (X : RdX) (w : World) (a : Nat) (O : List Nd) (oa : Option Addr) (oc : Nat) (op : Int) (e : Ending) (w' : World) : Prop :=
 e = .returned (.int .i64 op) ∧ RdS X w' (if op = 0 then a else a + 1) O oa oc 0 0 ∧ RdG X.g w w' (Value.slice oa O.length oc).ownBlock (Value.slice oa O.length oc).ownBlock
theorem run_index_ways (w : World) (T e : Nat) (hT : Tryz.prog.underlying T = some (.array 13 e)) (hz : ∀ w, (sizeOf e).run Tryz.prog w = .ok 4 w) (ha : ∀ w, (isAgg e).run Tryz.prog w = .ok true w) (cs : Array Value) (i : Nat) (hi : i < 13) : (Instr.index T (.agg cs) (.int .i64 (i : Int))).run Tryz.prog w = .ok (.agg (cs.extract (i * 4) (i * 4 + 4))) w := by
 have h1 : (0 : Int) ≤ (i : Int) ∧ (i : Int) < (13 : Int) := by omega
 simp [Instr.index, run_underlying hT, asIntOf, h1, go_sem, hz, ha, part]
 intro h2
 omega
theorem ways_cut : ∀ (i : Nat) (hi : i < 13), (wayVals waysL).toArray.extract (i * 4) (i * 4 + 4) = (wayV (waysL[i]'hi)).toArray
 | 0, _ => rfl
 | 1, _ => rfl
 | 2, _ => rfl
 | 3, _ => rfl
 | 4, _ => rfl
 | 5, _ => rfl
 | 6, _ => rfl
 | 7, _ => rfl
 | 8, _ => rfl
 | 9, _ => rfl
 | 10, _ => rfl
 | 11, _ => rfl
 | 12, _ => rfl
 | i + 13, hi => by omega
theorem way_two : ∀ (i : Nat) (hi : i < 13), 0 < (waysL[i]'hi).2.2.1 → takesP (i : Int) = 2 ∧ (waysL[i]'hi).2.1 = (bindsP (i : Int) : Int) ∧ (waysL[i]'hi).1 = wordP (i : Int)
 | 0, hi => by revert hi; decide
 | 1, hi => by revert hi; decide
 | 2, hi => by revert hi; decide
 | 3, hi => by revert hi; decide
 | 4, hi => by revert hi; decide
 | 5, hi => by revert hi; decide
 | 6, hi => by revert hi; decide
 | 7, hi => by revert hi; decide
 | 8, hi => by revert hi; decide
 | 9, hi => by revert hi; decide
 | 10, hi => by revert hi; decide
 | 11, hi => by revert hi; decide
 | 12, hi => by revert hi; decide
 | i + 13, hi => by omega
theorem way_of_two {op : Int} (h : takesP op = 2) : ∃ (i : Nat) (hi : i < 13), op = i ∧ 0 < (waysL[i]'hi).2.2.1 := by
 rcases binds_two h with ⟨rfl, _⟩ | ⟨rfl, _⟩ | ⟨rfl, _⟩ | ⟨rfl | rfl, _⟩
 ·exact ⟨5, by decide, rfl, by decide⟩
 ·exact ⟨6, by decide, rfl, by decide⟩
 ·exact ⟨7, by decide, rfl, by decide⟩
 ·exact ⟨9, by decide, rfl, by decide⟩
 ·exact ⟨10, by decide, rfl, by decide⟩
theorem opC_two {op : Int} (h : takesP op = 2) : opC op = .bin op := by unfold opC; rw [if_neg (by omega), if_neg (by omega)]
def SgI (X : RdX) (a k i : Nat) : Prop := ∀ j (hj : j < 13), j < i → 0 < (waysL[j]'hj).2.2.1 → (waysL[j]'hj).2.1 = (k : Int) → isB X.T a (waysL[j]'hj).1 = false
theorem SgI.hit {X : RdX} {a k i : Nat} (hi : i < 13) (h1 : 0 < (waysL[i]'hi).2.2.1) (h2 : (waysL[i]'hi).2.1 = (k : Int)) (h3 : isB X.T a (waysL[i]'hi).1 = true) : signOp (clsL X.N X.T)[a]? k = (i : Int) ∧ (i : Int) ≠ 0 := by
 obtain ⟨t1, t2, t3⟩ := way_two i hi h1
 rw [t3] at h3
 rw [t2] at h2
 have h4 := (isB_opC (N := X.N) (.inr (.inr t1))).1 h3
 rw [h4, opC_two t1]
 refine ⟨?_, fun e => by rw [e] at t1; cases t1⟩
 show (if bindsP (i : Int) = k then (i : Int) else 0) = _
 rw [if_pos (by omega)]
theorem SgI.miss {X : RdX} {a k : Nat} (h : SgI X a k 13) : signOp (clsL X.N X.T)[a]? k = 0 := by
 cases hc : (clsL X.N X.T)[a]? with
 | none => rfl
 | some c =>
  cases c with
  | bin op =>
   show (if bindsP op = k then op else 0) = 0
   by_cases hb : bindsP op = k
   ·exfalso
    have hg := clsL_good X.N X.T _ (List.mem_of_getElem? hc)
    have ht : takesP op = 2 := hg
    obtain ⟨i, hi, rfl, hp⟩ := way_of_two ht
    obtain ⟨t1, t2, t3⟩ := way_two i hi hp
    have h1 := h i hi hi hp (by rw [t2, hb])
    rw [t3] at h1
    rw [← opC_two ht] at hc
    rw [(isB_opC (N := X.N) (.inr (.inr ht))).2 hc] at h1
    cases h1
   ·rw [if_neg hb]
  | _ => rfl
theorem SgI.next {X : RdX} {a k i : Nat} (h : SgI X a k i) (hi : i < 13) (h1 : 0 < (waysL[i]'hi).2.2.1 → (waysL[i]'hi).2.1 = (k : Int) → isB X.T a (waysL[i]'hi).1 = false) : SgI X a k (i + 1) := fun j hj hji p q => by
 by_cases e : j = i
 ·subst e; exact h1 p q
 ·exact h j hj (by omega) p q
theorem sizeHow (w : World) : (sizeOf THow).run Tryz.prog w = .ok 4 w := by kernel_rfl
theorem aggHow (w : World) : (isAgg THow).run Tryz.prog w = .ok true w := by kernel_rfl
set_option maxRecDepth 8000 in
set_option maxHeartbeats 8000000 in
theorem sign_any (X : RdX) (hX : RdOk X) (w : World) (a : Nat) (O : List Nd) (oa : Option Addr) (oc : Nat) (h : RdS X w a O oa oc 0 0) (k : Nat) (hk : k ≤ 5) :
  Calls Tryz.prog 26 #[.pointer (some ⟨X.g, 0, none⟩), .int .i64 (k : Int)] w fun e w' => SignV X w a O oa oc (signOp (clsL X.N X.T)[a]? k) e w' := by
 obtain ⟨so, hso⟩ : ∃ so, so = signOp (clsL X.N X.T)[a]? k := ⟨_, rfl⟩
 rw [← hso]
 have HIT : Hid (∀ (i : Nat) (hi : i < 13), 0 < (waysL[i]'hi).2.2.1 → (waysL[i]'hi).2.1 = (k : Int) → isB X.T a (waysL[i]'hi).1 = true → so = (i : Int) ∧ (i : Int) ≠ 0) := fun i hi h1 h2 h3 => by rw [hso]; exact SgI.hit hi h1 h2 h3
 have MISS : Hid (SgI X a k 13 → so = 0) := fun h => by rw [hso]; exact h.miss
 have S0 : Hid (SgI X a k 0) := fun j hj h0 => by omega
 have G0 : Hid (RdG X.g w w (Value.slice oa O.length oc).ownBlock (Value.slice oa O.length oc).ownBlock) := RdG.refl _ _ _
 have WAYS : w.rangeAt 0 0 (wayVals waysL) := fun j v hj => by
  have hj52 : j < 52 := (List.getElem?_eq_some_iff.1 hj).1
  rw [Nat.zero_add, (hX.door.below h.bel).ways j hj52]
  exact hj
 have TKE : Hid (∀ v, RdS X v a O oa oc 0 0 → ∀ s : ByteArray, Calls Tryz.prog 53 #[.pointer (some ⟨X.g, 0, none⟩), .string s] v fun e w' => TakeV X v a O oa oc 0 0 (isB X.T a s.data.toList) e w') := fun v hv s => take_any X hX v a O oa oc 0 0 hv s
 have IXR : Hid (∀ (cs : Array Value) (i : Nat), i < 13 → ∀ v, (Instr.index 62 (.agg cs) (.int .i64 (i : Int))).run Tryz.prog v = .ok (.agg (cs.extract (i * 4) (i * 4 + 4))) v) := fun cs i hi v => run_index_ways v 62 THow Tryz.underlying62 sizeHow aggHow cs i hi
 replace WAYS := Lib.hid WAYS
 replace h := Lib.hid h
 clear hso hX
 have hkI : (k : Int) ≤ 5 := by omega
 go_enter Tryz.func26, Tryz.ntmps26
 go_upto_region 1 with (fail)
 refine wp_region_list ?_
 refine wpList_load_mid rfl 62 (.global 0) rfl 0 0 rfl (wayVals waysL) _ WAYS.out Tryz.underlying62 rfl (by kernel_rfl) ?_
 obtain ⟨av, hav⟩ : ∃ av, av = (wayVals waysL).toArray := ⟨_, rfl⟩
 rw [← hav]
 replace hav := Lib.hid hav
 refine wpList_plain rfl (fun K hK => ?_)
 go_simp
 refine hK _ _ ?_
 clear hK K
 refine wpList_nil ?_
 clear WAYS
 go_wp2
 go_loopw [4, 8] (fun ov iv wr => ∃ i : Nat, ov = .int .i64 0 ∧ iv = .int .i64 (i : Int) ∧ i ≤ 13 ∧ Hid (SgI X a k i) ∧ Hid (RdS X wr a O oa oc 0 0) ∧ Hid (RdG X.g w wr (Value.slice oa O.length oc).ownBlock (Value.slice oa O.length oc).ownBlock)) (fun _ iv _ => 13 - (intOf iv).toNat)
 case atStart => exact ⟨0, rfl, rfl, Nat.zero_le _, S0, h, G0⟩
 case round =>
  obtain ⟨i, rfl, rfl, hi, sg, rs, gr⟩ := hrel
  clear S0 h G0
  by_cases hl : i < 13
  ·have hlI : (i : Int) < 13 := by omega
   have hix := fun v => IXR.out av i hl v
   have hcut : av.extract (i * 4) (i * 4 + 4) = (wayV (waysL[i]'hl)).toArray := by rw [hav.out, ways_cut i hl]
   rw [hcut] at hix
   clear hcut
   have HI := HIT.out i hl
   have NX := sg.out.next hl
   generalize waysL[i]'hl = row at hix HI NX
   obtain ⟨rw1, rb, rl, rr⟩ := row
   dsimp only at HI NX
   obtain ⟨ws, hws⟩ : ∃ ws : ByteArray, ws = ⟨rw1.toArray⟩ := ⟨_, rfl⟩
   have hwd : ws.data.toList = rw1 := by rw [hws]
   have TK := fun v hv => TKE.out v hv ws
   rw [hwd] at TK
   have hrow : wayV (rw1, rb, rl, rr) = [.string ws, .int .i64 rb, .int .i64 rl, .int .i64 rr] := by rw [hws]; rfl
   rw [hrow] at hix
   replace TK := Lib.hid TK
   replace HI := Lib.hid HI
   replace NX := Lib.hid NX
   generalize isB X.T a rw1 = bv at TK HI NX
   clear hws hwd hrow
   go_upto_region 3 with (fail)
   refine wp_region_list ?_
   refine wpList_plain rfl (fun K hK => ?_)
   go_simp
   refine hK _ _ ?_
   clear hK K
   refine wpList_plain rfl (fun K hK => ?_)
   go_simp
   refine hK _ _ ?_
   clear hK K
   refine wpList_plain rfl (fun K hK => ?_)
   go_simp
   refine hK _ _ ?_
   clear hK K hix
   obtain ⟨wa, hwa⟩ : ∃ wa, wa = wr.alloc (.cells #[.string ⟨#[]⟩, .int .i64 0, .int .i64 0, .int .i64 0] THow) := ⟨_, rfl⟩
   obtain ⟨gW, hgW⟩ : ∃ gW, gW = wr.heap.size := ⟨_, rfl⟩
   have ra : RowAt wa gW THow [.string ⟨#[]⟩, .int .i64 0, .int .i64 0, .int .i64 0] := by rw [hwa]; exact RowAt.new #[.string ⟨#[]⟩, .int .i64 0, .int .i64 0, .int .i64 0] hgW
   have ba : Below wr.heap.size wr wa := by rw [hwa]; exact balloc (Below.refl _ _) _
   rw [← hwa, ← hgW]
   replace hwa := Lib.hid hwa
   replace hgW := Lib.hid hgW
   refine wpList_plain rfl (fun K hK => ?_)
   go_simp
   refine hK _ _ ?_
   clear hK K
   refine list_store (l := [.string ws, .int .i64 rb, .int .i64 rl, .int .i64 rr]) infoHow ra rfl rfl how_one rfl 6 11 rfl rfl rfl ?_
   intro wb qb kb
   refine wpList_nil ?_
   have bb : Below wr.heap.size wr wb := kb.below ba (fun j hj => by cases hj; rw [hgW.out]; exact Nat.le_refl _)
   have rsb := Lib.hid (rs.out.below bb)
   have grb := Lib.hid (gr.out.trans (RdG.below bb))
   have c0 : wb.cell? ⟨gW, 0, none⟩ = some (.string ws) := qb.cell 0
   have c1 : wb.cell? ⟨gW, 1, none⟩ = some (.int .i64 rb) := qb.cell 1
   have c2 : wb.cell? ⟨gW, 2, none⟩ = some (.int .i64 rl) := qb.cell 2
   clear kb ba ra qb bb rs gr
   by_cases hrl : 0 < rl
   ·by_cases hrb : rb = (k : Int)
    ·have hrbB : (rb == (k : Int)) = true := by rw [hrb]; exact beq_self_eq_true _
     have T1 := Lib.hid (TK.out wb rsb.out)
     have HI2 := HI.out hrl hrb
     have NX2 := NX.out
     cases bv with
     | true =>
      obtain ⟨e1, e2⟩ := HI2 rfl
      have hso := Lib.hid e1
      have hne := Lib.hid e2
      clear HI2 NX2 e1 e2 hrb HI NX
      go_wp2_with fail
      refine T1.out.mono ?_
      rintro e w2 ⟨rfl, rs2, gr2⟩
      have fin : Hid (SignV X w a O oa oc so (.returned (.int .i64 so)) w2) := ⟨rfl, by rw [if_neg (by rw [hso.out]; exact hne.out)]; exact rs2, grb.out.trans gr2⟩
      rw [hso.out] at fin
      clear rs2 gr2
      go_wp2
      go_ret
      rw [hso.out]
      exact fin.out
     | false =>
      have sg2 := Lib.hid (NX2 (fun _ _ => rfl))
      clear HI2 NX2 hrb HI NX
      go_wp2_with fail
      refine T1.out.mono ?_
      rintro e w2 ⟨rfl, rs2, gr2⟩
      have rs3 : Hid (RdS X w2 a O oa oc 0 0) := rs2
      have gr3 := Lib.hid (grb.out.trans gr2)
      clear rs2 gr2
      go_wp2
      go_roundw
      case rel => exact ⟨i + 1, rfl, by go_num, by omega, sg2, rs3, gr3⟩
      case measure => simp [intOf]; omega
    ·have hrbB : (rb == (k : Int)) = false := by rw [beq_eq_false_iff_ne]; exact hrb
     have sg2 := Lib.hid (NX.out (fun _ e => absurd e hrb))
     clear hrb HI NX TK
     go_wp2
     go_roundw
     case rel => exact ⟨i + 1, rfl, by go_num, by omega, sg2, rsb, grb⟩
     case measure => simp [intOf]; omega
   ·have sg2 := Lib.hid (NX.out (fun e => absurd e hrl))
    clear HI NX TK
    go_wp2
    go_roundw
    case rel => exact ⟨i + 1, rfl, by go_num, by omega, sg2, rsb, grb⟩
    case measure => simp [intOf]; omega
  ·have hlI : ¬ (i : Int) < 13 := by omega
   have h13 : i = 13 := by omega
   have hs0 := MISS.out (by rw [← h13]; exact sg.out)
   have fin : Hid (SignV X w a O oa oc so (.returned (.int .i64 0)) wr) := ⟨by rw [hs0], by rw [if_pos hs0]; exact rs.out, gr.out⟩
   clear sg rs gr hs0 h13
   go_wp2
   go_ret
   exact fin.out
end Go.Proofs.YtkehfolcfcbplaaGreatDoor
