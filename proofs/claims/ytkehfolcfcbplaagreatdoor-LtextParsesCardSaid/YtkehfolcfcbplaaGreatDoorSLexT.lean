/- One token, walked. Conditions: what the listed variables hold; short texts. -/
import Derived.Test.YtkehfolcfcbplaaGreatDoorSLexB
import Derived.Test.YtkehfolcfcbplaaGreatDoorSBox
import Derived.Deep.CutBlock
namespace Go.Proofs.YtkehfolcfcbplaaGreatDoor
open Go.RowKit
set_option linter.unusedVariables false
abbrev TTok : Nat := 56
theorem infoTok : (Tryz.prog.info? TTok).map (·.size) = some 4 := by kernel_rfl
theorem undTok : ∃ d, Tryz.prog.underlying TTok = some d ∧ d.isRow = true := und_row (by kernel_rfl)
def tkV (k : Nat) (n : Int) (a : Nat) (text : ByteArray) : List Value := [.int .i64 (k : Int), .int .i64 n, .int .i64 (a : Int), .string text]
theorem tkV_one (k : Nat) (n : Int) (a : Nat) (text : ByteArray) : ∀ v ∈ tkV k n a text, v.oneCell' = true := by
 intro v hv
 simp only [tkV, List.mem_cons, List.not_mem_nil, or_false] at hv
 rcases hv with rfl | rfl | rfl | rfl <;> rfl
def OneV (L : List UInt8) (e : Ending) : Prop := match oneP L with
 | .err c => ∃ l : List Value, e = .returned (.tuple #[.agg l.toArray, .int .i64 (c : Int)]) ∧ l.length = 4 ∧ (∀ v ∈ l, v.oneCell' = true)
 | .tok k n len => ∃ t : ByteArray, e = .returned (.tuple #[.agg (tkV k n 0 t).toArray, .int .i64 0]) ∧ t.data.toList = L.take len
theorem part_enters (args : Array Value) (v : World) : (callFunc 48 args).run Tryz.prog v = .ok (.enter 48 args) v := (enters_of Tryz.func48 (by kernel_rfl) rfl) args v
theorem digit_enters (args : Array Value) (v : World) : (callFunc 50 args).run Tryz.prog v = .ok (.enter 50 args) v := (enters_of Tryz.func50 (by kernel_rfl) rfl) args v
theorem take_str (s : ByteArray) (a : Nat) : (s.extract 0 a).data.toList = s.data.toList.take a := by
 rw [ByteArray.data_extract, Array.toList_extract, List.extract_eq_take_drop, List.drop_zero, Nat.sub_zero]
theorem letB (b : UInt8) : lettI (b.toNat : Int) = isLet b := by
 have h1 : lettI (b.toNat : Int) = true ↔ isLet b = true := by
  unfold lettI isLet
  simp only [Bool.or_eq_true, Bool.and_eq_true, decide_eq_true_eq]
  omega
 cases h2 : isLet b with
 | true => exact h1.2 h2
 | false => cases h3 : lettI (b.toNat : Int) with
  | false => rfl
  | true => rw [h1.1 h3] at h2; cases h2
def signR : Option (List UInt8) → OneR
 | some x => .tok 3 0 x.length
 | none => .err 13
theorem one_sign {L : List UInt8} (h1 : ¬ headB isLet L = true) (h2 : ¬ headB isDig L = true) : oneP L = signR (signsL.find? (fun x => x.isPrefixOf L)) := by
 unfold oneP
 rw [if_neg h1, if_neg h2]
 cases signsL.find? (fun x => x.isPrefixOf L) <;> rfl
theorem run_index_strs (w : World) (T n : Nat) (hT : Tryz.prog.underlying T = some (.array n 9)) (cs : Array Value) (i : Nat) (hi : i < n) (x : ByteArray) (h : cs[i]? = some (.string x)) : (Instr.index T (.agg cs) (.int .i64 (i : Int))).run Tryz.prog w = .ok (.string x) w := by
 have h1 : (0 : Int) ≤ (i : Int) ∧ (i : Int) < (n : Int) := by omega
 have z := Tryz.sizeOf9
 have a := Tryz.isAgg9
 simp [Instr.index, run_underlying hT, asIntOf, h1, go_sem, z, a, h, part]
 intro h2
 omega
theorem find_at {p : List UInt8 → Bool} : ∀ {l : List (List UInt8)} {i : Nat} {x : List UInt8}, l[i]? = some x → p x = true → (∀ j, j < i → ∀ y, l[j]? = some y → p y = false) → l.find? p = some x
 | a :: l, 0, x, h, hp, _ => by
  cases h
  rw [List.find?_cons, hp]
 | a :: l, i + 1, x, h, hp, hn => by
  rw [List.find?_cons, hn 0 (Nat.zero_lt_succ _) a rfl]
  exact find_at (i := i) h hp (fun j hj y hy => hn (j + 1) (by omega) y hy)
theorem find_none {p : List UInt8 → Bool} {l : List (List UInt8)} (hn : ∀ j, j < l.length → ∀ y, l[j]? = some y → p y = false) : l.find? p = none := by
 rw [List.find?_eq_none]
 intro x hx
 obtain ⟨j, hj, e⟩ := List.mem_iff_getElem.1 hx
 have := hn j hj x (by rw [List.getElem?_eq_getElem hj, e])
 rw [this]
 decide
theorem letter_at (s : ByteArray) (h0 : 0 < s.size) (w : World) : Calls Tryz.prog 49 #[.int .i32 (wrap32 (s[0].toNat : Int))] w fun e w' => e = .returned (.bool (isLet s[0])) ∧ w' = w := by
 have h := letter_any w (wrap32 (s[0].toNat : Int))
 have h2 : wrap32 (s[0].toNat : Int) = (s[0].toNat : Int) := by unfold wrap32; have := UInt8.toNat_lt s[0]; omega
 have h3 : lettI (wrap32 (s[0].toNat : Int)) = isLet s[0] := by rw [h2, letB]
 rw [h3] at h
 exact h
theorem head_eq {L : List UInt8} {s : ByteArray} (hL : L = s.data.toList) (hs0 : 0 < s.size) (p : UInt8 → Bool) : headB p L = p s[0] := by
 cases hc : L with
 | nil =>
  have : L.length = s.size := by rw [hL, Array.length_toList]; rfl
  rw [hc] at this
  simp at this
  omega
 | cons c r =>
  have h2 := hL
  rw [hc] at h2
  rw [data_at s 0 hs0 (by rw [← h2]; exact Nat.zero_lt_succ _)]
  simp only [← h2, List.getElem_cons_zero]
  rfl
theorem head_at {L : List UInt8} {s : ByteArray} (hL : L = s.data.toList) (hs0 : 0 < s.size) {p : UInt8 → Bool} (h : headB p L = true) : p s[0] = true := (head_eq hL hs0 p).symm.trans h
theorem head_no {L : List UInt8} {s : ByteArray} (hL : L = s.data.toList) (hs0 : 0 < s.size) {p : UInt8 → Bool} (h : ¬ headB p L = true) : p s[0] = false := by
 rw [head_eq hL hs0] at h
 simpa using h
theorem runB_zero {p : UInt8 → Bool} {L : List UInt8} (h : ¬ headB p L = true) : runB p L = 0 := by
 cases L with
 | nil => rfl
 | cons c r =>
  have h' : ¬ p c = true := h
  rw [runB, if_neg h']
set_option maxRecDepth 8000 in
set_option maxHeartbeats 8000000 in
theorem one_any (w : World) (hd : Door w) (s : ByteArray) (hs : s.size ≤ 281474976710656) :
  Calls Tryz.prog 23 #[.string s] w fun e w' => OneV s.data.toList e ∧ Below w.heap.size w w' := by
 obtain ⟨L, hL⟩ : ∃ L, L = s.data.toList := ⟨_, rfl⟩
 have hLn : s.size = L.length := by rw [hL, Array.length_toList]; rfl
 have RP := Lib.hid (fun w => run_any w s hs 48 _ isPart false ofPart part_any part_enters _ rfl)
 have RD := Lib.hid (fun w => run_any w s hs 50 _ isDig false ofDig digit_any digit_enters _ rfl)
 rw [← hL] at RP RD ⊢
 obtain ⟨w1, hw1⟩ : ∃ w1, w1 = w.alloc (.cells #[.int .i64 0, .int .i64 0, .int .i64 0, .string ⟨#[]⟩] TTok) := ⟨_, rfl⟩
 obtain ⟨g, hg⟩ : ∃ g, g = w.heap.size := ⟨_, rfl⟩
 have r1 : RowAt w1 g TTok (tkV 0 0 0 ⟨#[]⟩) := by rw [hw1]; exact RowAt.new #[.int .i64 0, .int .i64 0, .int .i64 0, .string ⟨#[]⟩] hg
 have b1 : Below w.heap.size w w1 := by rw [hw1]; exact balloc (Below.refl _ _) _
 replace r1 := Lib.hid r1
 replace b1 := Lib.hid b1
 replace hw1 := Lib.hid hw1
 replace hg := Lib.hid hg
 replace hL := Lib.hid hL
 replace hLn := Lib.hid hLn
 replace hd := Lib.hid hd
 have hsI : (s.size : Int) ≤ 281474976710656 := by omega
 replace hs := Lib.hid hs
 obtain ⟨kp, hkp⟩ : ∃ k, k = runB isPart L := ⟨_, rfl⟩
 obtain ⟨kd, hkd⟩ : ∃ k, k = runB isDig L := ⟨_, rfl⟩
 have hkl : kp ≤ s.size ∧ kd ≤ s.size := by rw [hkp, hkd, hLn.out]; exact ⟨runB_le _ _, runB_le _ _⟩
 rw [← hkp] at RP
 rw [← hkd] at RD
 replace hkp := Lib.hid hkp
 replace hkd := Lib.hid hkd
 go_enter Tryz.func23, Tryz.ntmps23
 go_upto_region 1 with (fail)
 rw [← hw1.out, ← hg.out]
 clear hw1
 go_wp2_with fail
 refine (RP.out w1).mono ?_
 rintro e w2 ⟨rfl, hb2⟩
 have z2 := Lib.hid (btrans b1.out hb2)
 have r2 := Lib.hid (r1.out.below hb2)
 clear hb2 RP
 by_cases hlet : headB isLet L = true
 ·have hpos : 0 < kp := by rw [hkp.out]; exact runB_pos (let_part hlet)
  have hs0 : 0 < s.size := by have := hkl.1; omega
  have hL0 : isLet s[0] = true := head_at hL.out hs0 hlet
  have LT := Lib.hid (letter_at s hs0)
  rw [hL0] at LT
  have ho : oneP L = if 16 < kp then .err 6 else .tok 1 0 kp := by unfold oneP; rw [if_pos hlet, ← hkp.out]
  replace ho := Lib.hid ho
  have hposI : (0 : Int) < (kp : Int) := by omega
  have hklI : (kp : Int) ≤ (s.size : Int) := by have := hkl.1; omega
  clear hlet hL0 RD
  go_wp2_with fail
  refine (LT.out w2).mono ?_
  rintro e w3 ⟨rfl, rfl⟩
  clear LT
  by_cases h16 : 16 < kp
  ·have h16I : (16 : Int) < (kp : Int) := by omega
   have hoe := ho.out
   rw [if_pos h16] at hoe
   replace hoe := Lib.hid hoe
   clear ho
   go_upto_region 4 with (fail)
   refine wp_region_list ?_
   refine wpList_plain rfl (fun K hK => ?_)
   go_simp
   refine hK _ _ ?_
   clear hK K
   refine list_store (l := tkV 0 0 0 ⟨#[]⟩) infoTok r2.out rfl rfl (tkV_one _ _ _ _) rfl 2 22 rfl rfl rfl ?_
   intro wz qz kz
   refine wpList_plain rfl (fun K hK => ?_)
   go_simp
   refine hK _ _ ?_
   clear hK K
   refine wpList_nil ?_
   have zz : Below w.heap.size w wz := kz.below z2.out (fun j hj => by cases hj; rw [hg.out]; exact Nat.le_refl _)
   replace qz := Lib.hid qz
   replace zz := Lib.hid zz
   clear kz
   go_wp2
   refine bodyPost_ret (v := .tuple #[.agg (tkV 0 0 0 ⟨#[]⟩).toArray, .int .i64 6]) (results_ct (a := 2) (b := 3) (by kernel_rfl) rfl rfl (loadVar_whole undTok infoTok qz.out rfl)) rfl ⟨?_, zz.out⟩
   unfold OneV
   rw [hoe.out]
   exact ⟨_, rfl, rfl, tkV_one _ _ _ _⟩
  ·have h16I : ¬ (16 : Int) < (kp : Int) := by omega
   have hoe := ho.out
   rw [if_neg h16] at hoe
   replace hoe := Lib.hid hoe
   clear ho
   go_upto_region 5 with (fail)
   refine wp_region_list ?_
   refine wpList_plain rfl (fun K hK => ?_)
   go_simp
   refine hK _ _ ?_
   clear hK K
   refine wpList_plain rfl (fun K hK => ?_)
   go_simp
   refine hK _ _ ?_
   clear hK K
   refine wpList_plain rfl (fun K hK => ?_)
   go_simp
   refine hK _ _ ?_
   clear hK K
   refine wpList_plain rfl (fun K hK => ?_)
   go_simp
   refine hK _ _ ?_
   clear hK K
   refine list_store (l := tkV 1 0 0 (s.extract 0 kp)) infoTok r2.out rfl rfl (tkV_one _ _ _ _) rfl 2 26 rfl rfl rfl ?_
   intro wz qz kz
   refine wpList_plain rfl (fun K hK => ?_)
   go_simp
   refine hK _ _ ?_
   clear hK K
   refine wpList_nil ?_
   have zz : Below w.heap.size w wz := kz.below z2.out (fun j hj => by cases hj; rw [hg.out]; exact Nat.le_refl _)
   replace qz := Lib.hid qz
   replace zz := Lib.hid zz
   clear kz
   go_wp2
   refine bodyPost_ret (v := .tuple #[.agg (tkV 1 0 0 (s.extract 0 kp)).toArray, .int .i64 0]) (results_ct (a := 2) (b := 3) (by kernel_rfl) rfl rfl (loadVar_whole undTok infoTok qz.out rfl)) rfl ⟨?_, zz.out⟩
   unfold OneV
   rw [hoe.out]
   exact ⟨_, rfl, by rw [take_str, hL.out]⟩
 ·by_cases hpos : 0 < kp
  ·have hs0 : 0 < s.size := by have := hkl.1; omega
   have hL0 : isLet s[0] = false := head_no hL.out hs0 hlet
   have LT := Lib.hid (letter_at s hs0)
   rw [hL0] at LT
   have hposI : (0 : Int) < (kp : Int) := by omega
   clear hL0
   go_wp2_with fail
   refine (LT.out w2).mono ?_
   rintro e w3 ⟨rfl, rfl⟩
   clear LT
   go_wp2_with fail
   refine (RD.out _).mono ?_
   rintro e w3 ⟨rfl, hb3⟩
   have z3 := Lib.hid (btrans z2.out hb3)
   have r3 := Lib.hid (r2.out.below hb3)
   clear hb3 RD z2 r2
   by_cases hdig : headB isDig L = true
   ·have hpd : 0 < kd := by rw [hkd.out]; exact runB_pos hdig
    have hpdI : (0 : Int) < (kd : Int) := by omega
    have hkdI : (kd : Int) ≤ (s.size : Int) := by have := hkl.2; omega
    have ho : oneP L = if (numP (L.take kd)).2 = true then .tok 2 (numP (L.take kd)).1 kd else .err 10 := by unfold oneP; rw [if_neg hlet, if_pos hdig, ← hkd.out]
    have NM := Lib.hid (fun w' (hb : Below w.heap.size w w') => number_any w' (hd.out.below hb) (s.extract 0 kd) (by have h1 := hs.out; rw [ByteArray.size_extract]; omega))
    rw [take_str, ← hL.out] at NM
    obtain ⟨pn, hpn⟩ : ∃ pn, pn = numP (L.take kd) := ⟨_, rfl⟩
    rw [← hpn] at NM ho
    clear hpn hdig hlet
    obtain ⟨v, b⟩ := pn
    dsimp only at NM ho
    replace ho := Lib.hid ho
    go_wp2_with fail
    refine (NM.out _ z3.out).mono ?_
    rintro e w4 ⟨rfl, hb4⟩
    have z4 := Lib.hid (btrans z3.out hb4)
    have r4 := Lib.hid (r3.out.below hb4)
    clear hb4 NM z3 r3
    cases b with
    | true =>
     have hoe := ho.out
     rw [if_pos rfl] at hoe
     replace hoe := Lib.hid hoe
     clear ho
     go_upto_region 11 with (fail)
     refine wp_region_list ?_
     refine wpList_plain rfl (fun K hK => ?_)
     go_simp
     refine hK _ _ ?_
     clear hK K
     refine wpList_plain rfl (fun K hK => ?_)
     go_simp
     refine hK _ _ ?_
     clear hK K
     refine wpList_plain rfl (fun K hK => ?_)
     go_simp
     refine hK _ _ ?_
     clear hK K
     refine wpList_plain rfl (fun K hK => ?_)
     go_simp
     refine hK _ _ ?_
     clear hK K
     refine wpList_plain rfl (fun K hK => ?_)
     go_simp
     refine hK _ _ ?_
     clear hK K
     refine list_store (l := tkV 2 v 0 (s.extract 0 kd)) infoTok r4.out rfl rfl (tkV_one _ _ _ _) rfl 2 45 rfl rfl rfl ?_
     intro wz qz kz
     refine wpList_plain rfl (fun K hK => ?_)
     go_simp
     refine hK _ _ ?_
     clear hK K
     refine wpList_nil ?_
     have zz : Below w.heap.size w wz := kz.below z4.out (fun j hj => by cases hj; rw [hg.out]; exact Nat.le_refl _)
     replace qz := Lib.hid qz
     replace zz := Lib.hid zz
     clear kz
     go_wp2
     refine bodyPost_ret (v := .tuple #[.agg (tkV 2 v 0 (s.extract 0 kd)).toArray, .int .i64 0]) (results_ct (a := 2) (b := 3) (by kernel_rfl) rfl rfl (loadVar_whole undTok infoTok qz.out rfl)) rfl ⟨?_, zz.out⟩
     unfold OneV
     rw [hoe.out]
     exact ⟨_, rfl, by rw [take_str, hL.out]⟩
    | false =>
     have hoe := ho.out
     rw [if_neg (by decide)] at hoe
     replace hoe := Lib.hid hoe
     clear ho
     go_upto_region 10 with (fail)
     refine wp_region_list ?_
     refine wpList_plain rfl (fun K hK => ?_)
     go_simp
     refine hK _ _ ?_
     clear hK K
     refine list_store (l := tkV 0 0 0 ⟨#[]⟩) infoTok r4.out rfl rfl (tkV_one _ _ _ _) rfl 2 40 rfl rfl rfl ?_
     intro wz qz kz
     refine wpList_plain rfl (fun K hK => ?_)
     go_simp
     refine hK _ _ ?_
     clear hK K
     refine wpList_nil ?_
     have zz : Below w.heap.size w wz := kz.below z4.out (fun j hj => by cases hj; rw [hg.out]; exact Nat.le_refl _)
     replace qz := Lib.hid qz
     replace zz := Lib.hid zz
     clear kz
     go_wp2
     refine bodyPost_ret (v := .tuple #[.agg (tkV 0 0 0 ⟨#[]⟩).toArray, .int .i64 10]) (results_ct (a := 2) (b := 3) (by kernel_rfl) rfl rfl (loadVar_whole undTok infoTok qz.out rfl)) rfl ⟨?_, zz.out⟩
     unfold OneV
     rw [hoe.out]
     exact ⟨_, rfl, rfl, tkV_one _ _ _ _⟩
   ·have hpd : kd = 0 := by rw [hkd.out]; exact runB_zero hdig
    have hpdI : ¬ (0 : Int) < (kd : Int) := by omega
    have ho : oneP L = signR (signsL.find? (fun x => x.isPrefixOf L)) := one_sign hlet hdig
    replace ho := Lib.hid ho
    clear hdig hlet
    have SG : w3.rangeAt 1 0 (strVals signsL) := fun j v hj => by
     rw [Nat.zero_add, ((hd.out.below z3.out).sig j (by
      have := (List.getElem?_eq_some_iff.1 hj).1
      simpa [strVals, signsL] using this))]
     exact hj
    replace SG := Lib.hid SG
    go_upto_region 12 with (fail)
    refine wp_region_list ?_
    refine wpList_load_mid rfl 83 (.global 1) rfl 1 0 rfl (strVals signsL) _ SG.out Tryz.underlying83 rfl (by kernel_rfl) ?_
    obtain ⟨av, hav⟩ : ∃ av, av = (strVals signsL).toArray := ⟨_, rfl⟩
    rw [← hav]
    replace hav := Lib.hid hav
    refine wpList_plain rfl (fun K hK => ?_)
    go_simp
    refine hK _ _ ?_
    clear hK K SG
    refine wpList_nil ?_
    go_wp2
    go_loop [3, 47] (fun ev iv => ∃ i : Nat, ev = .int .i64 0 ∧ iv = .int .i64 (i : Int) ∧ i ≤ 25 ∧ Hid (∀ j, j < i → ∀ x, signsL[j]? = some x → x.isPrefixOf L = false)) (fun _ iv => 25 - (intOf iv).toNat)
    case atStart => exact ⟨0, rfl, rfl, Nat.zero_le _, fun j hj => by omega⟩
    case round =>
     obtain ⟨i, rfl, rfl, hi, hno⟩ := hrel
     by_cases hl : i < 25
     ·have hlI : (i : Int) < 25 := by omega
      have hsl : i < signsL.length := hl
      obtain ⟨x, hx⟩ : ∃ x, signsL[i]? = some x := ⟨_, List.getElem?_eq_getElem hsl⟩
      have hix := run_index_strs w3 83 25 Tryz.underlying83 av i hl ⟨x.toArray⟩ (by rw [hav.out]; simp [strVals, hx])
      have HP : Calls Tryz.prog 52 #[.string s, .string ⟨x.toArray⟩] w3 fun e w' => e = .returned (.bool (x.isPrefixOf L)) ∧ w' = w3 := by
       have := Any.strings_HasPrefix Tryz.lays99 s ⟨x.toArray⟩ w3
       rw [← hL.out] at this
       exact this
      replace HP := Lib.hid HP
      obtain ⟨xb, hxb⟩ : ∃ xb : ByteArray, xb = ⟨x.toArray⟩ := ⟨_, rfl⟩
      rw [← hxb] at hix HP
      replace hx := Lib.hid hx
      replace hxb := Lib.hid hxb
      replace hsl := Lib.hid hsl
      go_wp2_with fail
      refine HP.out.mono ?_
      rintro e w4 ⟨rfl, rfl⟩
      cases hpx : x.isPrefixOf L with
      | true =>
       have hoe : oneP L = .tok 3 0 x.length := by rw [ho.out, find_at hx.out hpx hno.out]; rfl
       have htx : xb.data.toList = L.take x.length := by rw [hxb.out, (prefix_take hpx).2]
       replace hoe := Lib.hid hoe
       replace htx := Lib.hid htx
       clear hpx hix HP hno
       go_upto_region 16 with (fail)
       refine wp_region_list ?_
       refine wpList_plain rfl (fun K hK => ?_)
       go_simp
       refine hK _ _ ?_
       clear hK K
       refine wpList_plain rfl (fun K hK => ?_)
       go_simp
       refine hK _ _ ?_
       clear hK K
       refine list_store (l := tkV 3 0 0 (xb)) infoTok r3.out rfl rfl (tkV_one _ _ _ _) rfl 2 54 rfl rfl rfl ?_
       intro wz qz kz
       refine wpList_plain rfl (fun K hK => ?_)
       go_simp
       refine hK _ _ ?_
       clear hK K
       refine wpList_nil ?_
       have zz : Below w.heap.size w wz := kz.below z3.out (fun j hj => by cases hj; rw [hg.out]; exact Nat.le_refl _)
       replace qz := Lib.hid qz
       replace zz := Lib.hid zz
       clear kz
       go_wp2
       refine bodyPost_ret (v := .tuple #[.agg (tkV 3 0 0 (xb)).toArray, .int .i64 0]) (results_ct (a := 2) (b := 3) (by kernel_rfl) rfl rfl (loadVar_whole undTok infoTok qz.out rfl)) rfl ⟨?_, zz.out⟩
       unfold OneV
       rw [hoe.out]
       exact ⟨_, rfl, htx.out⟩
      | false =>
       have hno2 : Hid (∀ j, j < i + 1 → ∀ x, signsL[j]? = some x → x.isPrefixOf L = false) := fun j hj y hy => by
        by_cases hji : j = i
        ·subst hji
         rw [hx.out] at hy
         cases hy
         exact hpx
        ·exact hno.out j (by omega) y hy
       clear hpx hix HP hno
       go_wp2
       go_round
       case rel => exact ⟨i + 1, rfl, rfl, by omega, hno2⟩
       case measure => simp [intOf]; omega
     ·have hlI : ¬ (i : Int) < 25 := by omega
      have hoe : oneP L = .err 13 := by rw [ho.out, find_none (fun j hj y hy => hno.out j (by have : signsL.length = 25 := rfl; omega) y hy)]; rfl
      replace hoe := Lib.hid hoe
      clear hno
      go_upto_region 18 with (fail)
      refine wp_region_list ?_
      refine wpList_plain rfl (fun K hK => ?_)
      go_simp
      refine hK _ _ ?_
      clear hK K
      refine list_store (l := tkV 0 0 0 ⟨#[]⟩) infoTok r3.out rfl rfl (tkV_one _ _ _ _) rfl 2 56 rfl rfl rfl ?_
      intro wz qz kz
      refine wpList_plain rfl (fun K hK => ?_)
      go_simp
      refine hK _ _ ?_
      clear hK K
      refine wpList_nil ?_
      have zz : Below w.heap.size w wz := kz.below z3.out (fun j hj => by cases hj; rw [hg.out]; exact Nat.le_refl _)
      replace qz := Lib.hid qz
      replace zz := Lib.hid zz
      clear kz
      go_wp2
      refine bodyPost_ret (v := .tuple #[.agg (tkV 0 0 0 ⟨#[]⟩).toArray, .int .i64 13]) (results_ct (a := 2) (b := 3) (by kernel_rfl) rfl rfl (loadVar_whole undTok infoTok qz.out rfl)) rfl ⟨?_, zz.out⟩
      unfold OneV
      rw [hoe.out]
      exact ⟨_, rfl, rfl, tkV_one _ _ _ _⟩
  ·have hposI : ¬ (0 : Int) < (kp : Int) := by omega
   go_wp2_with fail
   refine (RD.out _).mono ?_
   rintro e w3 ⟨rfl, hb3⟩
   have z3 := Lib.hid (btrans z2.out hb3)
   have r3 := Lib.hid (r2.out.below hb3)
   clear hb3 RD z2 r2
   by_cases hdig : headB isDig L = true
   ·have hpd : 0 < kd := by rw [hkd.out]; exact runB_pos hdig
    have hpdI : (0 : Int) < (kd : Int) := by omega
    have hkdI : (kd : Int) ≤ (s.size : Int) := by have := hkl.2; omega
    have ho : oneP L = if (numP (L.take kd)).2 = true then .tok 2 (numP (L.take kd)).1 kd else .err 10 := by unfold oneP; rw [if_neg hlet, if_pos hdig, ← hkd.out]
    have NM := Lib.hid (fun w' (hb : Below w.heap.size w w') => number_any w' (hd.out.below hb) (s.extract 0 kd) (by have h1 := hs.out; rw [ByteArray.size_extract]; omega))
    rw [take_str, ← hL.out] at NM
    obtain ⟨pn, hpn⟩ : ∃ pn, pn = numP (L.take kd) := ⟨_, rfl⟩
    rw [← hpn] at NM ho
    clear hpn hdig hlet
    obtain ⟨v, b⟩ := pn
    dsimp only at NM ho
    replace ho := Lib.hid ho
    go_wp2_with fail
    refine (NM.out _ z3.out).mono ?_
    rintro e w4 ⟨rfl, hb4⟩
    have z4 := Lib.hid (btrans z3.out hb4)
    have r4 := Lib.hid (r3.out.below hb4)
    clear hb4 NM z3 r3
    cases b with
    | true =>
     have hoe := ho.out
     rw [if_pos rfl] at hoe
     replace hoe := Lib.hid hoe
     clear ho
     go_upto_region 11 with (fail)
     refine wp_region_list ?_
     refine wpList_plain rfl (fun K hK => ?_)
     go_simp
     refine hK _ _ ?_
     clear hK K
     refine wpList_plain rfl (fun K hK => ?_)
     go_simp
     refine hK _ _ ?_
     clear hK K
     refine wpList_plain rfl (fun K hK => ?_)
     go_simp
     refine hK _ _ ?_
     clear hK K
     refine wpList_plain rfl (fun K hK => ?_)
     go_simp
     refine hK _ _ ?_
     clear hK K
     refine wpList_plain rfl (fun K hK => ?_)
     go_simp
     refine hK _ _ ?_
     clear hK K
     refine list_store (l := tkV 2 v 0 (s.extract 0 kd)) infoTok r4.out rfl rfl (tkV_one _ _ _ _) rfl 2 45 rfl rfl rfl ?_
     intro wz qz kz
     refine wpList_plain rfl (fun K hK => ?_)
     go_simp
     refine hK _ _ ?_
     clear hK K
     refine wpList_nil ?_
     have zz : Below w.heap.size w wz := kz.below z4.out (fun j hj => by cases hj; rw [hg.out]; exact Nat.le_refl _)
     replace qz := Lib.hid qz
     replace zz := Lib.hid zz
     clear kz
     go_wp2
     refine bodyPost_ret (v := .tuple #[.agg (tkV 2 v 0 (s.extract 0 kd)).toArray, .int .i64 0]) (results_ct (a := 2) (b := 3) (by kernel_rfl) rfl rfl (loadVar_whole undTok infoTok qz.out rfl)) rfl ⟨?_, zz.out⟩
     unfold OneV
     rw [hoe.out]
     exact ⟨_, rfl, by rw [take_str, hL.out]⟩
    | false =>
     have hoe := ho.out
     rw [if_neg (by decide)] at hoe
     replace hoe := Lib.hid hoe
     clear ho
     go_upto_region 10 with (fail)
     refine wp_region_list ?_
     refine wpList_plain rfl (fun K hK => ?_)
     go_simp
     refine hK _ _ ?_
     clear hK K
     refine list_store (l := tkV 0 0 0 ⟨#[]⟩) infoTok r4.out rfl rfl (tkV_one _ _ _ _) rfl 2 40 rfl rfl rfl ?_
     intro wz qz kz
     refine wpList_plain rfl (fun K hK => ?_)
     go_simp
     refine hK _ _ ?_
     clear hK K
     refine wpList_nil ?_
     have zz : Below w.heap.size w wz := kz.below z4.out (fun j hj => by cases hj; rw [hg.out]; exact Nat.le_refl _)
     replace qz := Lib.hid qz
     replace zz := Lib.hid zz
     clear kz
     go_wp2
     refine bodyPost_ret (v := .tuple #[.agg (tkV 0 0 0 ⟨#[]⟩).toArray, .int .i64 10]) (results_ct (a := 2) (b := 3) (by kernel_rfl) rfl rfl (loadVar_whole undTok infoTok qz.out rfl)) rfl ⟨?_, zz.out⟩
     unfold OneV
     rw [hoe.out]
     exact ⟨_, rfl, rfl, tkV_one _ _ _ _⟩
   ·have hpd : kd = 0 := by rw [hkd.out]; exact runB_zero hdig
    have hpdI : ¬ (0 : Int) < (kd : Int) := by omega
    have ho : oneP L = signR (signsL.find? (fun x => x.isPrefixOf L)) := one_sign hlet hdig
    replace ho := Lib.hid ho
    clear hdig hlet
    have SG : w3.rangeAt 1 0 (strVals signsL) := fun j v hj => by
     rw [Nat.zero_add, ((hd.out.below z3.out).sig j (by
      have := (List.getElem?_eq_some_iff.1 hj).1
      simpa [strVals, signsL] using this))]
     exact hj
    replace SG := Lib.hid SG
    go_upto_region 12 with (fail)
    refine wp_region_list ?_
    refine wpList_load_mid rfl 83 (.global 1) rfl 1 0 rfl (strVals signsL) _ SG.out Tryz.underlying83 rfl (by kernel_rfl) ?_
    obtain ⟨av, hav⟩ : ∃ av, av = (strVals signsL).toArray := ⟨_, rfl⟩
    rw [← hav]
    replace hav := Lib.hid hav
    refine wpList_plain rfl (fun K hK => ?_)
    go_simp
    refine hK _ _ ?_
    clear hK K SG
    refine wpList_nil ?_
    go_wp2
    go_loop [3, 47] (fun ev iv => ∃ i : Nat, ev = .int .i64 0 ∧ iv = .int .i64 (i : Int) ∧ i ≤ 25 ∧ Hid (∀ j, j < i → ∀ x, signsL[j]? = some x → x.isPrefixOf L = false)) (fun _ iv => 25 - (intOf iv).toNat)
    case atStart => exact ⟨0, rfl, rfl, Nat.zero_le _, fun j hj => by omega⟩
    case round =>
     obtain ⟨i, rfl, rfl, hi, hno⟩ := hrel
     by_cases hl : i < 25
     ·have hlI : (i : Int) < 25 := by omega
      have hsl : i < signsL.length := hl
      obtain ⟨x, hx⟩ : ∃ x, signsL[i]? = some x := ⟨_, List.getElem?_eq_getElem hsl⟩
      have hix := run_index_strs w3 83 25 Tryz.underlying83 av i hl ⟨x.toArray⟩ (by rw [hav.out]; simp [strVals, hx])
      have HP : Calls Tryz.prog 52 #[.string s, .string ⟨x.toArray⟩] w3 fun e w' => e = .returned (.bool (x.isPrefixOf L)) ∧ w' = w3 := by
       have := Any.strings_HasPrefix Tryz.lays99 s ⟨x.toArray⟩ w3
       rw [← hL.out] at this
       exact this
      replace HP := Lib.hid HP
      obtain ⟨xb, hxb⟩ : ∃ xb : ByteArray, xb = ⟨x.toArray⟩ := ⟨_, rfl⟩
      rw [← hxb] at hix HP
      replace hx := Lib.hid hx
      replace hxb := Lib.hid hxb
      replace hsl := Lib.hid hsl
      go_wp2_with fail
      refine HP.out.mono ?_
      rintro e w4 ⟨rfl, rfl⟩
      cases hpx : x.isPrefixOf L with
      | true =>
       have hoe : oneP L = .tok 3 0 x.length := by rw [ho.out, find_at hx.out hpx hno.out]; rfl
       have htx : xb.data.toList = L.take x.length := by rw [hxb.out, (prefix_take hpx).2]
       replace hoe := Lib.hid hoe
       replace htx := Lib.hid htx
       clear hpx hix HP hno
       go_upto_region 16 with (fail)
       refine wp_region_list ?_
       refine wpList_plain rfl (fun K hK => ?_)
       go_simp
       refine hK _ _ ?_
       clear hK K
       refine wpList_plain rfl (fun K hK => ?_)
       go_simp
       refine hK _ _ ?_
       clear hK K
       refine list_store (l := tkV 3 0 0 (xb)) infoTok r3.out rfl rfl (tkV_one _ _ _ _) rfl 2 54 rfl rfl rfl ?_
       intro wz qz kz
       refine wpList_plain rfl (fun K hK => ?_)
       go_simp
       refine hK _ _ ?_
       clear hK K
       refine wpList_nil ?_
       have zz : Below w.heap.size w wz := kz.below z3.out (fun j hj => by cases hj; rw [hg.out]; exact Nat.le_refl _)
       replace qz := Lib.hid qz
       replace zz := Lib.hid zz
       clear kz
       go_wp2
       refine bodyPost_ret (v := .tuple #[.agg (tkV 3 0 0 (xb)).toArray, .int .i64 0]) (results_ct (a := 2) (b := 3) (by kernel_rfl) rfl rfl (loadVar_whole undTok infoTok qz.out rfl)) rfl ⟨?_, zz.out⟩
       unfold OneV
       rw [hoe.out]
       exact ⟨_, rfl, htx.out⟩
      | false =>
       have hno2 : Hid (∀ j, j < i + 1 → ∀ x, signsL[j]? = some x → x.isPrefixOf L = false) := fun j hj y hy => by
        by_cases hji : j = i
        ·subst hji
         rw [hx.out] at hy
         cases hy
         exact hpx
        ·exact hno.out j (by omega) y hy
       clear hpx hix HP hno
       go_wp2
       go_round
       case rel => exact ⟨i + 1, rfl, rfl, by omega, hno2⟩
       case measure => simp [intOf]; omega
     ·have hlI : ¬ (i : Int) < 25 := by omega
      have hoe : oneP L = .err 13 := by rw [ho.out, find_none (fun j hj y hy => hno.out j (by have : signsL.length = 25 := rfl; omega) y hy)]; rfl
      replace hoe := Lib.hid hoe
      clear hno
      go_upto_region 18 with (fail)
      refine wp_region_list ?_
      refine wpList_plain rfl (fun K hK => ?_)
      go_simp
      refine hK _ _ ?_
      clear hK K
      refine list_store (l := tkV 0 0 0 ⟨#[]⟩) infoTok r3.out rfl rfl (tkV_one _ _ _ _) rfl 2 56 rfl rfl rfl ?_
      intro wz qz kz
      refine wpList_plain rfl (fun K hK => ?_)
      go_simp
      refine hK _ _ ?_
      clear hK K
      refine wpList_nil ?_
      have zz : Below w.heap.size w wz := kz.below z3.out (fun j hj => by cases hj; rw [hg.out]; exact Nat.le_refl _)
      replace qz := Lib.hid qz
      replace zz := Lib.hid zz
      clear kz
      go_wp2
      refine bodyPost_ret (v := .tuple #[.agg (tkV 0 0 0 ⟨#[]⟩).toArray, .int .i64 13]) (results_ct (a := 2) (b := 3) (by kernel_rfl) rfl rfl (loadVar_whole undTok infoTok qz.out rfl)) rfl ⟨?_, zz.out⟩
      unfold OneV
      rw [hoe.out]
      exact ⟨_, rfl, rfl, tkV_one _ _ _ _⟩
end Go.Proofs.YtkehfolcfcbplaaGreatDoor
