/- Where parts begin, and a node's parts (the document's Spans and Kids), walked. Conditions: a formula, not too many nodes. -/
import Derived.Test.YtkehfolcfcbplaaGreatDoorSLtW4
import Derived.Test.YtkehfolcfcbplaaGreatDoorSAppG
import Derived.Test.YtkehfolcfcbplaaGreatDoorSLtQ
import Derived.IntWalk
namespace Go.Proofs.YtkehfolcfcbplaaGreatDoor
open Go.RowKit
set_option linter.unusedVariables false
set_option linter.unusedSimpArgs false
def intsN (l : List Nat) : List Int := l.map (fun n : Nat => (n : Int))
def NumsV (l : List Nat) (n : Nat) (e : Ending) (w' : World) : Prop := ∃ oa oc, e = .returned (.slice oa n oc) ∧ NumsAt .i64 w' oa (intsN l)
structure SpD (B : Nat) (f : List Nd) (w : World) (i : Nat) (oa : Option Addr) (oc : Nat) (sa : Option Addr) (sn sc : Nat) (st outs : List Nat) : Prop where
 own : OwnN .i64 w B TInt oa i oc (intsN outs)
 nums : NumsAt .i64 w sa (intsN st.reverse)
 apart : ∀ ad, sa = some ad → (Value.slice oa i oc).ownBlock ≠ some ad.block
 len : sn = st.length
 cap : sn ≤ sc
 eq : outs ++ spanG (f.drop i) i st = spanG f 0 []
 wr : wrongG (f.drop i) sn = 0
 le : sn ≤ i
theorem SpD.step {B : Nat} {f : List Nd} {w : World} {i : Nat} {oa : Option Addr} {oc : Nat} {sa : Option Addr} {sn sc : Nat} {st outs : List Nat} (h : SpD B f w i oa oc sa sn sc st outs) (hi : i < f.length) :
  ∃ k : Nat, takesP f[i].1 = k ∧ k ≤ sn ∧ k ≤ 2 ∧ wrongG (f.drop (i + 1)) ((sn - k + 1 : Nat) : Int) = 0 ∧ (outs ++ [beginP f[i] i st]) ++ spanG (f.drop (i + 1)) (i + 1) (beginP f[i] i st :: st.drop k) = spanG f 0 [] ∧ (k = 0 → beginP f[i] i st = i) ∧ (0 < k → (intsN st.reverse).getD (sn - k) 0 = (beginP f[i] i st : Int)) ∧ intsN (beginP f[i] i st :: st.drop k).reverse = (intsN st.reverse).take (sn - k) ++ [(beginP f[i] i st : Int)] := by
 have h1 := h.wr
 have h2 := h.eq
 have hl := h.len
 rw [List.drop_eq_getElem_cons hi] at h1 h2
 rw [wrongG] at h1
 rw [spanG] at h2
 generalize f[i] = x at *
 have ht := takes_le x.1
 split at h1
 ·cases h1
 ·rename_i e1
  split at h1
  ·cases h1
  ·rename_i e2
   split at h1
   ·cases h1
   ·obtain ⟨k, hk⟩ : ∃ k : Nat, takesP x.1 = k := ⟨(takesP x.1).toNat, by omega⟩
    rw [hk] at h1 h2 e2 ht
    rw [Int.toNat_natCast] at h2
    refine ⟨k, hk, by omega, by omega, ?_, ?_, fun e => ?_, fun e => ?_, ?_⟩
    ·have : ((sn - k + 1 : Nat) : Int) = (sn : Int) - (k : Int) + 1 := by omega
     rw [this]
     exact h1
    ·rw [List.append_assoc]
     exact h2
    ·unfold beginP
     rw [if_pos (by omega)]
    ·unfold beginP
     rw [if_neg (by omega), hk, Int.toNat_natCast]
     unfold intsN
     have hk2 : k - 1 < st.length := by omega
     rw [List.getD_eq_getElem?_getD, List.getElem?_map, List.getElem?_reverse (by omega), List.getD_eq_getElem?_getD]
     have e3 : st.length - 1 - (sn - k) = k - 1 := by omega
     rw [e3, List.getElem?_eq_getElem hk2]
     rfl
    ·unfold intsN
     rw [List.reverse_cons, List.map_append, ← List.map_take]
     rw [List.take_reverse, show st.length - (sn - k) = k by omega]
     rfl
set_option maxRecDepth 8000 in
set_option maxHeartbeats 8000000 in
theorem rspans_any (w : World) (a : Option Addr) (c : Nat) (f : List Nd) (hf : NdAt w a f) (hl : f.length ≤ 1000) (h0 : wrongP f = 0) :
  Calls Tryz.prog 77 #[.slice a f.length c] w fun e w' => NumsV (spanG f 0 []) f.length e w' ∧ Below w.heap.size w w' := by
 have IS := Lib.hid (fun v (hb : Below w.heap.size w v) => ris_formula v a c f (hf.below hb) (by omega) h0)
 have TK := Lib.hid rtakes_any
 have S0 : Hid (SpD w.heap.size f w 0 none 0 none 0 0 [] []) := by
  refine ⟨OwnN.nil _ _ _ _, NumsAt.nil _ _ _, fun ad h => (by cases h), rfl, Nat.le_refl _, rfl, ?_, Nat.le_refl _⟩
  unfold wrongP at h0
  split at h0
  ·cases h0
  ·exact h0
 have ND : Hid (∀ v, Below w.heap.size w v → NdAt v a f) := fun v hb => hf.below hb
 have B0 : Hid (Below w.heap.size w w) := Below.refl _ _
 have FIN : Hid (∀ outs : List Nat, outs ++ spanG (f.drop f.length) f.length [] = outs) := fun outs => by rw [List.drop_length]; simp [spanG]
 obtain ⟨n, hn⟩ : ∃ n, n = f.length := ⟨_, rfl⟩
 rw [← hn] at IS ⊢
 have hnI : (n : Int) ≤ 1000 := by omega
 replace hn := Lib.hid hn
 clear hf hl h0
 go_enter Tryz.func77, Tryz.ntmps77
 go_wp2_with fail
 refine (IS.out w (Below.refl _ _)).mono ?_
 rintro e w1 ⟨rfl, rfl⟩
 clear IS
 go_wp2
 go_loopw [3, 4, 5] (fun ov sv iv wr => ∃ (i : Nat) (oa : Option Addr) (oc : Nat) (sa : Option Addr) (sn sc : Nat) (st outs : List Nat), ov = .slice oa i oc ∧ sv = .slice sa sn sc ∧ iv = .int .i64 (i : Int) ∧ i ≤ n ∧ sn ≤ i ∧ Hid (SpD w.heap.size f wr i oa oc sa sn sc st outs) ∧ Hid (Below w.heap.size w wr)) (fun _ _ iv _ => n - (intOf iv).toNat)
 case atStart => exact ⟨0, none, 0, none, 0, 0, [], [], rfl, rfl, rfl, Nat.zero_le _, Nat.le_refl _, S0, B0⟩
 case round =>
  obtain ⟨i, oa, oc, sa, sn, sc, st, outs, rfl, rfl, rfl, hi, hsi, sp, zr⟩ := hrel
  clear S0 B0
  by_cases hlt : i < n
  ·have hlI : (i : Int) < (n : Int) := by omega
   have hif : i < f.length := by have := hn.out; omega
   obtain ⟨b, off, ea, hc⟩ := (ND.out wr zr.out) (by omega)
   have c0 := (hc i hif).1
   subst ea
   obtain ⟨k, hk, hk1, hk2, s1, s2, s3, s4, s5⟩ := sp.out.step hif
   generalize beginP f[i] i st = bb at s2 s3 s4 s5
   have T1 := TK.out wr f[i].1
   rw [hk] at T1
   generalize f[i].1 = x at c0 T1
   replace T1 := Lib.hid T1
   replace s1 := Lib.hid s1
   replace s2 := Lib.hid s2
   replace s3 := Lib.hid s3
   replace s4 := Lib.hid s4
   replace s5 := Lib.hid s5
   have hsnI : (sn : Int) ≤ 1000 := by omega
   clear hc hif hk
   go_wp2_with fail
   refine T1.out.mono ?_
   rintro e w1 ⟨rfl, rfl⟩
   clear T1 c0
   obtain ⟨l, hl⟩ : ∃ l, l = sn - k := ⟨_, rfl⟩
   have RH := fun v => run_cut_h (P := Tryz.prog) (kh := .i64) (H := (sn : Int) - (k : Int)) Tryz.underlying77 Tryz.sizeInt sa sn sc l (by omega) (by have := sp.out.cap; omega) v
   have wr1 : IntKind.i64.wrap ((sn : Int) - (k : Int)) = (sn : Int) - (k : Int) := IntWalk.i64_in _ (by omega)
   replace RH := Lib.hid RH
   by_cases hk0 : 0 < k
   ·have hk0I : (0 : Int) < (k : Int) := by omega
    obtain ⟨sb, so, ev, rfl, cv, hev⟩ := sp.out.nums.at l (by unfold intsN; rw [List.length_map, List.length_reverse, ← sp.out.len]; omega)
    have hevb : ev = (bb : Int) := by rw [hev.out, hl]; exact s4.out hk0
    subst hevb
    have ti : ((sn : Int) - (k : Int)).toNat = l := by omega
    have ti0 : (0 : Int) ≤ (sn : Int) - (k : Int) := by omega
    have ti1 : (sn : Int) - (k : Int) < (sn : Int) := by omega
    have ti2 : (k : Int) ≤ (sn : Int) := by omega
    replace hl := Lib.hid hl
    clear hev s3 s4
    go_upto_region 10 with (fail)
    go_upto_region 11 with (fail)
    clear cv ti ti0 ti1 ti2
    refine wp_region_list ?_
    refine wpList_plain rfl (fun K hK => ?_)
    go_simp
    refine hK _ _ ?_
    clear hK K
    obtain ⟨w5, hw5⟩ : ∃ w5, w5 = wr.alloc (.cells #[] TInt) := ⟨_, rfl⟩
    obtain ⟨g5, hg5⟩ : ∃ g5, g5 = wr.heap.size := ⟨_, rfl⟩
    have ow5 : OwnR w5 wr.heap.size TInt 1 (some ⟨g5, 0, none⟩) 0 0 [] := by rw [hw5, hg5]; exact own_zero wr TInt TInt 1 _ rfl (Nat.le_refl _)
    have b5 : Below wr.heap.size wr w5 := by rw [hw5]; exact balloc (Below.refl _ _) _
    rw [← hw5, ← hg5]
    replace hw5 := Lib.hid hw5
    replace hg5 := Lib.hid hg5
    have RH2 := RH.out
    refine wpList_plain rfl (fun K hK => ?_)
    go_simp
    refine hK _ _ ?_
    clear hK K
    refine wpList_plain rfl (fun K hK => ?_)
    go_simp
    refine hK _ _ ?_
    clear hK K
    refine wpList_plain rfl (fun K hK => ?_)
    go_simp
    refine hK _ _ ?_
    clear hK K
    refine wpList_plain rfl (fun K hK => ?_)
    go_simp
    refine hK _ _ ?_
    clear hK K
    refine wpList_plain rfl (fun K hK => ?_)
    go_simp
    refine hK _ _ ?_
    clear hK K
    refine wpList_plain rfl (fun K hK => ?_)
    go_simp
    refine hK _ _ ?_
    clear hK K
    have nl5 := (sp.out.nums.below b5).upto l
    have hln : ((intsN st.reverse).take l).length = l := by
     rw [List.length_take]
     unfold intsN
     rw [List.length_map, List.length_reverse, ← sp.out.len, hl.out]
     omega
    refine wp_appG rfl (.tmp 34) (.tmp 40) 77 TInt (.int .i64 0) 1 8 rfl Tryz.underlying77 infoI3 rfl (by decide) wr.heap.size (some ⟨g5, 0, none⟩) 0 0 [] rfl ow5 _ l sc (((intsN st.reverse).take l).map (Value.int .i64)) rfl (by rw [List.length_map, hln, Nat.mul_one]) (SrcAt.nums nl5) (ints_one _ _) (by have := hl.out; unfold maxLen; omega) (by have := hl.out; omega) b5.size ?_
    intro a6 c6 w6 ow6 hg6
    rw [Nat.zero_add, List.nil_append] at ow6
    have b6 := bgrown b5 hg6 (fun j hj => (OwnR.lt ow5 hj).1)
    replace ow6 := Lib.hid ow6
    replace b6 := Lib.hid b6
    clear hg6 ow5 b5 nl5 hln RH RH2
    rw [Nat.zero_add]
    refine wpList_plain rfl (fun K hK => ?_)
    go_simp
    refine hK _ _ ?_
    clear hK K
    refine wpList_plain rfl (fun K hK => ?_)
    go_simp
    refine hK _ _ ?_
    clear hK K
    obtain ⟨w7, hw7⟩ : ∃ w7, w7 = w6.alloc (.cells #[.int .i64 (bb : Int)] TInt) := ⟨_, rfl⟩
    obtain ⟨g7, hg7⟩ : ∃ g7, g7 = w6.heap.size := ⟨_, rfl⟩
    have r7 : RowAt w7 g7 TInt [.int .i64 (bb : Int)] := by rw [hw7]; exact RowAt.new #[.int .i64 (bb : Int)] hg7
    have b67 : Below w6.heap.size w6 w7 := by rw [hw7]; exact balloc (Below.refl _ _) _
    rw [← hw7, ← hg7]
    have ow7 : OwnR w7 wr.heap.size TInt 1 a6 l c6 (((intsN st.reverse).take l).map (Value.int .i64)) := OwnR.keeps (S := fun _ => False) ow6.out (Keeps.of_below b67) (fun _ _ h => h)
    have b7 := btrans b6.out b67
    replace hw7 := Lib.hid hw7
    replace hg7 := Lib.hid hg7
    refine wp_appR rfl (.tmp 41) (.tmp 43) 77 TInt (.int .i64 0) 1 8 rfl Tryz.underlying77 infoI3 rfl (by decide) wr.heap.size a6 l c6 (((intsN st.reverse).take l).map (Value.int .i64)) rfl ow7 g7 1 [.int .i64 (bb : Int)] rfl rfl (fun j u hj => by
     have := r7.cell j
     rw [hj] at this
     rw [add_off, Nat.zero_add]
     exact this) (fun u hu => by rw [List.mem_singleton] at hu; subst hu; rfl) (by have := hl.out; unfold maxLen; omega) (by have := hl.out; omega) b7.size ?_
    intro a8 c8 w8 ow8 hg8 _
    have b8 := bgrown b7 hg8 (fun j hj => (OwnR.lt ow7 hj).1)
    have ow9 : OwnN .i64 w8 wr.heap.size TInt a8 (l + 1) c8 (intsN (bb :: st.drop k).reverse) := by
     unfold OwnN
     rw [s5.out, ← hl.out, List.map_append]
     exact ow8
    replace ow9 := Lib.hid ow9
    replace b8 := Lib.hid b8
    clear ow8 hg8 ow7 r7 b67 b7 ow6 b6
    refine wpList_plain rfl (fun K hK => ?_)
    go_simp
    refine hK _ _ ?_
    clear hK K
    refine wpList_nil ?_
    have out8 : Hid (OwnN .i64 w8 w.heap.size TInt oa i oc (intsN outs)) := OwnR.keeps (S := fun _ => False) sp.out.own (Keeps.of_below b8.out) (fun _ _ h => h)
    have z8 := Lib.hid (btrans zr.out b8.out)
    have ap8 : Hid (∀ ad : Addr, a8 = some ad → wr.heap.size ≤ ad.block ∧ ad.block < w8.heap.size) := fun ad e => by
     subst e
     obtain ⟨g9, e9, h1, h2⟩ := OwnR.addr ow9.out (Nat.succ_pos _)
     injection e9 with e9
     subst e9
     exact ⟨h1, h2⟩
    have olt : Hid (∀ j, (Value.slice oa i oc).ownBlock = some j → j < wr.heap.size) := fun j hj => (OwnR.lt sp.out.own hj).2
    have nu8 := Lib.hid (NumsAt.of_owns ow9.out)
    have cap8 := Lib.hid (OwnN.caps ow9.out).1
    clear ow9 b8 wr1
    go_upto_region 12 with (fail)
    refine wp_region_list ?_
    refine wpList_plain rfl (fun K hK => ?_)
    go_simp
    refine hK _ _ ?_
    clear hK K
    refine wpList_plain rfl (fun K hK => ?_)
    go_simp
    refine hK _ _ ?_
    clear hK K
    refine wpList_plain rfl (fun K hK => ?_)
    go_simp
    refine hK _ _ ?_
    clear hK K
    obtain ⟨wa, hwa⟩ : ∃ wa, wa = w8.alloc (.cells #[.int .i64 (bb : Int)] TInt) := ⟨_, rfl⟩
    obtain ⟨ga, hga⟩ : ∃ ga, ga = w8.heap.size := ⟨_, rfl⟩
    have ra : RowAt wa ga TInt [.int .i64 (bb : Int)] := by rw [hwa]; exact RowAt.new #[.int .i64 (bb : Int)] hga
    have ba : Below w8.heap.size w8 wa := by rw [hwa]; exact balloc (Below.refl _ _) _
    rw [← hwa, ← hga]
    have owa : OwnR wa w.heap.size TInt 1 oa i oc ((intsN outs).map (Value.int .i64)) := OwnR.keeps (S := fun _ => False) out8.out (Keeps.of_below ba) (fun _ _ h => h)
    have za := btrans z8.out ba
    replace hwa := Lib.hid hwa
    replace hga := Lib.hid hga
    refine wp_appR rfl (.tmp 45) (.tmp 47) 77 TInt (.int .i64 0) 1 8 rfl Tryz.underlying77 infoI3 rfl (by decide) w.heap.size oa i oc ((intsN outs).map (Value.int .i64)) rfl owa ga 1 [.int .i64 (bb : Int)] rfl rfl (fun j u hj => by
     have := ra.cell j
     rw [hj] at this
     rw [add_off, Nat.zero_add]
     exact this) (fun u hu => by rw [List.mem_singleton] at hu; subst hu; rfl) (by unfold maxLen; omega) (by omega) za.size ?_
    intro oa9 oc9 w9 ow9 hg9 hat9
    have zz := Lib.hid (bgrown za hg9 (fun j hj => (OwnR.lt owa hj).1))
    have sp9 : Hid (SpD w.heap.size f w9 (i + 1) oa9 oc9 a8 (l + 1) c8 (bb :: st.drop k) (outs ++ [bb])) := by
     refine ⟨?_, ?_, fun ad e e2 => ?_, ?_, cap8.out, s2.out, ?_, ?_⟩
     ·unfold OwnN
      show OwnR _ _ _ _ _ _ _ ((intsN (outs ++ [bb])).map _)
      unfold intsN
      rw [List.map_append, List.map_append]
      exact ow9
     ·refine NumsAt.keeps (S := fun j => (Value.slice oa i oc).ownBlock = some j) (nu8.out.below ba) (Keeps.of_grown hg9 (fun j e => e)) (fun ad e e2 => ?_)
      have h1 := olt.out _ e2
      have h2 := (ap8.out ad e).1
      omega
     ·have h2 := ap8.out ad e
      rcases hat9 with h | h
      ·have h1 := olt.out _ (h.symm.trans e2)
       omega
      ·rw [e2] at h
       injection h with h
       have h3 := ba.size
       omega
     ·have h1 := sp.out.len
      have h2 := hl.out
      rw [List.length_cons, List.length_drop]
      omega
     ·rw [hl.out]
      exact s1.out
     ·have h1 := sp.out.le
      have h2 := hl.out
      omega
    clear ow9 hg9 hat9 owa ra ba za out8 z8 nu8 cap8 sp
    refine wpList_plain rfl (fun K hK => ?_)
    go_simp
    refine hK _ _ ?_
    clear hK K
    refine wpList_nil ?_
    have hli : l + 1 ≤ i + 1 := by have := hl.out; omega
    go_wp2
    go_roundw
    case rel => exact ⟨i + 1, oa9, oc9, a8, l + 1, c8, _, _, rfl, rfl, by go_num, by omega, hli, sp9, zz⟩
    case measure => simp [intOf]; omega
   ·have hk0I : ¬ (0 : Int) < (k : Int) := by omega
    have hbb : i = bb := (s3.out (by omega)).symm
    subst hbb
    replace hl := Lib.hid hl
    clear s3 s4
    go_upto_region 11 with (fail)
    refine wp_region_list ?_
    refine wpList_plain rfl (fun K hK => ?_)
    go_simp
    refine hK _ _ ?_
    clear hK K
    obtain ⟨w5, hw5⟩ : ∃ w5, w5 = wr.alloc (.cells #[] TInt) := ⟨_, rfl⟩
    obtain ⟨g5, hg5⟩ : ∃ g5, g5 = wr.heap.size := ⟨_, rfl⟩
    have ow5 : OwnR w5 wr.heap.size TInt 1 (some ⟨g5, 0, none⟩) 0 0 [] := by rw [hw5, hg5]; exact own_zero wr TInt TInt 1 _ rfl (Nat.le_refl _)
    have b5 : Below wr.heap.size wr w5 := by rw [hw5]; exact balloc (Below.refl _ _) _
    rw [← hw5, ← hg5]
    replace hw5 := Lib.hid hw5
    replace hg5 := Lib.hid hg5
    have RH2 := RH.out
    refine wpList_plain rfl (fun K hK => ?_)
    go_simp
    refine hK _ _ ?_
    clear hK K
    refine wpList_plain rfl (fun K hK => ?_)
    go_simp
    refine hK _ _ ?_
    clear hK K
    refine wpList_plain rfl (fun K hK => ?_)
    go_simp
    refine hK _ _ ?_
    clear hK K
    refine wpList_plain rfl (fun K hK => ?_)
    go_simp
    refine hK _ _ ?_
    clear hK K
    refine wpList_plain rfl (fun K hK => ?_)
    go_simp
    refine hK _ _ ?_
    clear hK K
    refine wpList_plain rfl (fun K hK => ?_)
    go_simp
    refine hK _ _ ?_
    clear hK K
    have nl5 := (sp.out.nums.below b5).upto l
    have hln : ((intsN st.reverse).take l).length = l := by
     rw [List.length_take]
     unfold intsN
     rw [List.length_map, List.length_reverse, ← sp.out.len, hl.out]
     omega
    refine wp_appG rfl (.tmp 34) (.tmp 40) 77 TInt (.int .i64 0) 1 8 rfl Tryz.underlying77 infoI3 rfl (by decide) wr.heap.size (some ⟨g5, 0, none⟩) 0 0 [] rfl ow5 _ l sc (((intsN st.reverse).take l).map (Value.int .i64)) rfl (by rw [List.length_map, hln, Nat.mul_one]) (SrcAt.nums nl5) (ints_one _ _) (by have := hl.out; unfold maxLen; omega) (by have := hl.out; omega) b5.size ?_
    intro a6 c6 w6 ow6 hg6
    rw [Nat.zero_add, List.nil_append] at ow6
    have b6 := bgrown b5 hg6 (fun j hj => (OwnR.lt ow5 hj).1)
    replace ow6 := Lib.hid ow6
    replace b6 := Lib.hid b6
    clear hg6 ow5 b5 nl5 hln RH RH2
    rw [Nat.zero_add]
    refine wpList_plain rfl (fun K hK => ?_)
    go_simp
    refine hK _ _ ?_
    clear hK K
    refine wpList_plain rfl (fun K hK => ?_)
    go_simp
    refine hK _ _ ?_
    clear hK K
    obtain ⟨w7, hw7⟩ : ∃ w7, w7 = w6.alloc (.cells #[.int .i64 (i : Int)] TInt) := ⟨_, rfl⟩
    obtain ⟨g7, hg7⟩ : ∃ g7, g7 = w6.heap.size := ⟨_, rfl⟩
    have r7 : RowAt w7 g7 TInt [.int .i64 (i : Int)] := by rw [hw7]; exact RowAt.new #[.int .i64 (i : Int)] hg7
    have b67 : Below w6.heap.size w6 w7 := by rw [hw7]; exact balloc (Below.refl _ _) _
    rw [← hw7, ← hg7]
    have ow7 : OwnR w7 wr.heap.size TInt 1 a6 l c6 (((intsN st.reverse).take l).map (Value.int .i64)) := OwnR.keeps (S := fun _ => False) ow6.out (Keeps.of_below b67) (fun _ _ h => h)
    have b7 := btrans b6.out b67
    replace hw7 := Lib.hid hw7
    replace hg7 := Lib.hid hg7
    refine wp_appR rfl (.tmp 41) (.tmp 43) 77 TInt (.int .i64 0) 1 8 rfl Tryz.underlying77 infoI3 rfl (by decide) wr.heap.size a6 l c6 (((intsN st.reverse).take l).map (Value.int .i64)) rfl ow7 g7 1 [.int .i64 (i : Int)] rfl rfl (fun j u hj => by
     have := r7.cell j
     rw [hj] at this
     rw [add_off, Nat.zero_add]
     exact this) (fun u hu => by rw [List.mem_singleton] at hu; subst hu; rfl) (by have := hl.out; unfold maxLen; omega) (by have := hl.out; omega) b7.size ?_
    intro a8 c8 w8 ow8 hg8 _
    have b8 := bgrown b7 hg8 (fun j hj => (OwnR.lt ow7 hj).1)
    have ow9 : OwnN .i64 w8 wr.heap.size TInt a8 (l + 1) c8 (intsN (i :: st.drop k).reverse) := by
     unfold OwnN
     rw [s5.out, ← hl.out, List.map_append]
     exact ow8
    replace ow9 := Lib.hid ow9
    replace b8 := Lib.hid b8
    clear ow8 hg8 ow7 r7 b67 b7 ow6 b6
    refine wpList_plain rfl (fun K hK => ?_)
    go_simp
    refine hK _ _ ?_
    clear hK K
    refine wpList_nil ?_
    have out8 : Hid (OwnN .i64 w8 w.heap.size TInt oa i oc (intsN outs)) := OwnR.keeps (S := fun _ => False) sp.out.own (Keeps.of_below b8.out) (fun _ _ h => h)
    have z8 := Lib.hid (btrans zr.out b8.out)
    have ap8 : Hid (∀ ad : Addr, a8 = some ad → wr.heap.size ≤ ad.block ∧ ad.block < w8.heap.size) := fun ad e => by
     subst e
     obtain ⟨g9, e9, h1, h2⟩ := OwnR.addr ow9.out (Nat.succ_pos _)
     injection e9 with e9
     subst e9
     exact ⟨h1, h2⟩
    have olt : Hid (∀ j, (Value.slice oa i oc).ownBlock = some j → j < wr.heap.size) := fun j hj => (OwnR.lt sp.out.own hj).2
    have nu8 := Lib.hid (NumsAt.of_owns ow9.out)
    have cap8 := Lib.hid (OwnN.caps ow9.out).1
    clear ow9 b8 wr1
    go_upto_region 12 with (fail)
    refine wp_region_list ?_
    refine wpList_plain rfl (fun K hK => ?_)
    go_simp
    refine hK _ _ ?_
    clear hK K
    refine wpList_plain rfl (fun K hK => ?_)
    go_simp
    refine hK _ _ ?_
    clear hK K
    refine wpList_plain rfl (fun K hK => ?_)
    go_simp
    refine hK _ _ ?_
    clear hK K
    obtain ⟨wa, hwa⟩ : ∃ wa, wa = w8.alloc (.cells #[.int .i64 (i : Int)] TInt) := ⟨_, rfl⟩
    obtain ⟨ga, hga⟩ : ∃ ga, ga = w8.heap.size := ⟨_, rfl⟩
    have ra : RowAt wa ga TInt [.int .i64 (i : Int)] := by rw [hwa]; exact RowAt.new #[.int .i64 (i : Int)] hga
    have ba : Below w8.heap.size w8 wa := by rw [hwa]; exact balloc (Below.refl _ _) _
    rw [← hwa, ← hga]
    have owa : OwnR wa w.heap.size TInt 1 oa i oc ((intsN outs).map (Value.int .i64)) := OwnR.keeps (S := fun _ => False) out8.out (Keeps.of_below ba) (fun _ _ h => h)
    have za := btrans z8.out ba
    replace hwa := Lib.hid hwa
    replace hga := Lib.hid hga
    refine wp_appR rfl (.tmp 45) (.tmp 47) 77 TInt (.int .i64 0) 1 8 rfl Tryz.underlying77 infoI3 rfl (by decide) w.heap.size oa i oc ((intsN outs).map (Value.int .i64)) rfl owa ga 1 [.int .i64 (i : Int)] rfl rfl (fun j u hj => by
     have := ra.cell j
     rw [hj] at this
     rw [add_off, Nat.zero_add]
     exact this) (fun u hu => by rw [List.mem_singleton] at hu; subst hu; rfl) (by unfold maxLen; omega) (by omega) za.size ?_
    intro oa9 oc9 w9 ow9 hg9 hat9
    have zz := Lib.hid (bgrown za hg9 (fun j hj => (OwnR.lt owa hj).1))
    have sp9 : Hid (SpD w.heap.size f w9 (i + 1) oa9 oc9 a8 (l + 1) c8 (i :: st.drop k) (outs ++ [i])) := by
     refine ⟨?_, ?_, fun ad e e2 => ?_, ?_, cap8.out, s2.out, ?_, ?_⟩
     ·unfold OwnN
      show OwnR _ _ _ _ _ _ _ ((intsN (outs ++ [i])).map _)
      unfold intsN
      rw [List.map_append, List.map_append]
      exact ow9
     ·refine NumsAt.keeps (S := fun j => (Value.slice oa i oc).ownBlock = some j) (nu8.out.below ba) (Keeps.of_grown hg9 (fun j e => e)) (fun ad e e2 => ?_)
      have h1 := olt.out _ e2
      have h2 := (ap8.out ad e).1
      omega
     ·have h2 := ap8.out ad e
      rcases hat9 with h | h
      ·have h1 := olt.out _ (h.symm.trans e2)
       omega
      ·rw [e2] at h
       injection h with h
       have h3 := ba.size
       omega
     ·have h1 := sp.out.len
      have h2 := hl.out
      rw [List.length_cons, List.length_drop]
      omega
     ·rw [hl.out]
      exact s1.out
     ·have h1 := sp.out.le
      have h2 := hl.out
      omega
    clear ow9 hg9 hat9 owa ra ba za out8 z8 nu8 cap8 sp
    refine wpList_plain rfl (fun K hK => ?_)
    go_simp
    refine hK _ _ ?_
    clear hK K
    refine wpList_nil ?_
    have hli : l + 1 ≤ i + 1 := by have := hl.out; omega
    go_wp2
    go_roundw
    case rel => exact ⟨i + 1, oa9, oc9, a8, l + 1, c8, _, _, rfl, rfl, by go_num, by omega, hli, sp9, zz⟩
    case measure => simp [intOf]; omega
  ·have hlI : ¬ (i : Int) < (n : Int) := by omega
   obtain rfl : i = n := by omega
   have he : outs = spanG f 0 [] := by
    rw [← sp.out.eq, hn.out, List.drop_length]
    simp [spanG]
   have ow := sp.out.own
   rw [he] at ow
   have nu := Lib.hid (NumsAt.of_owns ow)
   clear ow he
   go_wp2
   go_ret
   exact ⟨⟨oa, oc, rfl, nu.out⟩, zr.out⟩
end Go.Proofs.YtkehfolcfcbplaaGreatDoor
