/- The document's Scan, walked. Conditions: short texts. -/
import Derived.Test.YtkehfolcfcbplaaGreatDoorSLexH
import Derived.Test.YtkehfolcfcbplaaGreatDoorSLexS
import Derived.IntWalk
namespace Go.Proofs.YtkehfolcfcbplaaGreatDoor
open Go.RowKit
set_option linter.unusedVariables false
abbrev TRtk : Nat := 74
theorem infoRtk3 : (Tryz.prog.info? TRtk).map (fun i => (i.zero, i.size, i.bytes)) = some (some (.agg #[.int .i64 0, .int .i64 0, .int .i64 0, .string ⟨#[]⟩]), 4, 40) := by kernel_rfl
theorem infoRtk : (Tryz.prog.info? TRtk).map (·.size) = some 4 := by kernel_rfl
theorem undRtk : ∃ d, Tryz.prog.underlying TRtk = some d ∧ d.isRow = true := und_row (by kernel_rfl)
inductive BegV (l : List UInt8) : Nat → Nat → Prop
 | none (k : Nat) : oneP l = .err 13 → BegV l 0 k
 | long (n : Nat) : 16 < n → oneP l = .err 6 → BegV l n 1
 | word (n : Nat) : 0 < n → n ≤ 16 → oneP l = .tok 1 0 n → BegV l n 1
 | bad (n : Nat) : 0 < n → (rnumP (l.take n)).2 = false → oneP l = .err 10 → BegV l n 2
 | num (n : Nat) (v : Int) : 0 < n → rnumP (l.take n) = (v, true) → oneP l = .tok 2 v n → BegV l n 2
 | sign (n : Nat) : 0 < n → oneP l = .tok 3 0 n → BegV l n 3
theorem begV (l : List UInt8) : BegV l (begP l).1 (begP l).2 := by
 by_cases h1 : headB isLet l = true
 ·have hp : 0 < runB isPart l := runB_pos (let_part h1)
  have e : begP l = (runB isPart l, 1) := by unfold begP; rw [if_pos h1]
  have o : oneP l = if 16 < runB isPart l then .err 6 else .tok 1 0 (runB isPart l) := by unfold oneP; rw [if_pos h1]
  rw [e]
  by_cases h16 : 16 < runB isPart l
  ·rw [if_pos h16] at o
   exact .long _ h16 o
  ·rw [if_neg h16] at o
   exact .word _ hp (by omega) o
 ·by_cases h2 : headB isDig l = true
  ·have hp : 0 < runB isDig l := runB_pos h2
   have e : begP l = (runB isDig l, 2) := by unfold begP; rw [if_neg h1, if_pos h2]
   have o : oneP l = if (numP (l.take (runB isDig l))).2 = true then .tok 2 (numP (l.take (runB isDig l))).1 (runB isDig l) else .err 10 := by unfold oneP; rw [if_neg h1, if_pos h2]
   rw [num_same] at o
   rw [e]
   cases hn : (rnumP (l.take (runB isDig l))).2 with
   | false =>
    rw [hn, if_neg (by decide)] at o
    exact .bad _ hp hn o
   | true =>
    rw [hn, if_pos rfl] at o
    exact .num _ _ hp (Prod.ext rfl hn) o
  ·have e := beg_sign h1 h2
   have o := one_sign h1 h2
   rw [e]
   cases hf : signsL.find? (fun x => x.isPrefixOf l) with
   | none =>
    rw [hf] at o
    exact .none _ o
   | some x =>
    rw [hf] at o
    exact .sign _ (sign_pos x (find_prefix hf).1).1 o
theorem begP_le (l : List UInt8) : (begP l).1 ≤ l.length := by
 unfold begP
 split
 ·exact runB_le _ _
 ·split
  ·exact runB_le _ _
  ·split
   ·rename_i x hx
    exact (prefix_take (find_prefix hx).2).1
   ·exact Nat.zero_le _
abbrev OwnE (w : World) (base : Nat) (a : Option Addr) (n c : Nat) (T : List Tk) : Prop := OwnR w base TRtk 4 a n c (tcells T)
def ScanE (base : Nat) (r : ScR) (e : Ending) (w : World) : Prop := ∃ oa oc, e = .returned (.tuple #[.slice oa r.toks.length oc, .int .i64 (r.at_ : Int), .int .i64 (r.e : Int)]) ∧ OwnE w base oa r.toks.length oc r.toks
structure SdH (base : Nat) (L : List UInt8) (res : ScR) (a : Nat) (acc : List Tk) (oa : Option Addr) (oc : Nat) (w : World) : Prop where
 own : OwnE w base oa acc.length oc acc
 run : ∃ f, L.length < f + a ∧ scanF L f a acc = res
 le : acc.length ≤ 6000
theorem SdH.step {base : Nat} {L : List UInt8} {res : ScR} {a : Nat} {acc : List Tk} {oa : Option Addr} {oc : Nat} {w : World} (h : SdH base L res a acc oa oc w) (hl : a < L.length) (h6 : ¬ 6000 ≤ acc.length) :
  (∀ c, oneP (L.drop a) = .err c → res = ⟨[], a, c⟩) ∧ ∀ k n len, oneP (L.drop a) = .tok k n len → ∃ f, L.length < f + (a + len + skipL (L.drop (a + len))) ∧ scanF L f (a + len + skipL (L.drop (a + len))) (acc ++ [⟨k, n, a, (L.drop a).take len⟩]) = res := by
 obtain ⟨f, hf, hr⟩ := h.run
 obtain ⟨f, rfl⟩ : ∃ g, f = g + 1 := ⟨f - 1, by omega⟩
 rw [scanF, if_pos hl, if_neg h6] at hr
 refine ⟨fun c hc => ?_, fun k n len hc => ?_⟩
 ·rw [hc] at hr; exact hr.symm
 ·rw [hc] at hr
  have := (one_tok hc).1
  exact ⟨f, by omega, hr⟩
theorem SdH.many {base : Nat} {L : List UInt8} {res : ScR} {a : Nat} {acc : List Tk} {oa : Option Addr} {oc : Nat} {w : World} (h : SdH base L res a acc oa oc w) (hl : a < L.length) (h6 : 6000 ≤ acc.length) : res = ⟨[], a, 11⟩ := by
 obtain ⟨f, hf, hr⟩ := h.run
 obtain ⟨f, rfl⟩ : ∃ g, f = g + 1 := ⟨f - 1, by omega⟩
 rw [scanF, if_pos hl, if_pos h6] at hr
 exact hr.symm
theorem SdH.fin {base : Nat} {L : List UInt8} {res : ScR} {a : Nat} {acc : List Tk} {oa : Option Addr} {oc : Nat} {w : World} (h : SdH base L res a acc oa oc w) (hl : ¬ a < L.length) : res = ⟨acc, 0, 0⟩ := by
 obtain ⟨f, hf, hr⟩ := h.run
 cases f with
 | zero => exact hr.symm
 | succ f =>
  rw [scanF, if_neg hl] at hr
  exact hr.symm
set_option maxRecDepth 8000 in
set_option maxHeartbeats 8000000 in
theorem rscan_any (w : World) (s : ByteArray) (hs : (s.size : Int) ≤ 281474976710656) :
  Calls Tryz.prog 15 #[.string s] w fun e w' => ScanE w.heap.size (scanLex s.data.toList) e w' ∧ Below w.heap.size w w' := by
 obtain ⟨L, hL⟩ : ∃ L, L = s.data.toList := ⟨_, rfl⟩
 have hLn : s.size = L.length := by rw [hL, Array.length_toList]; rfl
 rw [← hL]
 obtain ⟨res, hres⟩ : ∃ res, res = scanLex L := ⟨_, rfl⟩
 rw [← hres]
 by_cases hlong : 20000 < s.size
 ·have hlongI : (20000 : Int) < (s.size : Int) := by omega
  have hr : res = ⟨[], 0, 5⟩ := by rw [hres]; unfold scanLex; rw [if_pos (by omega)]
  subst hr
  clear hres hL hLn hlong hs
  go_enter Tryz.func15, Tryz.ntmps15
  go_wp2
  refine bodyPost_ret (v := .tuple #[.slice none 0 0, .int .i64 0, .int .i64 5]) (by simp [results, Tryz.results15]) rfl ⟨⟨none, 0, rfl, OwnR.nil _ _ _ _⟩, Below.refl _ _⟩
 ·have hlongI : ¬ (20000 : Int) < (s.size : Int) := by omega
  have BT := Lib.hid (fun w a ha => rskip_any w s hs a ha)
  rw [← hL] at BT
  have BT0 := Lib.hid (BT.out w 0 (Nat.zero_le _))
  rw [show ((0 : Nat) : Int) = 0 from rfl, List.drop_zero, Nat.zero_add] at BT0
  have BG := Lib.hid (fun v a ha => rbegins_any v s hs a ha)
  rw [← hL] at BG
  have RN := Lib.hid (fun v (t : ByteArray) ht => rnumber_any v t ht)
  have hs2 : (s.size : Int) ≤ 20000 := by omega
  have hrun : ∃ f, L.length < f + skipL L ∧ scanF L f (skipL L) [] = res := ⟨L.length + 1, by omega, by rw [hres]; unfold scanLex; rw [if_neg (by omega)]⟩
  obtain ⟨a0, ha0⟩ : ∃ a0, a0 = skipL L := ⟨_, rfl⟩
  have hal : a0 ≤ s.size := by rw [ha0, hLn]; exact skipG_le _ _
  rw [← ha0] at BT0 hrun
  have ST : Hid (∀ v, SdH w.heap.size L res a0 [] none 0 v) := fun v => ⟨OwnR.nil _ _ _ _, hrun, Nat.zero_le _⟩
  replace hLn := Lib.hid hLn
  replace hL := Lib.hid hL
  clear hrun ha0 hres hs hlong
  go_enter Tryz.func15, Tryz.ntmps15
  go_wp2_with fail
  refine BT0.out.mono ?_
  rintro e w1 ⟨rfl, hb1⟩
  have z1 := Lib.hid hb1
  have ST1 := Lib.hid (ST.out w1)
  clear hb1 BT0 ST
  go_wp2
  go_loopw [2, 3, 4, 5, 6] (fun r2 r3 r4 ov iv wr => ∃ (a : Nat) (acc : List Tk) (oa : Option Addr) (oc : Nat), r2 = .slice none 0 0 ∧ r3 = .int .i64 0 ∧ r4 = .int .i64 0 ∧ ov = .slice oa acc.length oc ∧ iv = .int .i64 (a : Int) ∧ a ≤ s.size ∧ Hid (SdH w.heap.size L res a acc oa oc wr) ∧ Hid (Below w.heap.size w wr)) (fun _ _ _ _ iv _ => s.size - (intOf iv).toNat)
  case atStart => exact ⟨a0, [], none, 0, rfl, rfl, rfl, rfl, rfl, hal, ST1, z1⟩
  case round =>
   obtain ⟨a, acc, oa, oc, rfl, rfl, rfl, rfl, rfl, ha, sh, zr⟩ := hrel
   clear ST1 z1
   by_cases hl : a < s.size
   ·have hlI : (a : Int) < (s.size : Int) := by omega
    have hlL : Hid (a < L.length) := by show _ < _; have := hLn.out; omega
    have hacI : (acc.length : Int) ≤ 6000 := by have := sh.out.le; omega
    have B1 := Lib.hid (BG.out wr a hl)
    have BV := Lib.hid (begV (L.drop a))
    have hbl := begP_le (L.drop a)
    rw [List.length_drop] at hbl
    obtain ⟨n, hn⟩ : ∃ n, n = (begP (L.drop a)).1 := ⟨_, rfl⟩
    obtain ⟨k, hk⟩ : ∃ k, k = (begP (L.drop a)).2 := ⟨_, rfl⟩
    rw [← hn, ← hk] at B1 BV
    rw [← hn] at hbl
    clear hn hk
    have hblI : (a : Int) + (n : Int) ≤ (s.size : Int) := by have := hLn.out; omega
    go_wp2_with fail
    refine B1.out.mono ?_
    rintro e w2 ⟨rfl, hb2⟩
    have z2 := Lib.hid (btrans zr.out hb2)
    have own2 : Hid (OwnE w2 w.heap.size oa acc.length oc acc) := OwnR.keeps (S := fun _ => False) sh.out.own (Keeps.of_below hb2) (fun _ _ h => h)
    clear hb2 B1
    by_cases h6 : acc.length = 6000
    ·have h6I : (acc.length : Int) = 6000 := by omega
     have h6B : ((acc.length : Int) == 6000) = true := by rw [h6I]; rfl
     have hr := Lib.hid (sh.out.many hlL.out (by omega))
     clear h6 h6I sh
     go_wp2
     refine bodyPost_ret (v := .tuple #[.slice none 0 0, .int .i64 (a : Int), .int .i64 11]) (by simp [results, Tryz.results15]) rfl ⟨?_, z2.out⟩
     rw [hr.out]
     exact ⟨none, 0, rfl, OwnR.nil _ _ _ _⟩
    ·have h6B : ((acc.length : Int) == 6000) = false := by rw [beq_eq_false_iff_ne]; omega
     obtain ⟨hE, hT⟩ := sh.out.step hlL.out (by omega)
     have hac6 : Hid (acc.length < 6000) := by show _ < _; omega
     clear h6 sh
     cases BV.out with
     | none _ h1 =>
      have hr := Lib.hid (hE _ h1)
      rw [show ((0 : Nat) : Int) = 0 from rfl]
      clear hE hT h1 BV
      go_wp2
      refine bodyPost_ret (v := .tuple #[.slice none 0 0, .int .i64 (a : Int), .int .i64 13]) (by simp [results, Tryz.results15]) rfl ⟨?_, z2.out⟩
      rw [hr.out]
      exact ⟨none, 0, rfl, OwnR.nil _ _ _ _⟩
     | long _ h0 h1 =>
      have hr := Lib.hid (hE _ h1)
      rw [show ((1 : Nat) : Int) = 1 from rfl]
      clear hE hT h1 BV
      have hn0 : ((n : Int) == 0) = false := by rw [beq_eq_false_iff_ne]; omega
      obtain ⟨t, ht⟩ : ∃ t, t = s.extract a (a + n) := ⟨_, rfl⟩
      have hts : t.data.toList = (L.drop a).take n := by rw [ht, hL.out, ByteArray.data_extract, Array.toList_extract, List.extract_eq_take_drop, Nat.add_sub_cancel_left]
      have htz : t.size ≤ 281474976710656 := by rw [ht, ByteArray.size_extract]; omega
      have htx : s.extract a (a + n) = t := ht.symm
      replace hts := Lib.hid hts
      replace htz := Lib.hid htz
      clear ht
      have hwr : IntKind.i64.wrap ((a : Int) + (n : Int)) = (a : Int) + (n : Int) := IntWalk.i64_in _ (by omega)
      have hto : ((a : Int) + (n : Int)).toNat = a + n := by omega
      have hp0 : (0 : Int) ≤ (a : Int) + (n : Int) := by omega
      have hp1 : (a : Int) ≤ (a : Int) + (n : Int) := by omega
      go_upto_region 11 with (fail)
      refine wp_region_list ?_
      refine wpList_plain rfl (fun K hK => ?_)
      go_simp
      refine hK _ _ ?_
      clear hK K
      refine wpList_plain rfl (fun K hK => ?_)
      go_simp
      refine hK _ _ ?_
      clear hK K
      refine wpList_plain rfl (fun K hK => ?_)
      go_simp
      refine hK _ _ ?_
      clear hK K
      refine wpList_plain rfl (fun K hK => ?_)
      go_simp
      refine hK _ _ ?_
      clear hK K
      refine wpList_plain rfl (fun K hK => ?_)
      go_simp
      refine hK _ _ ?_
      clear hK K
      refine wpList_plain rfl (fun K hK => ?_)
      go_simp
      refine hK _ _ ?_
      clear hK K
      refine wpList_plain rfl (fun K hK => ?_)
      go_simp
      refine hK _ _ ?_
      clear hK K
      refine wpList_plain rfl (fun K hK => ?_)
      go_simp
      refine hK _ _ ?_
      clear hK K
      refine wpList_plain rfl (fun K hK => ?_)
      go_simp
      refine hK _ _ ?_
      clear hK K
      refine wpList_plain rfl (fun K hK => ?_)
      go_simp
      refine hK _ _ ?_
      clear hK K
      obtain ⟨w4, hw4⟩ : ∃ w4, w4 = w2.alloc (.cells #[.int .i64 0, .int .i64 0, .int .i64 0, .string ⟨#[]⟩] TRtk) := ⟨_, rfl⟩
      obtain ⟨g, hg⟩ : ∃ g, g = w2.heap.size := ⟨_, rfl⟩
      have r4 : RowAt w4 g TRtk (tkV 0 0 0 ⟨#[]⟩) := by rw [hw4]; exact RowAt.new #[.int .i64 0, .int .i64 0, .int .i64 0, .string ⟨#[]⟩] hg
      have b34 : Below w2.heap.size w2 w4 := by rw [hw4]; exact balloc (Below.refl _ _) _
      rw [← hw4, ← hg]
      replace hw4 := Lib.hid hw4
      replace hg := Lib.hid hg
      refine list_store (l := tkV 1 0 a t) infoRtk r4 rfl rfl (tkV_one _ _ _ _) rfl 9 42 rfl rfl rfl ?_
      intro w5 q5 k5
      refine wpList_nil ?_
      have z5 : Below w.heap.size w w5 := k5.below (btrans z2.out b34) (fun j hj => by cases hj; rw [hg.out]; exact z2.out.size)
      have own5 : OwnE w5 w.heap.size oa acc.length oc acc := OwnR.keeps (OwnR.keeps own2.out (Keeps.of_below (S := fun _ => False) b34) (fun _ _ h => h)) k5 (fun j hj e => by
       have h1 := (OwnR.lt own2.out hj).2
       have h3 := hg.out
       omega)
      have hgb : w.heap.size ≤ g := by rw [hg.out]; exact z2.out.size
      have hne : ∀ j, (Value.slice oa acc.length oc).ownBlock = some j → ¬ j = g := fun j hj e => by
       have h1 := (OwnR.lt own2.out hj).2
       have h3 := hg.out
       omega
      replace hne := Lib.hid hne
      replace hgb := Lib.hid hgb
      clear k5 r4 b34 htx own2 z2 hwr hto hp0 hp1
      replace z5 := Lib.hid z5
      replace own5 := Lib.hid own5
      replace q5 := Lib.hid q5
      have h16 : (16 : Int) < (n : Int) := by omega
      clear h0
      go_wp2
      refine bodyPost_ret (v := .tuple #[.slice none 0 0, .int .i64 (a : Int), .int .i64 6]) (by simp [results, Tryz.results15]) rfl ⟨?_, z5.out⟩
      rw [hr.out]
      exact ⟨none, 0, rfl, OwnR.nil _ _ _ _⟩
     | word _ h0 h2 h1 =>
      have hrun := Lib.hid (hT _ _ _ h1)
      rw [show ((1 : Nat) : Int) = 1 from rfl]
      clear hE hT h1 BV
      have hn0 : ((n : Int) == 0) = false := by rw [beq_eq_false_iff_ne]; omega
      obtain ⟨t, ht⟩ : ∃ t, t = s.extract a (a + n) := ⟨_, rfl⟩
      have hts : t.data.toList = (L.drop a).take n := by rw [ht, hL.out, ByteArray.data_extract, Array.toList_extract, List.extract_eq_take_drop, Nat.add_sub_cancel_left]
      have htz : t.size ≤ 281474976710656 := by rw [ht, ByteArray.size_extract]; omega
      have htx : s.extract a (a + n) = t := ht.symm
      replace hts := Lib.hid hts
      replace htz := Lib.hid htz
      clear ht
      have hwr : IntKind.i64.wrap ((a : Int) + (n : Int)) = (a : Int) + (n : Int) := IntWalk.i64_in _ (by omega)
      have hto : ((a : Int) + (n : Int)).toNat = a + n := by omega
      have hp0 : (0 : Int) ≤ (a : Int) + (n : Int) := by omega
      have hp1 : (a : Int) ≤ (a : Int) + (n : Int) := by omega
      go_upto_region 11 with (fail)
      refine wp_region_list ?_
      refine wpList_plain rfl (fun K hK => ?_)
      go_simp
      refine hK _ _ ?_
      clear hK K
      refine wpList_plain rfl (fun K hK => ?_)
      go_simp
      refine hK _ _ ?_
      clear hK K
      refine wpList_plain rfl (fun K hK => ?_)
      go_simp
      refine hK _ _ ?_
      clear hK K
      refine wpList_plain rfl (fun K hK => ?_)
      go_simp
      refine hK _ _ ?_
      clear hK K
      refine wpList_plain rfl (fun K hK => ?_)
      go_simp
      refine hK _ _ ?_
      clear hK K
      refine wpList_plain rfl (fun K hK => ?_)
      go_simp
      refine hK _ _ ?_
      clear hK K
      refine wpList_plain rfl (fun K hK => ?_)
      go_simp
      refine hK _ _ ?_
      clear hK K
      refine wpList_plain rfl (fun K hK => ?_)
      go_simp
      refine hK _ _ ?_
      clear hK K
      refine wpList_plain rfl (fun K hK => ?_)
      go_simp
      refine hK _ _ ?_
      clear hK K
      refine wpList_plain rfl (fun K hK => ?_)
      go_simp
      refine hK _ _ ?_
      clear hK K
      obtain ⟨w4, hw4⟩ : ∃ w4, w4 = w2.alloc (.cells #[.int .i64 0, .int .i64 0, .int .i64 0, .string ⟨#[]⟩] TRtk) := ⟨_, rfl⟩
      obtain ⟨g, hg⟩ : ∃ g, g = w2.heap.size := ⟨_, rfl⟩
      have r4 : RowAt w4 g TRtk (tkV 0 0 0 ⟨#[]⟩) := by rw [hw4]; exact RowAt.new #[.int .i64 0, .int .i64 0, .int .i64 0, .string ⟨#[]⟩] hg
      have b34 : Below w2.heap.size w2 w4 := by rw [hw4]; exact balloc (Below.refl _ _) _
      rw [← hw4, ← hg]
      replace hw4 := Lib.hid hw4
      replace hg := Lib.hid hg
      refine list_store (l := tkV 1 0 a t) infoRtk r4 rfl rfl (tkV_one _ _ _ _) rfl 9 42 rfl rfl rfl ?_
      intro w5 q5 k5
      refine wpList_nil ?_
      have z5 : Below w.heap.size w w5 := k5.below (btrans z2.out b34) (fun j hj => by cases hj; rw [hg.out]; exact z2.out.size)
      have own5 : OwnE w5 w.heap.size oa acc.length oc acc := OwnR.keeps (OwnR.keeps own2.out (Keeps.of_below (S := fun _ => False) b34) (fun _ _ h => h)) k5 (fun j hj e => by
       have h1 := (OwnR.lt own2.out hj).2
       have h3 := hg.out
       omega)
      have hgb : w.heap.size ≤ g := by rw [hg.out]; exact z2.out.size
      have hne : ∀ j, (Value.slice oa acc.length oc).ownBlock = some j → ¬ j = g := fun j hj e => by
       have h1 := (OwnR.lt own2.out hj).2
       have h3 := hg.out
       omega
      replace hne := Lib.hid hne
      replace hgb := Lib.hid hgb
      clear k5 r4 b34 htx own2 z2 hwr hto hp0 hp1
      replace z5 := Lib.hid z5
      replace own5 := Lib.hid own5
      replace q5 := Lib.hid q5
      have h16 : ¬ (16 : Int) < (n : Int) := by omega
      clear h2
      go_upto_region 19 with (fail)
      refine wp_region_list ?_
      refine wpList_plain rfl (fun K hK => ?_)
      go_simp
      refine hK _ _ ?_
      clear hK K
      refine list_load undRtk infoRtk q5.out rfl rfl 9 rfl rfl ?_
      rw [show (tkV 1 0 a t).toArray = #[.int .i64 (((1 : Nat) : Int)), .int .i64 0, .int .i64 (a : Int), .string t] from rfl]
      refine wpList_plain rfl (fun K hK => ?_)
      go_simp
      refine hK _ _ ?_
      clear hK K
      obtain ⟨w7, hw7⟩ : ∃ w7, w7 = w5.alloc (.cells #[.int .i64 1, .int .i64 0, .int .i64 (a : Int), .string t] TRtk) := ⟨_, rfl⟩
      obtain ⟨g7, hg7⟩ : ∃ g7, g7 = w5.heap.size := ⟨_, rfl⟩
      have r7 : RowAt w7 g7 TRtk (tkV 1 0 a t) := by rw [hw7]; exact RowAt.new #[.int .i64 1, .int .i64 0, .int .i64 (a : Int), .string t] hg7
      have b67 : Below w5.heap.size w5 w7 := by rw [hw7]; exact balloc (Below.refl _ _) _
      rw [← hw7, ← hg7]
      have own7 : OwnE w7 w.heap.size oa acc.length oc acc := OwnR.keeps own5.out (Keeps.of_below (S := fun _ => False) b67) (fun _ _ h => h)
      have z7 := Lib.hid (btrans z5.out b67)
      have hgS := b67.size
      replace hw7 := Lib.hid hw7
      replace hg7 := Lib.hid hg7
      refine wp_appR rfl (.tmp 63) (.tmp 65) 44 TRtk (.agg #[.int .i64 0, .int .i64 0, .int .i64 0, .string ⟨#[]⟩]) 4 40 rfl Tryz.underlying44 infoRtk3 rfl (by decide) w.heap.size oa acc.length oc (tcells acc) rfl own7 g7 1 (tkV 1 0 a t) rfl rfl (fun j u hj => by
       have := r7.cell j
       rw [hj] at this
       rw [add_off, Nat.zero_add]
       exact this) (tkV_one _ _ _ _) (by have := hac6.out; unfold maxLen; omega) (by have := hac6.out; omega) z7.out.size ?_
      intro oa8 oc8 w8 own8 hg8 _
      have z8 := Lib.hid (bgrown z7.out hg8 (fun k hk => (OwnR.lt own7 hk).1))
      replace own8 := Lib.hid own8
      clear r7 b67 own7 z7 hg8 own5 z5 q5
      refine wpList_plain rfl (fun K hK => ?_)
      go_simp
      refine hK _ _ ?_
      clear hK K
      refine wpList_nil ?_
      have hskl : skipL (L.drop (a + n)) ≤ L.length - (a + n) := by have := skipG_le false (L.drop (a + n)); rw [List.length_drop] at this; exact this
      obtain ⟨sk, hsk⟩ : ∃ sk, sk = skipL (L.drop (a + n)) := ⟨_, rfl⟩
      have B9 := BT.out w8 (a + n) (by omega)
      rw [← hsk] at B9 hskl
      have hrun9 := hrun.out
      rw [← hsk] at hrun9
      have hle9 : a + n + sk ≤ s.size := by have h1 := hLn.out; have h3 := hlL.out; omega
      rw [show ((a + n : Nat) : Int) = (a : Int) + (n : Int) from by omega] at B9
      replace B9 := Lib.hid B9
      clear hsk hskl hrun
      replace hrun9 := Lib.hid hrun9
      go_wp2_with fail
      refine B9.out.mono ?_
      rintro e w9 ⟨rfl, hb9⟩
      have z9 := Lib.hid (btrans z8.out hb9)
      have hlA : (acc ++ [(⟨1, 0, a, (L.drop a).take n⟩ : Tk)]).length = acc.length + 1 := by rw [List.length_append]; rfl
      have sh9 : Hid (SdH w.heap.size L res (a + n + sk) (acc ++ [⟨1, 0, a, (L.drop a).take n⟩]) oa8 oc8 w9) := by
       refine ⟨?_, hrun9.out, by rw [hlA]; exact hac6.out⟩
       have h1 : OwnR w9 w.heap.size TRtk 4 oa8 (acc.length + 1) oc8 (tcells acc ++ tkV 1 0 a t) := OwnR.keeps (S := fun _ => False) own8.out (Keeps.of_below hb9) (fun _ _ h => h)
       show OwnR _ _ _ _ _ _ _ _
       rw [hlA, tcells_snoc]
       rw [take_eta hts.out] at h1
       exact h1
      replace hlA := Lib.hid hlA
      have hle9I : (a : Int) + (n : Int) + (sk : Int) ≤ (s.size : Int) := by omega
      replace hle9 := Lib.hid hle9
      clear hb9 own8 z8 hrun9 B9
      go_wp2
      go_roundw
      case rel => exact ⟨a + n + sk, acc ++ [⟨1, 0, a, (L.drop a).take n⟩], oa8, oc8, rfl, rfl, rfl, by rw [hlA.out], by push_cast; rfl, hle9.out, sh9, z9⟩
      case measure =>
       have := hle9.out
       simp [intOf]
       omega
     | bad _ h0 h2 h1 =>
      have hr := Lib.hid (hE _ h1)
      rw [show ((2 : Nat) : Int) = 2 from rfl]
      clear hE hT h1 BV
      have hn0 : ((n : Int) == 0) = false := by rw [beq_eq_false_iff_ne]; omega
      obtain ⟨t, ht⟩ : ∃ t, t = s.extract a (a + n) := ⟨_, rfl⟩
      have hts : t.data.toList = (L.drop a).take n := by rw [ht, hL.out, ByteArray.data_extract, Array.toList_extract, List.extract_eq_take_drop, Nat.add_sub_cancel_left]
      have htz : t.size ≤ 281474976710656 := by rw [ht, ByteArray.size_extract]; omega
      have htx : s.extract a (a + n) = t := ht.symm
      replace hts := Lib.hid hts
      replace htz := Lib.hid htz
      clear ht
      have hwr : IntKind.i64.wrap ((a : Int) + (n : Int)) = (a : Int) + (n : Int) := IntWalk.i64_in _ (by omega)
      have hto : ((a : Int) + (n : Int)).toNat = a + n := by omega
      have hp0 : (0 : Int) ≤ (a : Int) + (n : Int) := by omega
      have hp1 : (a : Int) ≤ (a : Int) + (n : Int) := by omega
      go_upto_region 11 with (fail)
      refine wp_region_list ?_
      refine wpList_plain rfl (fun K hK => ?_)
      go_simp
      refine hK _ _ ?_
      clear hK K
      refine wpList_plain rfl (fun K hK => ?_)
      go_simp
      refine hK _ _ ?_
      clear hK K
      refine wpList_plain rfl (fun K hK => ?_)
      go_simp
      refine hK _ _ ?_
      clear hK K
      refine wpList_plain rfl (fun K hK => ?_)
      go_simp
      refine hK _ _ ?_
      clear hK K
      refine wpList_plain rfl (fun K hK => ?_)
      go_simp
      refine hK _ _ ?_
      clear hK K
      refine wpList_plain rfl (fun K hK => ?_)
      go_simp
      refine hK _ _ ?_
      clear hK K
      refine wpList_plain rfl (fun K hK => ?_)
      go_simp
      refine hK _ _ ?_
      clear hK K
      refine wpList_plain rfl (fun K hK => ?_)
      go_simp
      refine hK _ _ ?_
      clear hK K
      refine wpList_plain rfl (fun K hK => ?_)
      go_simp
      refine hK _ _ ?_
      clear hK K
      refine wpList_plain rfl (fun K hK => ?_)
      go_simp
      refine hK _ _ ?_
      clear hK K
      obtain ⟨w4, hw4⟩ : ∃ w4, w4 = w2.alloc (.cells #[.int .i64 0, .int .i64 0, .int .i64 0, .string ⟨#[]⟩] TRtk) := ⟨_, rfl⟩
      obtain ⟨g, hg⟩ : ∃ g, g = w2.heap.size := ⟨_, rfl⟩
      have r4 : RowAt w4 g TRtk (tkV 0 0 0 ⟨#[]⟩) := by rw [hw4]; exact RowAt.new #[.int .i64 0, .int .i64 0, .int .i64 0, .string ⟨#[]⟩] hg
      have b34 : Below w2.heap.size w2 w4 := by rw [hw4]; exact balloc (Below.refl _ _) _
      rw [← hw4, ← hg]
      replace hw4 := Lib.hid hw4
      replace hg := Lib.hid hg
      refine list_store (l := tkV 2 0 a t) infoRtk r4 rfl rfl (tkV_one _ _ _ _) rfl 9 42 rfl rfl rfl ?_
      intro w5 q5 k5
      refine wpList_nil ?_
      have z5 : Below w.heap.size w w5 := k5.below (btrans z2.out b34) (fun j hj => by cases hj; rw [hg.out]; exact z2.out.size)
      have own5 : OwnE w5 w.heap.size oa acc.length oc acc := OwnR.keeps (OwnR.keeps own2.out (Keeps.of_below (S := fun _ => False) b34) (fun _ _ h => h)) k5 (fun j hj e => by
       have h1 := (OwnR.lt own2.out hj).2
       have h3 := hg.out
       omega)
      have hgb : w.heap.size ≤ g := by rw [hg.out]; exact z2.out.size
      have hne : ∀ j, (Value.slice oa acc.length oc).ownBlock = some j → ¬ j = g := fun j hj e => by
       have h1 := (OwnR.lt own2.out hj).2
       have h3 := hg.out
       omega
      replace hne := Lib.hid hne
      replace hgb := Lib.hid hgb
      clear k5 r4 b34 htx own2 z2 hwr hto hp0 hp1
      replace z5 := Lib.hid z5
      replace own5 := Lib.hid own5
      replace q5 := Lib.hid q5
      have c3 : w5.cell? ⟨g, 3, none⟩ = some (.string t) := q5.out.cell 3
      have R5 := RN.out w5 t htz.out
      rw [hts.out, rnumP_false h2] at R5
      replace R5 := Lib.hid R5
      clear h2
      go_wp2_with fail
      refine R5.out.mono ?_
      rintro e w6 ⟨rfl, hb6⟩
      have z6 := Lib.hid (btrans z5.out hb6)
      clear hb6 R5 c3
      go_wp2
      refine bodyPost_ret (v := .tuple #[.slice none 0 0, .int .i64 (a : Int), .int .i64 10]) (by simp [results, Tryz.results15]) rfl ⟨?_, z6.out⟩
      rw [hr.out]
      exact ⟨none, 0, rfl, OwnR.nil _ _ _ _⟩
     | num _ v h0 h2 h1 =>
      have hrun := Lib.hid (hT _ _ _ h1)
      rw [show ((2 : Nat) : Int) = 2 from rfl]
      clear hE hT h1 BV
      have hn0 : ((n : Int) == 0) = false := by rw [beq_eq_false_iff_ne]; omega
      obtain ⟨t, ht⟩ : ∃ t, t = s.extract a (a + n) := ⟨_, rfl⟩
      have hts : t.data.toList = (L.drop a).take n := by rw [ht, hL.out, ByteArray.data_extract, Array.toList_extract, List.extract_eq_take_drop, Nat.add_sub_cancel_left]
      have htz : t.size ≤ 281474976710656 := by rw [ht, ByteArray.size_extract]; omega
      have htx : s.extract a (a + n) = t := ht.symm
      replace hts := Lib.hid hts
      replace htz := Lib.hid htz
      clear ht
      have hwr : IntKind.i64.wrap ((a : Int) + (n : Int)) = (a : Int) + (n : Int) := IntWalk.i64_in _ (by omega)
      have hto : ((a : Int) + (n : Int)).toNat = a + n := by omega
      have hp0 : (0 : Int) ≤ (a : Int) + (n : Int) := by omega
      have hp1 : (a : Int) ≤ (a : Int) + (n : Int) := by omega
      go_upto_region 11 with (fail)
      refine wp_region_list ?_
      refine wpList_plain rfl (fun K hK => ?_)
      go_simp
      refine hK _ _ ?_
      clear hK K
      refine wpList_plain rfl (fun K hK => ?_)
      go_simp
      refine hK _ _ ?_
      clear hK K
      refine wpList_plain rfl (fun K hK => ?_)
      go_simp
      refine hK _ _ ?_
      clear hK K
      refine wpList_plain rfl (fun K hK => ?_)
      go_simp
      refine hK _ _ ?_
      clear hK K
      refine wpList_plain rfl (fun K hK => ?_)
      go_simp
      refine hK _ _ ?_
      clear hK K
      refine wpList_plain rfl (fun K hK => ?_)
      go_simp
      refine hK _ _ ?_
      clear hK K
      refine wpList_plain rfl (fun K hK => ?_)
      go_simp
      refine hK _ _ ?_
      clear hK K
      refine wpList_plain rfl (fun K hK => ?_)
      go_simp
      refine hK _ _ ?_
      clear hK K
      refine wpList_plain rfl (fun K hK => ?_)
      go_simp
      refine hK _ _ ?_
      clear hK K
      refine wpList_plain rfl (fun K hK => ?_)
      go_simp
      refine hK _ _ ?_
      clear hK K
      obtain ⟨w4, hw4⟩ : ∃ w4, w4 = w2.alloc (.cells #[.int .i64 0, .int .i64 0, .int .i64 0, .string ⟨#[]⟩] TRtk) := ⟨_, rfl⟩
      obtain ⟨g, hg⟩ : ∃ g, g = w2.heap.size := ⟨_, rfl⟩
      have r4 : RowAt w4 g TRtk (tkV 0 0 0 ⟨#[]⟩) := by rw [hw4]; exact RowAt.new #[.int .i64 0, .int .i64 0, .int .i64 0, .string ⟨#[]⟩] hg
      have b34 : Below w2.heap.size w2 w4 := by rw [hw4]; exact balloc (Below.refl _ _) _
      rw [← hw4, ← hg]
      replace hw4 := Lib.hid hw4
      replace hg := Lib.hid hg
      refine list_store (l := tkV 2 0 a t) infoRtk r4 rfl rfl (tkV_one _ _ _ _) rfl 9 42 rfl rfl rfl ?_
      intro w5 q5 k5
      refine wpList_nil ?_
      have z5 : Below w.heap.size w w5 := k5.below (btrans z2.out b34) (fun j hj => by cases hj; rw [hg.out]; exact z2.out.size)
      have own5 : OwnE w5 w.heap.size oa acc.length oc acc := OwnR.keeps (OwnR.keeps own2.out (Keeps.of_below (S := fun _ => False) b34) (fun _ _ h => h)) k5 (fun j hj e => by
       have h1 := (OwnR.lt own2.out hj).2
       have h3 := hg.out
       omega)
      have hgb : w.heap.size ≤ g := by rw [hg.out]; exact z2.out.size
      have hne : ∀ j, (Value.slice oa acc.length oc).ownBlock = some j → ¬ j = g := fun j hj e => by
       have h1 := (OwnR.lt own2.out hj).2
       have h3 := hg.out
       omega
      replace hne := Lib.hid hne
      replace hgb := Lib.hid hgb
      clear k5 r4 b34 htx own2 z2 hwr hto hp0 hp1
      replace z5 := Lib.hid z5
      replace own5 := Lib.hid own5
      replace q5 := Lib.hid q5
      have c3 : w5.cell? ⟨g, 3, none⟩ = some (.string t) := q5.out.cell 3
      have R5 := RN.out w5 t htz.out
      rw [hts.out, h2] at R5
      replace R5 := Lib.hid R5
      clear h2
      go_wp2_with fail
      refine R5.out.mono ?_
      rintro e w6 ⟨rfl, hb6⟩
      have z6 := Lib.hid (btrans z5.out hb6)
      have own6 : Hid (OwnE w6 w.heap.size oa acc.length oc acc) := OwnR.keeps (S := fun _ => False) own5.out (Keeps.of_below hb6) (fun _ _ h => h)
      have q6 := Lib.hid (q5.out.below hb6)
      clear hb6 R5 c3 z5 own5 q5
      have c1 : w6.cell? ⟨g, 1, none⟩ = some (.int .i64 0) := q6.out.cell 1
      have f1 := q6.out.free 1
      go_upto_region 18 with (fail)
      refine wp_region_list ?_
      refine wpList_plain rfl (fun K hK => ?_)
      go_simp
      refine hK _ _ ?_
      clear hK K
      refine wpList_plain rfl (fun K hK => ?_)
      go_simp
      refine hK _ _ ?_
      clear hK K
      refine wpList_plain rfl (fun K hK => ?_)
      go_simp
      refine hK _ _ ?_
      clear hK K
      refine wpList_nil ?_
      have q7 := Lib.hid (show RowAt (w6.setCell ⟨g, 1, none⟩ (.int .i64 v)) g TRtk (tkV 2 v a t) from q6.out.set 1 (.int .i64 v))
      have k7 : Keeps w6 (w6.setCell ⟨g, 1, none⟩ (.int .i64 v)) (fun j => j = g) := Keeps.set _ _ _ _ rfl
      have z7' := Lib.hid (k7.below z6.out (fun j hj => by cases hj; exact hgb.out))
      have own7' : Hid (OwnE (w6.setCell ⟨g, 1, none⟩ (.int .i64 v)) w.heap.size oa acc.length oc acc) := OwnR.keeps own6.out k7 (fun j hj e => hne.out j hj e)
      clear c1 f1 k7 q6 own6 z6
      generalize w6.setCell ⟨g, 1, none⟩ (.int .i64 v) = w6' at q7 z7' own7' ⊢
      go_upto_region 19 with (fail)
      refine wp_region_list ?_
      refine wpList_plain rfl (fun K hK => ?_)
      go_simp
      refine hK _ _ ?_
      clear hK K
      refine list_load undRtk infoRtk q7.out rfl rfl 9 rfl rfl ?_
      rw [show (tkV 2 v a t).toArray = #[.int .i64 (((2 : Nat) : Int)), .int .i64 v, .int .i64 (a : Int), .string t] from rfl]
      refine wpList_plain rfl (fun K hK => ?_)
      go_simp
      refine hK _ _ ?_
      clear hK K
      obtain ⟨w7, hw7⟩ : ∃ w7, w7 = w6'.alloc (.cells #[.int .i64 2, .int .i64 v, .int .i64 (a : Int), .string t] TRtk) := ⟨_, rfl⟩
      obtain ⟨g7, hg7⟩ : ∃ g7, g7 = w6'.heap.size := ⟨_, rfl⟩
      have r7 : RowAt w7 g7 TRtk (tkV 2 v a t) := by rw [hw7]; exact RowAt.new #[.int .i64 2, .int .i64 v, .int .i64 (a : Int), .string t] hg7
      have b67 : Below w6'.heap.size w6' w7 := by rw [hw7]; exact balloc (Below.refl _ _) _
      rw [← hw7, ← hg7]
      have own7 : OwnE w7 w.heap.size oa acc.length oc acc := OwnR.keeps own7'.out (Keeps.of_below (S := fun _ => False) b67) (fun _ _ h => h)
      have z7 := Lib.hid (btrans z7'.out b67)
      have hgS := b67.size
      replace hw7 := Lib.hid hw7
      replace hg7 := Lib.hid hg7
      refine wp_appR rfl (.tmp 63) (.tmp 65) 44 TRtk (.agg #[.int .i64 0, .int .i64 0, .int .i64 0, .string ⟨#[]⟩]) 4 40 rfl Tryz.underlying44 infoRtk3 rfl (by decide) w.heap.size oa acc.length oc (tcells acc) rfl own7 g7 1 (tkV 2 v a t) rfl rfl (fun j u hj => by
       have := r7.cell j
       rw [hj] at this
       rw [add_off, Nat.zero_add]
       exact this) (tkV_one _ _ _ _) (by have := hac6.out; unfold maxLen; omega) (by have := hac6.out; omega) z7.out.size ?_
      intro oa8 oc8 w8 own8 hg8 _
      have z8 := Lib.hid (bgrown z7.out hg8 (fun k hk => (OwnR.lt own7 hk).1))
      replace own8 := Lib.hid own8
      clear r7 b67 own7 z7 hg8 own7' z7' q7
      refine wpList_plain rfl (fun K hK => ?_)
      go_simp
      refine hK _ _ ?_
      clear hK K
      refine wpList_nil ?_
      have hskl : skipL (L.drop (a + n)) ≤ L.length - (a + n) := by have := skipG_le false (L.drop (a + n)); rw [List.length_drop] at this; exact this
      obtain ⟨sk, hsk⟩ : ∃ sk, sk = skipL (L.drop (a + n)) := ⟨_, rfl⟩
      have B9 := BT.out w8 (a + n) (by omega)
      rw [← hsk] at B9 hskl
      have hrun9 := hrun.out
      rw [← hsk] at hrun9
      have hle9 : a + n + sk ≤ s.size := by have h1 := hLn.out; have h3 := hlL.out; omega
      rw [show ((a + n : Nat) : Int) = (a : Int) + (n : Int) from by omega] at B9
      replace B9 := Lib.hid B9
      clear hsk hskl hrun
      replace hrun9 := Lib.hid hrun9
      go_wp2_with fail
      refine B9.out.mono ?_
      rintro e w9 ⟨rfl, hb9⟩
      have z9 := Lib.hid (btrans z8.out hb9)
      have hlA : (acc ++ [(⟨2, v, a, (L.drop a).take n⟩ : Tk)]).length = acc.length + 1 := by rw [List.length_append]; rfl
      have sh9 : Hid (SdH w.heap.size L res (a + n + sk) (acc ++ [⟨2, v, a, (L.drop a).take n⟩]) oa8 oc8 w9) := by
       refine ⟨?_, hrun9.out, by rw [hlA]; exact hac6.out⟩
       have h1 : OwnR w9 w.heap.size TRtk 4 oa8 (acc.length + 1) oc8 (tcells acc ++ tkV 2 v a t) := OwnR.keeps (S := fun _ => False) own8.out (Keeps.of_below hb9) (fun _ _ h => h)
       show OwnR _ _ _ _ _ _ _ _
       rw [hlA, tcells_snoc]
       rw [take_eta hts.out] at h1
       exact h1
      replace hlA := Lib.hid hlA
      have hle9I : (a : Int) + (n : Int) + (sk : Int) ≤ (s.size : Int) := by omega
      replace hle9 := Lib.hid hle9
      clear hb9 own8 z8 hrun9 B9
      go_wp2
      go_roundw
      case rel => exact ⟨a + n + sk, acc ++ [⟨2, v, a, (L.drop a).take n⟩], oa8, oc8, rfl, rfl, rfl, by rw [hlA.out], by push_cast; rfl, hle9.out, sh9, z9⟩
      case measure =>
       have := hle9.out
       simp [intOf]
       omega
     | sign _ h0 h1 =>
      have hrun := Lib.hid (hT _ _ _ h1)
      rw [show ((3 : Nat) : Int) = 3 from rfl]
      clear hE hT h1 BV
      have hn0 : ((n : Int) == 0) = false := by rw [beq_eq_false_iff_ne]; omega
      obtain ⟨t, ht⟩ : ∃ t, t = s.extract a (a + n) := ⟨_, rfl⟩
      have hts : t.data.toList = (L.drop a).take n := by rw [ht, hL.out, ByteArray.data_extract, Array.toList_extract, List.extract_eq_take_drop, Nat.add_sub_cancel_left]
      have htz : t.size ≤ 281474976710656 := by rw [ht, ByteArray.size_extract]; omega
      have htx : s.extract a (a + n) = t := ht.symm
      replace hts := Lib.hid hts
      replace htz := Lib.hid htz
      clear ht
      have hwr : IntKind.i64.wrap ((a : Int) + (n : Int)) = (a : Int) + (n : Int) := IntWalk.i64_in _ (by omega)
      have hto : ((a : Int) + (n : Int)).toNat = a + n := by omega
      have hp0 : (0 : Int) ≤ (a : Int) + (n : Int) := by omega
      have hp1 : (a : Int) ≤ (a : Int) + (n : Int) := by omega
      go_upto_region 11 with (fail)
      refine wp_region_list ?_
      refine wpList_plain rfl (fun K hK => ?_)
      go_simp
      refine hK _ _ ?_
      clear hK K
      refine wpList_plain rfl (fun K hK => ?_)
      go_simp
      refine hK _ _ ?_
      clear hK K
      refine wpList_plain rfl (fun K hK => ?_)
      go_simp
      refine hK _ _ ?_
      clear hK K
      refine wpList_plain rfl (fun K hK => ?_)
      go_simp
      refine hK _ _ ?_
      clear hK K
      refine wpList_plain rfl (fun K hK => ?_)
      go_simp
      refine hK _ _ ?_
      clear hK K
      refine wpList_plain rfl (fun K hK => ?_)
      go_simp
      refine hK _ _ ?_
      clear hK K
      refine wpList_plain rfl (fun K hK => ?_)
      go_simp
      refine hK _ _ ?_
      clear hK K
      refine wpList_plain rfl (fun K hK => ?_)
      go_simp
      refine hK _ _ ?_
      clear hK K
      refine wpList_plain rfl (fun K hK => ?_)
      go_simp
      refine hK _ _ ?_
      clear hK K
      refine wpList_plain rfl (fun K hK => ?_)
      go_simp
      refine hK _ _ ?_
      clear hK K
      obtain ⟨w4, hw4⟩ : ∃ w4, w4 = w2.alloc (.cells #[.int .i64 0, .int .i64 0, .int .i64 0, .string ⟨#[]⟩] TRtk) := ⟨_, rfl⟩
      obtain ⟨g, hg⟩ : ∃ g, g = w2.heap.size := ⟨_, rfl⟩
      have r4 : RowAt w4 g TRtk (tkV 0 0 0 ⟨#[]⟩) := by rw [hw4]; exact RowAt.new #[.int .i64 0, .int .i64 0, .int .i64 0, .string ⟨#[]⟩] hg
      have b34 : Below w2.heap.size w2 w4 := by rw [hw4]; exact balloc (Below.refl _ _) _
      rw [← hw4, ← hg]
      replace hw4 := Lib.hid hw4
      replace hg := Lib.hid hg
      refine list_store (l := tkV 3 0 a t) infoRtk r4 rfl rfl (tkV_one _ _ _ _) rfl 9 42 rfl rfl rfl ?_
      intro w5 q5 k5
      refine wpList_nil ?_
      have z5 : Below w.heap.size w w5 := k5.below (btrans z2.out b34) (fun j hj => by cases hj; rw [hg.out]; exact z2.out.size)
      have own5 : OwnE w5 w.heap.size oa acc.length oc acc := OwnR.keeps (OwnR.keeps own2.out (Keeps.of_below (S := fun _ => False) b34) (fun _ _ h => h)) k5 (fun j hj e => by
       have h1 := (OwnR.lt own2.out hj).2
       have h3 := hg.out
       omega)
      have hgb : w.heap.size ≤ g := by rw [hg.out]; exact z2.out.size
      have hne : ∀ j, (Value.slice oa acc.length oc).ownBlock = some j → ¬ j = g := fun j hj e => by
       have h1 := (OwnR.lt own2.out hj).2
       have h3 := hg.out
       omega
      replace hne := Lib.hid hne
      replace hgb := Lib.hid hgb
      clear k5 r4 b34 htx own2 z2 hwr hto hp0 hp1
      replace z5 := Lib.hid z5
      replace own5 := Lib.hid own5
      replace q5 := Lib.hid q5
      go_upto_region 19 with (fail)
      refine wp_region_list ?_
      refine wpList_plain rfl (fun K hK => ?_)
      go_simp
      refine hK _ _ ?_
      clear hK K
      refine list_load undRtk infoRtk q5.out rfl rfl 9 rfl rfl ?_
      rw [show (tkV 3 0 a t).toArray = #[.int .i64 (((3 : Nat) : Int)), .int .i64 0, .int .i64 (a : Int), .string t] from rfl]
      refine wpList_plain rfl (fun K hK => ?_)
      go_simp
      refine hK _ _ ?_
      clear hK K
      obtain ⟨w7, hw7⟩ : ∃ w7, w7 = w5.alloc (.cells #[.int .i64 3, .int .i64 0, .int .i64 (a : Int), .string t] TRtk) := ⟨_, rfl⟩
      obtain ⟨g7, hg7⟩ : ∃ g7, g7 = w5.heap.size := ⟨_, rfl⟩
      have r7 : RowAt w7 g7 TRtk (tkV 3 0 a t) := by rw [hw7]; exact RowAt.new #[.int .i64 3, .int .i64 0, .int .i64 (a : Int), .string t] hg7
      have b67 : Below w5.heap.size w5 w7 := by rw [hw7]; exact balloc (Below.refl _ _) _
      rw [← hw7, ← hg7]
      have own7 : OwnE w7 w.heap.size oa acc.length oc acc := OwnR.keeps own5.out (Keeps.of_below (S := fun _ => False) b67) (fun _ _ h => h)
      have z7 := Lib.hid (btrans z5.out b67)
      have hgS := b67.size
      replace hw7 := Lib.hid hw7
      replace hg7 := Lib.hid hg7
      refine wp_appR rfl (.tmp 63) (.tmp 65) 44 TRtk (.agg #[.int .i64 0, .int .i64 0, .int .i64 0, .string ⟨#[]⟩]) 4 40 rfl Tryz.underlying44 infoRtk3 rfl (by decide) w.heap.size oa acc.length oc (tcells acc) rfl own7 g7 1 (tkV 3 0 a t) rfl rfl (fun j u hj => by
       have := r7.cell j
       rw [hj] at this
       rw [add_off, Nat.zero_add]
       exact this) (tkV_one _ _ _ _) (by have := hac6.out; unfold maxLen; omega) (by have := hac6.out; omega) z7.out.size ?_
      intro oa8 oc8 w8 own8 hg8 _
      have z8 := Lib.hid (bgrown z7.out hg8 (fun k hk => (OwnR.lt own7 hk).1))
      replace own8 := Lib.hid own8
      clear r7 b67 own7 z7 hg8 own5 z5 q5
      refine wpList_plain rfl (fun K hK => ?_)
      go_simp
      refine hK _ _ ?_
      clear hK K
      refine wpList_nil ?_
      have hskl : skipL (L.drop (a + n)) ≤ L.length - (a + n) := by have := skipG_le false (L.drop (a + n)); rw [List.length_drop] at this; exact this
      obtain ⟨sk, hsk⟩ : ∃ sk, sk = skipL (L.drop (a + n)) := ⟨_, rfl⟩
      have B9 := BT.out w8 (a + n) (by omega)
      rw [← hsk] at B9 hskl
      have hrun9 := hrun.out
      rw [← hsk] at hrun9
      have hle9 : a + n + sk ≤ s.size := by have h1 := hLn.out; have h3 := hlL.out; omega
      rw [show ((a + n : Nat) : Int) = (a : Int) + (n : Int) from by omega] at B9
      replace B9 := Lib.hid B9
      clear hsk hskl hrun
      replace hrun9 := Lib.hid hrun9
      go_wp2_with fail
      refine B9.out.mono ?_
      rintro e w9 ⟨rfl, hb9⟩
      have z9 := Lib.hid (btrans z8.out hb9)
      have hlA : (acc ++ [(⟨3, 0, a, (L.drop a).take n⟩ : Tk)]).length = acc.length + 1 := by rw [List.length_append]; rfl
      have sh9 : Hid (SdH w.heap.size L res (a + n + sk) (acc ++ [⟨3, 0, a, (L.drop a).take n⟩]) oa8 oc8 w9) := by
       refine ⟨?_, hrun9.out, by rw [hlA]; exact hac6.out⟩
       have h1 : OwnR w9 w.heap.size TRtk 4 oa8 (acc.length + 1) oc8 (tcells acc ++ tkV 3 0 a t) := OwnR.keeps (S := fun _ => False) own8.out (Keeps.of_below hb9) (fun _ _ h => h)
       show OwnR _ _ _ _ _ _ _ _
       rw [hlA, tcells_snoc]
       rw [take_eta hts.out] at h1
       exact h1
      replace hlA := Lib.hid hlA
      have hle9I : (a : Int) + (n : Int) + (sk : Int) ≤ (s.size : Int) := by omega
      replace hle9 := Lib.hid hle9
      clear hb9 own8 z8 hrun9 B9
      go_wp2
      go_roundw
      case rel => exact ⟨a + n + sk, acc ++ [⟨3, 0, a, (L.drop a).take n⟩], oa8, oc8, rfl, rfl, rfl, by rw [hlA.out], by push_cast; rfl, hle9.out, sh9, z9⟩
      case measure =>
       have := hle9.out
       simp [intOf]
       omega
   ·have hlI : ¬ (a : Int) < (s.size : Int) := by omega
    have hr := Lib.hid (sh.out.fin (by have := hLn.out; omega))
    go_wp2
    refine bodyPost_ret (v := .tuple #[.slice oa acc.length oc, .int .i64 0, .int .i64 0]) (by simp [results, Tryz.results15]) rfl ⟨?_, zr.out⟩
    rw [hr.out]
    exact ⟨oa, oc, rfl, sh.out.own⟩
end Go.Proofs.YtkehfolcfcbplaaGreatDoor
