/- Scan, walked. Conditions: what the listed variables hold; short texts. -/
import Derived.Test.YtkehfolcfcbplaaGreatDoorSLexT
import Derived.Deep.CutBlock
namespace Go.Proofs.YtkehfolcfcbplaaGreatDoor
open Go.RowKit
set_option linter.unusedVariables false
theorem infoTok3 : (Tryz.prog.info? TTok).map (fun i => (i.zero, i.size, i.bytes)) = some (some (.agg #[.int .i64 0, .int .i64 0, .int .i64 0, .string ⟨#[]⟩]), 4, 40) := by kernel_rfl
def tcells (T : List Tk) : List Value := T.flatMap (fun t => tkV t.kind t.n t.at_ ⟨t.text.toArray⟩)
theorem tcells_snoc (T : List Tk) (t : Tk) : tcells (T ++ [t]) = tcells T ++ tkV t.kind t.n t.at_ ⟨t.text.toArray⟩ := by simp [tcells]
abbrev OwnT (w : World) (base : Nat) (a : Option Addr) (n c : Nat) (T : List Tk) : Prop := OwnR w base TTok 4 a n c (tcells T)
def ScanV (base : Nat) (r : ScR) (e : Ending) (w : World) : Prop := ∃ oa oc, e = .returned (.tuple #[.slice oa r.toks.length oc, .int .i64 (r.at_ : Int), .int .i64 (r.e : Int)]) ∧ OwnT w base oa r.toks.length oc r.toks
structure ScH (base : Nat) (L : List UInt8) (res : ScR) (a : Nat) (acc : List Tk) (oa : Option Addr) (oc : Nat) (w : World) : Prop where
 own : OwnT w base oa acc.length oc acc
 run : ∃ f, L.length < f + a ∧ scanF L f a acc = res
 le : acc.length ≤ 6000
theorem ScH.step {base : Nat} {L : List UInt8} {res : ScR} {a : Nat} {acc : List Tk} {oa : Option Addr} {oc : Nat} {w : World} (h : ScH base L res a acc oa oc w) (hl : a < L.length) (h6 : ¬ 6000 ≤ acc.length) :
  (∀ c, oneP (L.drop a) = .err c → res = ⟨[], a, c⟩) ∧ ∀ k n len, oneP (L.drop a) = .tok k n len → ∃ f, L.length < f + (a + len + skipL (L.drop (a + len))) ∧ scanF L f (a + len + skipL (L.drop (a + len))) (acc ++ [⟨k, n, a, (L.drop a).take len⟩]) = res := by
 obtain ⟨f, hf, hr⟩ := h.run
 obtain ⟨f, rfl⟩ : ∃ g, f = g + 1 := ⟨f - 1, by omega⟩
 rw [scanF, if_pos hl, if_neg h6] at hr
 refine ⟨fun c hc => ?_, fun k n len hc => ?_⟩
 ·rw [hc] at hr; exact hr.symm
 ·rw [hc] at hr
  have := (one_tok hc).1
  exact ⟨f, by omega, hr⟩
theorem ScH.many {base : Nat} {L : List UInt8} {res : ScR} {a : Nat} {acc : List Tk} {oa : Option Addr} {oc : Nat} {w : World} (h : ScH base L res a acc oa oc w) (hl : a < L.length) (h6 : 6000 ≤ acc.length) : res = ⟨[], a, 11⟩ := by
 obtain ⟨f, hf, hr⟩ := h.run
 obtain ⟨f, rfl⟩ : ∃ g, f = g + 1 := ⟨f - 1, by omega⟩
 rw [scanF, if_pos hl, if_pos h6] at hr
 exact hr.symm
theorem ScH.fin {base : Nat} {L : List UInt8} {res : ScR} {a : Nat} {acc : List Tk} {oa : Option Addr} {oc : Nat} {w : World} (h : ScH base L res a acc oa oc w) (hl : ¬ a < L.length) : res = ⟨acc, 0, 0⟩ := by
 obtain ⟨f, hf, hr⟩ := h.run
 cases f with
 | zero => exact hr.symm
 | succ f =>
  rw [scanF, if_neg hl] at hr
  exact hr.symm
theorem take_eta {t : ByteArray} {l : List UInt8} (h : t.data.toList = l) : t = ⟨l.toArray⟩ := ((str_eq _ _).2 h.symm).symm
theorem one_err {l : List UInt8} {c : Nat} (h : oneP l = .err c) : c ≠ 0 := by
 unfold oneP at h
 split at h
 ·split at h
  ·injection h with h; omega
  ·cases h
 ·split at h
  ·split at h
   ·cases h
   ·injection h with h; omega
  ·split at h
   ·cases h
   ·injection h with h; omega
set_option maxRecDepth 8000 in
set_option maxHeartbeats 8000000 in
theorem scan_any (w : World) (hd : Door w) (s : ByteArray) (hs : s.size ≤ 281474976710656) :
  Calls Tryz.prog 10 #[.string s] w fun e w' => ScanV w.heap.size (scanLex s.data.toList) e w' ∧ Below w.heap.size w w' := by
 obtain ⟨L, hL⟩ : ∃ L, L = s.data.toList := ⟨_, rfl⟩
 have hLn : s.size = L.length := by rw [hL, Array.length_toList]; rfl
 rw [← hL]
 obtain ⟨res, hres⟩ : ∃ res, res = scanLex L := ⟨_, rfl⟩
 rw [← hres]
 by_cases hlong : 20000 < s.size
 ·have hlongI : (20000 : Int) < (s.size : Int) := by omega
  have hr : res = ⟨[], 0, 5⟩ := by rw [hres]; unfold scanLex; rw [if_pos (by omega)]
  subst hr
  clear hres hL hLn hlong hs hd
  go_enter Tryz.func10, Tryz.ntmps10
  go_wp2
  refine bodyPost_ret (v := .tuple #[.slice none 0 0, .int .i64 0, .int .i64 5]) (by simp [results, Tryz.results10]) rfl ⟨⟨none, 0, rfl, OwnR.nil _ _ _ _⟩, Below.refl _ _⟩
 ·have hlongI : ¬ (20000 : Int) < (s.size : Int) := by omega
  have BT := Lib.hid (fun w a => between_any w (s.extract a s.size) (Nat.le_trans (drop_size s a) hs))
  have BT0 := Lib.hid (between_any w s hs)
  rw [← hL] at BT0
  have BT1 : Hid (∀ v a, Calls Tryz.prog 22 #[.string (s.extract a s.size)] v fun e w' => e = .returned (.int .i64 (skipL (L.drop a) : Int)) ∧ Below v.heap.size v w') := fun v a => by
   have := BT.out v a
   rw [drop_str, ← hL] at this
   exact this
  have ON : Hid (∀ v a, Below w.heap.size w v → Calls Tryz.prog 23 #[.string (s.extract a s.size)] v fun e w' => OneV (L.drop a) e ∧ Below v.heap.size v w') := fun v a hv => by
   have := one_any v (hd.below hv) (s.extract a s.size) (Nat.le_trans (drop_size s a) hs)
   rw [drop_str, ← hL] at this
   exact this
  have hs2 : (s.size : Int) ≤ 20000 := by omega
  have hrun : ∃ f, L.length < f + skipL L ∧ scanF L f (skipL L) [] = res := ⟨L.length + 1, by omega, by rw [hres]; unfold scanLex; rw [if_neg (by omega)]⟩
  obtain ⟨a0, ha0⟩ : ∃ a0, a0 = skipL L := ⟨_, rfl⟩
  have hal : a0 ≤ s.size := by rw [ha0, hLn]; exact skipG_le _ _
  rw [← ha0] at BT0 hrun
  have ST : Hid (∀ v, ScH w.heap.size L res a0 [] none 0 v) := fun v => ⟨OwnR.nil _ _ _ _, hrun, Nat.zero_le _⟩
  replace hLn := Lib.hid hLn
  clear hrun ha0 BT hres hs hd hlong hL
  go_enter Tryz.func10, Tryz.ntmps10
  go_wp2_with fail
  refine BT0.out.mono ?_
  rintro e w1 ⟨rfl, hb1⟩
  have z1 := Lib.hid hb1
  have ST1 := Lib.hid (ST.out w1)
  clear hb1 BT0 ST
  go_wp2
  go_loopw [2, 3, 4, 5, 6] (fun r2 r3 r4 ov iv wr => ∃ (a : Nat) (acc : List Tk) (oa : Option Addr) (oc : Nat), r2 = .slice none 0 0 ∧ r3 = .int .i64 0 ∧ r4 = .int .i64 0 ∧ ov = .slice oa acc.length oc ∧ iv = .int .i64 (a : Int) ∧ a ≤ s.size ∧ Hid (ScH w.heap.size L res a acc oa oc wr) ∧ Hid (Below w.heap.size w wr)) (fun _ _ _ _ iv _ => s.size - (intOf iv).toNat)
  case atStart => exact ⟨a0, [], none, 0, rfl, rfl, rfl, rfl, rfl, hal, ST1, z1⟩
  case round =>
   obtain ⟨a, acc, oa, oc, rfl, rfl, rfl, rfl, rfl, ha, sh, zr⟩ := hrel
   clear ST1 z1
   by_cases hl : a < s.size
   ·have hlI : (a : Int) < (s.size : Int) := by omega
    have hlL : Hid (a < L.length) := by show _ < _; have := hLn.out; omega
    have hacI : (acc.length : Int) ≤ 6000 := by have := sh.out.le; omega
    by_cases h6 : 6000 ≤ acc.length
    ·have h6I : (6000 : Int) ≤ (acc.length : Int) := by omega
     have hr := Lib.hid (sh.out.many hlL.out h6)
     clear h6 sh
     go_wp2
     refine bodyPost_ret (v := .tuple #[.slice none 0 0, .int .i64 (a : Int), .int .i64 11]) (by simp [results, Tryz.results10]) rfl ⟨?_, zr.out⟩
     rw [hr.out]
     exact ⟨none, 0, rfl, OwnR.nil _ _ _ _⟩
    ·have h6I : ¬ (6000 : Int) ≤ (acc.length : Int) := by omega
     obtain ⟨hE, hT⟩ := sh.out.step hlL.out h6
     have own := Lib.hid sh.out.own
     have hac6 : Hid (acc.length < 6000) := by show _ < _; omega
     clear h6 sh
     have O1 := Lib.hid (ON.out wr a zr.out)
     cases hone : oneP (L.drop a) with
     | err c =>
      have hr := Lib.hid (hE c hone)
      have O2 : Hid (Calls Tryz.prog 23 #[.string (s.extract a s.size)] wr fun e w' => (∃ l : List Value, e = .returned (.tuple #[.agg l.toArray, .int .i64 (c : Int)]) ∧ l.length = 4 ∧ (∀ v ∈ l, v.oneCell' = true)) ∧ Below wr.heap.size wr w') := by
       have := O1.out
       unfold OneV at this
       rw [hone] at this
       exact this
      have hc0 := one_err hone
      have hcI : ((c : Int) == 0) = false := by rw [beq_eq_false_iff_ne]; omega
      clear hE hT hone O1
      go_upto_region 9 with (fail)
      refine wp_region_list ?_
      refine wpList_plain rfl (fun K hK => ?_)
      go_simp
      refine hK _ _ ?_
      clear hK K
      refine wpList_plain rfl (fun K hK => ?_)
      go_simp
      refine hK _ _ ?_
      clear hK K
      refine wpList_plain rfl (fun K hK => ?_)
      go_simp
      refine hK _ _ ?_
      clear hK K
      refine wpList_plain rfl (fun K hK => ?_)
      go_simp
      refine O2.out.mono ?_
      rintro e w3 ⟨⟨l, rfl, hl4, hl1⟩, hb3⟩
      refine hK _ _ ?_
      clear hK K
      refine wpList_plain rfl (fun K hK => ?_)
      go_simp
      refine hK _ _ ?_
      clear hK K
      refine wpList_plain rfl (fun K hK => ?_)
      go_simp
      refine hK _ _ ?_
      clear hK K
      refine wpList_plain rfl (fun K hK => ?_)
      go_simp
      refine hK _ _ ?_
      clear hK K
      refine wpList_plain rfl (fun K hK => ?_)
      go_simp
      refine hK _ _ ?_
      clear hK K
      obtain ⟨w4, hw4⟩ : ∃ w4, w4 = w3.alloc (.cells #[.int .i64 0, .int .i64 0, .int .i64 0, .string ⟨#[]⟩] TTok) := ⟨_, rfl⟩
      obtain ⟨g, hg⟩ : ∃ g, g = w3.heap.size := ⟨_, rfl⟩
      have r4 : RowAt w4 g TTok (tkV 0 0 0 ⟨#[]⟩) := by rw [hw4]; exact RowAt.new #[.int .i64 0, .int .i64 0, .int .i64 0, .string ⟨#[]⟩] hg
      have b34 : Below w3.heap.size w3 w4 := by rw [hw4]; exact balloc (Below.refl _ _) _
      rw [← hw4, ← hg]
      replace hw4 := Lib.hid hw4
      replace hg := Lib.hid hg
      refine list_store (l := l) infoTok r4 rfl hl4 hl1 rfl 7 33 rfl rfl rfl ?_
      intro w5 q5 k5
      refine wpList_plain rfl (fun K hK => ?_)
      go_simp
      refine hK _ _ ?_
      clear hK K
      refine wpList_nil ?_
      have z5 : Below w.heap.size w w5 := k5.below (btrans zr.out (btrans hb3 b34)) (fun j hj => by cases hj; rw [hg.out]; have := (btrans zr.out hb3).size; omega)
      replace z5 := Lib.hid z5
      clear q5 k5 r4 b34 hb3 hl4 hl1
      go_wp2
      refine bodyPost_ret (v := .tuple #[.slice none 0 0, .int .i64 (a : Int), .int .i64 (c : Int)]) (by simp [results, Tryz.results10]) rfl ⟨?_, z5.out⟩
      rw [hr.out]
      exact ⟨none, 0, rfl, OwnR.nil _ _ _ _⟩
     | tok k n len =>
      have hrun := Lib.hid (hT k n len hone)
      have hlen := one_tok hone
      rw [List.length_drop] at hlen
      have O2 : Hid (Calls Tryz.prog 23 #[.string (s.extract a s.size)] wr fun e w' => (∃ t : ByteArray, e = .returned (.tuple #[.agg (tkV k n 0 t).toArray, .int .i64 0]) ∧ t.data.toList = (L.drop a).take len) ∧ Below wr.heap.size wr w') := by
       have := O1.out
       unfold OneV at this
       rw [hone] at this
       exact this
      clear hE hT hone O1
      go_upto_region 9 with (fail)
      refine wp_region_list ?_
      refine wpList_plain rfl (fun K hK => ?_)
      go_simp
      refine hK _ _ ?_
      clear hK K
      refine wpList_plain rfl (fun K hK => ?_)
      go_simp
      refine hK _ _ ?_
      clear hK K
      refine wpList_plain rfl (fun K hK => ?_)
      go_simp
      refine hK _ _ ?_
      clear hK K
      refine wpList_plain rfl (fun K hK => ?_)
      go_simp
      refine O2.out.mono ?_
      rintro e w3 ⟨⟨t, rfl, ht⟩, hb3⟩
      refine hK _ _ ?_
      clear hK K
      refine wpList_plain rfl (fun K hK => ?_)
      go_simp
      refine hK _ _ ?_
      clear hK K
      refine wpList_plain rfl (fun K hK => ?_)
      go_simp
      refine hK _ _ ?_
      clear hK K
      refine wpList_plain rfl (fun K hK => ?_)
      go_simp
      refine hK _ _ ?_
      clear hK K
      refine wpList_plain rfl (fun K hK => ?_)
      go_simp
      refine hK _ _ ?_
      clear hK K
      obtain ⟨w4, hw4⟩ : ∃ w4, w4 = w3.alloc (.cells #[.int .i64 0, .int .i64 0, .int .i64 0, .string ⟨#[]⟩] TTok) := ⟨_, rfl⟩
      obtain ⟨g, hg⟩ : ∃ g, g = w3.heap.size := ⟨_, rfl⟩
      have r4 : RowAt w4 g TTok (tkV 0 0 0 ⟨#[]⟩) := by rw [hw4]; exact RowAt.new #[.int .i64 0, .int .i64 0, .int .i64 0, .string ⟨#[]⟩] hg
      have b34 : Below w3.heap.size w3 w4 := by rw [hw4]; exact balloc (Below.refl _ _) _
      rw [← hw4, ← hg]
      replace hw4 := Lib.hid hw4
      replace hg := Lib.hid hg
      refine list_store (l := tkV k n 0 t) infoTok r4 rfl rfl (tkV_one _ _ _ _) rfl 7 33 rfl rfl rfl ?_
      intro w5 q5 k5
      refine wpList_plain rfl (fun K hK => ?_)
      go_simp
      refine hK _ _ ?_
      clear hK K
      refine wpList_nil ?_
      have htl : t.size = len := by
       have h1 : t.data.toList.length = t.size := by rw [Array.length_toList]; rfl
       rw [← h1, ht, List.length_take, List.length_drop]
       omega
      have htI : (t.size : Int) = (len : Int) := by rw [htl]
      have hte := Lib.hid (take_eta ht)
      have z3 := btrans zr.out hb3
      have z5 : Below w.heap.size w w5 := k5.below (btrans z3 b34) (fun j hj => by cases hj; rw [hg.out]; exact z3.size)
      have own5 : OwnT w5 w.heap.size oa acc.length oc acc := OwnR.keeps (OwnR.keeps own.out (Keeps.of_below (btrans hb3 b34)) (fun _ _ h => h)) k5 (fun j hj e => by
       have h1 := (OwnR.lt own.out hj).2
       have h2 := hb3.size
       have h3 := hg.out
       omega)
      have c2 : w5.cell? ⟨g, 2, none⟩ = some (.int .i64 0) := q5.cell 2
      have f2 := q5.free 2
      have hgb : w.heap.size ≤ g := by rw [hg.out]; exact z3.size
      have hgl := q5.lt
      have hne : ∀ j, (Value.slice oa acc.length oc).ownBlock = some j → ¬ j = g := fun j hj e => by
       have h1 := (OwnR.lt own.out hj).2
       have h2 := hb3.size
       have h3 := hg.out
       omega
      clear k5 r4 b34 hb3 ht
      replace z5 := Lib.hid z5
      replace own5 := Lib.hid own5
      replace q5 := Lib.hid q5
      go_upto_region 12 with (fail)
      refine wp_region_list ?_
      refine wpList_plain rfl (fun K hK => ?_)
      go_simp
      refine hK _ _ ?_
      clear hK K
      refine wpList_plain rfl (fun K hK => ?_)
      go_simp
      refine hK _ _ ?_
      clear hK K
      refine wpList_plain rfl (fun K hK => ?_)
      go_simp
      refine hK _ _ ?_
      clear hK K
      refine wpList_nil ?_
      have q6 := Lib.hid (show RowAt (w5.setCell ⟨g, 2, none⟩ (.int .i64 (a : Int))) g TTok (tkV k n a t) from q5.out.set 2 (.int .i64 (a : Int)))
      have k6 : Keeps w5 (w5.setCell ⟨g, 2, none⟩ (.int .i64 (a : Int))) (fun j => j = g) := Keeps.set _ _ _ _ rfl
      have z6 := Lib.hid (k6.below z5.out (fun j hj => by cases hj; exact hgb))
      have own6 : OwnT (w5.setCell ⟨g, 2, none⟩ (.int .i64 (a : Int))) w.heap.size oa acc.length oc acc := OwnR.keeps own5.out k6 (fun j hj e => hne j hj e)
      replace own6 := Lib.hid own6
      clear c2 f2 k6 q5 own5 z5
      generalize w5.setCell ⟨g, 2, none⟩ (.int .i64 (a : Int)) = w6 at q6 z6 own6 ⊢
      go_upto_region 13 with (fail)
      refine wp_region_list ?_
      refine wpList_plain rfl (fun K hK => ?_)
      go_simp
      refine hK _ _ ?_
      clear hK K
      refine list_load undTok infoTok q6.out rfl rfl 7 rfl rfl ?_
      rw [show (tkV k n a t).toArray = #[.int .i64 (k : Int), .int .i64 n, .int .i64 (a : Int), .string t] from rfl]
      refine wpList_plain rfl (fun K hK => ?_)
      go_simp
      refine hK _ _ ?_
      clear hK K
      obtain ⟨w7, hw7⟩ : ∃ w7, w7 = w6.alloc (.cells #[.int .i64 (k : Int), .int .i64 n, .int .i64 (a : Int), .string t] TTok) := ⟨_, rfl⟩
      obtain ⟨g7, hg7⟩ : ∃ g7, g7 = w6.heap.size := ⟨_, rfl⟩
      have r7 : RowAt w7 g7 TTok (tkV k n a t) := by rw [hw7]; exact RowAt.new #[.int .i64 (k : Int), .int .i64 n, .int .i64 (a : Int), .string t] hg7
      have b67 : Below w6.heap.size w6 w7 := by rw [hw7]; exact balloc (Below.refl _ _) _
      rw [← hw7, ← hg7]
      have own7 : OwnT w7 w.heap.size oa acc.length oc acc := OwnR.keeps own6.out (Keeps.of_below (S := fun _ => False) b67) (fun _ _ h => h)
      have z7 := Lib.hid (btrans z6.out b67)
      have q7 := Lib.hid (q6.out.below b67)
      have hg6 := q6.out.lt
      have hgS := b67.size
      replace hw7 := Lib.hid hw7
      replace hg7 := Lib.hid hg7
      refine wp_appR rfl (.tmp 41) (.tmp 43) 35 TTok (.agg #[.int .i64 0, .int .i64 0, .int .i64 0, .string ⟨#[]⟩]) 4 40 rfl Tryz.underlying35 infoTok3 rfl (by decide) w.heap.size oa acc.length oc (tcells acc) rfl own7 g7 1 (tkV k n a t) rfl rfl (fun j u hj => by
       have := r7.cell j
       rw [hj] at this
       rw [add_off, Nat.zero_add]
       exact this) (tkV_one _ _ _ _) (by have := hac6.out; unfold maxLen; omega) (by have := hac6.out; omega) z7.out.size ?_
      intro oa8 oc8 w8 own8 hg8 _
      have z8 := Lib.hid (bgrown z7.out hg8 (fun k hk => (OwnR.lt own7 hk).1))
      have q8 : RowAt w8 g TTok (tkV k n a t) := q7.out.keep (hg8.block g q7.out.lt (fun e => hne g e.symm rfl))
      have c3 : w8.cell? ⟨g, 3, none⟩ = some (.string t) := q8.cell 3
      replace own8 := Lib.hid own8
      clear r7 b67 own7 z7 q7 hg8 q8 own6 z6 q6
      refine wpList_plain rfl (fun K hK => ?_)
      go_simp
      refine hK _ _ ?_
      clear hK K
      refine wpList_nil ?_
      have hlenI : (len : Int) + (a : Int) ≤ (s.size : Int) := by have := hlen.2; have := hLn.out; omega
      go_wp2_with fail
      have hskl : skipL (L.drop (a + len)) ≤ L.length - (a + len) := by have := skipG_le false (L.drop (a + len)); rw [List.length_drop] at this; exact this
      obtain ⟨sk, hsk⟩ : ∃ sk, sk = skipL (L.drop (a + len)) := ⟨_, rfl⟩
      have B9 := BT1.out w8 (a + len)
      rw [← hsk] at B9 hskl
      have hrun9 := hrun.out
      rw [← hsk] at hrun9
      have hle9 : a + len + sk ≤ s.size := by have h1 := hLn.out; have h2 := hlen.2; have h3 := hlL.out; omega
      refine B9.mono ?_
      rintro e w9 ⟨rfl, hb9⟩
      have z9 := Lib.hid (btrans z8.out hb9)
      have hlA : (acc ++ [(⟨k, n, a, (L.drop a).take len⟩ : Tk)]).length = acc.length + 1 := by rw [List.length_append]; rfl
      have sh9 : Hid (ScH w.heap.size L res (a + len + sk) (acc ++ [⟨k, n, a, (L.drop a).take len⟩]) oa8 oc8 w9) := by
       refine ⟨?_, hrun9, by rw [hlA]; exact hac6.out⟩
       have h1 : OwnR w9 w.heap.size TTok 4 oa8 (acc.length + 1) oc8 (tcells acc ++ tkV k n a t) := OwnR.keeps (S := fun _ => False) own8.out (Keeps.of_below hb9) (fun _ _ h => h)
       show OwnR _ _ _ _ _ _ _ _
       rw [hlA, tcells_snoc]
       rw [hte.out] at h1
       exact h1
      replace hlA := Lib.hid hlA
      have hle9I : (a : Int) + (len : Int) + (sk : Int) ≤ (s.size : Int) := by omega
      replace hle9 := Lib.hid hle9
      have hpos9 := hlen.1
      clear hb9 own8 z8 c3 hrun hrun9 hskl hsk B9 hg6 hgS
      go_wp2
      go_roundw
      case rel => exact ⟨a + len + sk, acc ++ [⟨k, n, a, (L.drop a).take len⟩], oa8, oc8, rfl, rfl, rfl, by rw [hlA.out], by push_cast; rfl, hle9.out, sh9, z9⟩
      case measure =>
       have := hle9.out
       simp [intOf]
       omega
   ·have hlI : ¬ (a : Int) < (s.size : Int) := by omega
    have hr := Lib.hid (sh.out.fin (by have := hLn.out; omega))
    go_wp2
    refine bodyPost_ret (v := .tuple #[.slice oa acc.length oc, .int .i64 0, .int .i64 0]) (by simp [results, Tryz.results10]) rfl ⟨?_, zr.out⟩
    rw [hr.out]
    exact ⟨oa, oc, rfl, sh.out.own⟩
end Go.Proofs.YtkehfolcfcbplaaGreatDoor
