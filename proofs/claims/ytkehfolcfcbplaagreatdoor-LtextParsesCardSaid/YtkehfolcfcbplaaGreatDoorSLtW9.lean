/- A formula's text (the document's Kids and laid), walked. Conditions: a formula with names that may be. -/
import Derived.Test.YtkehfolcfcbplaaGreatDoorSLtW6
import Derived.Test.YtkehfolcfcbplaaGreatDoorSLtW8
namespace Go.Proofs.YtkehfolcfcbplaaGreatDoor
open Go.RowKit
set_option linter.unusedVariables false
set_option linter.unusedSimpArgs false
theorem spanG_le : ∀ (f : List Nd) (i : Nat) (st : List Nat), (∀ s ∈ st, s ≤ i) → ∀ v ∈ spanG f i st, v ≤ i + f.length
 | [], i, st, h, v, hv => by cases hv
 | x :: r, i, st, h, v, hv => by
  have hb : beginP x i st ≤ i := by
   unfold beginP
   split
   ·exact Nat.le_refl _
   ·rw [List.getD_eq_getElem?_getD]
    cases e : st[(takesP x.1).toNat - 1]? with
    | none => exact Nat.zero_le _
    | some s => exact h s (List.mem_of_getElem? e)
  rw [spanG] at hv
  rw [List.length_cons]
  rcases List.mem_cons.1 hv with rfl | hv
  ·omega
  ·have := spanG_le r (i + 1) _ (fun s hs => by
    rcases List.mem_cons.1 hs with rfl | hs
    ·omega
    ·have := h s (List.mem_of_mem_drop hs); omega) v hv
   omega
theorem Fm.post_last : ∀ t : Fm, ∃ l, t.post = l ++ [t.head] ∧ l.length + 1 = t.post.length
 | .leaf x => ⟨[], rfl, rfl⟩
 | .un x a => ⟨a.post, rfl, by rw [Fm.post, List.length_append]; rfl⟩
 | .bin x a b => ⟨a.post ++ b.post, by rw [Fm.post, List.append_assoc]; rfl, by rw [Fm.post, List.length_append, List.length_append, List.length_append]; simp only [List.length_cons, List.length_nil]; omega⟩
theorem head_node {f pre suf : List Nd} {t : Fm} (e : f = pre ++ (t.post ++ suf)) : f[pre.length + t.post.length - 1]? = some t.head := by
 obtain ⟨l, h1, h2⟩ := t.post_last
 have h3 := t.post_pos
 rw [e, List.getElem?_append_right (by omega), List.getElem?_append_left (by omega), h1, List.getElem?_append_right (by rw [List.length_append]; simp only [List.length_cons, List.length_nil]; omega)]
 have : pre.length + (l ++ [t.head]).length - 1 - pre.length - l.length = 0 := by rw [List.length_append]; simp only [List.length_cons, List.length_nil]; omega
 rw [this]
 rfl
def KidsW (sp : List Nat) (p : Nat) (op : Int) (e : Ending) : Prop := ∃ l r : Int, e = .returned (.tuple #[.int .i64 l, .int .i64 r]) ∧ (takesP op = 2 → ∀ q, sp[p - 1]? = some q → l = (q : Int) - 1 ∧ r = (p : Int) - 1)
set_option maxRecDepth 8000 in
set_option maxHeartbeats 4000000 in
theorem rkids_any (w : World) (a : Option Addr) (c : Nat) (f : List Nd) (hf : NdAt w a f) (hl : f.length ≤ 1000) (h0 : wrongP f = 0) (p : Nat) (hp : p < f.length) (hp1 : takesP f[p].1 = 2 → 1 ≤ p) (hpk : 0 ≤ takesP f[p].1) :
  Calls Tryz.prog 66 #[.slice a f.length c, .int .i64 (p : Int)] w fun e w' => KidsW (spanG f 0 []) p f[p].1 e ∧ Below w.heap.size w w' := by
 have IS := Lib.hid (ris_formula w a c f hf (by omega) h0)
 have SP := Lib.hid (rspans_any w a c f hf hl h0)
 obtain ⟨b, off, ea, hc⟩ := hf (by omega)
 have c0 := (hc p hp).1
 subst ea
 have hlen := spanG_len f 0 []
 have hsl := spanG_le f 0 [] (fun s hs => by cases hs)
 have T1 := fun v => rtakes_any v f[p].1
 have ht := takes_le f[p].1
 generalize f[p].1 = x at c0 T1 ht hp1 hpk ⊢
 obtain ⟨sp, hsp⟩ : ∃ sp, sp = spanG f 0 [] := ⟨_, rfl⟩
 rw [← hsp] at SP hlen hsl ⊢
 rw [Nat.zero_add] at hsl
 obtain ⟨n, hn⟩ : ∃ n, n = f.length := ⟨_, rfl⟩
 rw [← hn] at IS SP hlen hsl ⊢
 replace hsl := Lib.hid hsl
 have hpI : (p : Int) < (n : Int) := by omega
 have hnI : (n : Int) ≤ 1000 := by omega
 have hb0 : Hid (Below w.heap.size w w) := Below.refl _ _
 replace hlen := Lib.hid hlen
 have V : Hid (∀ (e : Ending) (l r : Int), e = .returned (.tuple #[.int .i64 l, .int .i64 r]) → (takesP x = 2 → ∀ q, sp[p - 1]? = some q → l = (q : Int) - 1 ∧ r = (p : Int) - 1) → KidsW sp p x e) := fun e l r h1 h2 => ⟨l, r, h1, h2⟩
 show Calls _ _ _ _ fun e w' => KidsW sp p x e ∧ _
 generalize hk : takesP x = k at T1 ht hp1 hpk V
 replace T1 := Lib.hid T1
 replace hp1 := Lib.hid hp1
 clear hf hl h0 hp hc hsp hn hk
 by_cases hk0 : k = 0
 ·have hkB : (k == 0) = true := by rw [hk0]; rfl
  have hf2 : Hid (KidsW sp p x (.returned (.tuple #[.int .i64 (-1), .int .i64 (-1)]))) := V.out _ _ _ rfl (fun h => by omega)
  clear hk0 V
  go_enter Tryz.func66, Tryz.ntmps66
  go_wp2_with fail
  refine IS.out.mono ?_
  rintro e w1 ⟨rfl, rfl⟩
  go_wp2_with fail
  refine (T1.out w).mono ?_
  rintro e w1 ⟨rfl, rfl⟩
  go_wp2
  refine bodyPost_ret (v := .tuple #[.int .i64 (-1), .int .i64 (-1)]) (by simp [results, Tryz.results66]) rfl ⟨hf2.out, hb0.out⟩
 ·have hkB : (k == 0) = false := by rw [beq_eq_false_iff_ne]; exact hk0
  by_cases hk1 : k = 1
  ·have hkB1 : (k == 1) = true := by rw [hk1]; rfl
   have hf2 : Hid (KidsW sp p x (.returned (.tuple #[.int .i64 ((p : Int) - 1), .int .i64 (-1)]))) := V.out _ _ _ rfl (fun h => by omega)
   clear hk0 hk1 V
   go_enter Tryz.func66, Tryz.ntmps66
   go_wp2_with fail
   refine IS.out.mono ?_
   rintro e w1 ⟨rfl, rfl⟩
   go_wp2_with fail
   refine (T1.out w).mono ?_
   rintro e w1 ⟨rfl, rfl⟩
   go_wp2_with fail
   refine (T1.out w).mono ?_
   rintro e w1 ⟨rfl, rfl⟩
   go_wp2
   refine bodyPost_ret (v := .tuple #[.int .i64 ((p : Int) - 1), .int .i64 (-1)]) (by simp [results, Tryz.results66]) rfl ⟨hf2.out, hb0.out⟩
  ·have hkB1 : (k == 1) = false := by rw [beq_eq_false_iff_ne]; exact hk1
   by_cases hk2 : k = 2
   ·have hp1' := hp1.out hk2
    obtain ⟨q, hq⟩ : ∃ q, sp[p - 1]? = some q := ⟨_, List.getElem?_eq_getElem (by have := hlen.out; omega)⟩
    have hql : q ≤ 1000000 := by have := hsl.out q (List.mem_of_getElem? hq); omega
    have hf2 : Hid (KidsW sp p x (.returned (.tuple #[.int .i64 ((q : Int) - 1), .int .i64 ((p : Int) - 1)]))) := V.out _ _ _ rfl (fun h q2 hq2 => by rw [hq] at hq2; cases hq2; exact ⟨rfl, rfl⟩)
    have hp1I : (1 : Int) ≤ (p : Int) := by omega
    have hqI : (q : Int) ≤ 1000000 := by omega
    have wr1 : IntKind.i64.wrap ((p : Int) - 1) = (p : Int) - 1 := IntWalk.i64_in _ (by omega)
    have ti : ((p : Int) - 1).toNat = p - 1 := by omega
    have ti0 : (0 : Int) ≤ (p : Int) - 1 := by omega
    have ti1 : (p : Int) - 1 < (n : Int) := by omega
    replace hq := Lib.hid hq
    clear hk0 hk1 hk2 V hp1'
    go_enter Tryz.func66, Tryz.ntmps66
    go_wp2_with fail
    refine IS.out.mono ?_
    rintro e w1 ⟨rfl, rfl⟩
    go_wp2_with fail
    refine (T1.out w).mono ?_
    rintro e w1 ⟨rfl, rfl⟩
    go_wp2_with fail
    refine (T1.out w).mono ?_
    rintro e w1 ⟨rfl, rfl⟩
    go_wp2_with fail
    refine SP.out.mono ?_
    rintro e w2 ⟨⟨oa, oc, rfl, nu⟩, hb2⟩
    obtain ⟨sb, so, ev, rfl, cv, hev⟩ := nu.at (p - 1) (by unfold intsN; rw [List.length_map]; have := hlen.out; omega)
    have hevq : ev = (q : Int) := by
     rw [hev.out]
     unfold intsN
     rw [List.getD_eq_getElem?_getD, List.getElem?_map, hq.out]
     rfl
    subst hevq
    replace hb2 := Lib.hid hb2
    clear hev nu
    go_wp2
    refine bodyPost_ret (v := .tuple #[.int .i64 ((q : Int) - 1), .int .i64 ((p : Int) - 1)]) (by simp [results, Tryz.results66]) rfl ⟨hf2.out, hb2.out⟩
   ·exfalso
    omega
theorem frame116 (arr : Array Value) (h : arr.size = 116) : ∃ q : Nat → Value, arr = #[q 0, q 1, q 2, q 3, q 4, q 5, q 6, q 7, q 8, q 9, q 10, q 11, q 12, q 13, q 14, q 15, q 16, q 17, q 18, q 19, q 20, q 21, q 22, q 23, q 24, q 25, q 26, q 27, q 28, q 29, q 30, q 31, q 32, q 33, q 34, q 35, q 36, q 37, q 38, q 39, q 40, q 41, q 42, q 43, q 44, q 45, q 46, q 47, q 48, q 49, q 50, q 51, q 52, q 53, q 54, q 55, q 56, q 57, q 58, q 59, q 60, q 61, q 62, q 63, q 64, q 65, q 66, q 67, q 68, q 69, q 70, q 71, q 72, q 73, q 74, q 75, q 76, q 77, q 78, q 79, q 80, q 81, q 82, q 83, q 84, q 85, q 86, q 87, q 88, q 89, q 90, q 91, q 92, q 93, q 94, q 95, q 96, q 97, q 98, q 99, q 100, q 101, q 102, q 103, q 104, q 105, q 106, q 107, q 108, q 109, q 110, q 111, q 112, q 113, q 114, q 115] := by
 refine ⟨fun i => arr.toList.getD i undef, ?_⟩
 have h1 := list_getN (l := arr.toList) (n := 116) (by simpa using h)
 apply Array.ext'
 exact h1
def LaidC (w : World) (a : Option Addr) (c : Nat) (na : Option Addr) (nc : Nat) (n nn : Nat) (nm : Int → List UInt8) (t : Fm) (p : Nat) : Prop := ∀ (asks : Nat) (v : World), asks ≤ 5 → Below w.heap.size w v → Calls Tryz.prog 42 #[.slice a n c, .slice na nn nc, .int .i64 (p : Int), .int .i64 (asks : Int)] v fun e w' => e = .returned (.string ⟨(brk asks (txt nm t) (bindsP t.head.1)).toArray⟩) ∧ Below v.heap.size v w'
structure LdX (w : World) (a : Option Addr) (c : Nat) (f : List Nd) (na : Option Addr) (nc : Nat) (N : List (List UInt8)) : Prop where
 nd : NdAt w a f
 ns : StrsAt w na N
 nl : N.length ≤ 1000
 fl : f.length ≤ 24
 ok : wrongP f = 0
theorem brk_fin {asks b : Nat} {s : List UInt8} {st : ByteArray} (h : st = ⟨s.toArray⟩) : (b < asks → (⟨#[40]⟩ : ByteArray) ++ st ++ ⟨#[41]⟩ = ⟨(brk asks s b).toArray⟩) ∧ (¬ b < asks → st = ⟨(brk asks s b).toArray⟩) := by
 unfold brk
 subst h
 refine ⟨fun h => ?_, fun h => by rw [if_neg h]⟩
 rw [if_pos h, show (⟨#[40]⟩ : ByteArray) = ⟨[(40 : UInt8)].toArray⟩ from rfl, show (⟨#[41]⟩ : ByteArray) = ⟨[(41 : UInt8)].toArray⟩ from rfl, str_app, str_app]
 rfl
set_option maxRecDepth 8000 in
set_option maxHeartbeats 8000000 in
theorem laid_leaf (w : World) (a : Option Addr) (c : Nat) (f : List Nd) (na : Option Addr) (nc : Nat) (N : List (List UInt8)) (X : LdX w a c f na nc N) (nm : Int → List UInt8) (hnm : nm = nmP N) (x y : Int)  (pre suf : List Nd) (e : f = pre ++ ((Fm.leaf (x, y)).post ++ suf)) (ok : OkN N (Fm.leaf (x, y))) : LaidC w a c na nc f.length N.length nm (Fm.leaf (x, y)) (pre.length + (Fm.leaf (x, y)).post.length - 1) := by
 intro asks v hasks hb
 have NY : Hid (x = 3 → 0 ≤ y ∧ ∃ h : y.toNat < N.length, nm y = N[y.toNat]) := fun e3 => by
  have h1 := ok.1.2 e3
  have h2 := ok.2 e3
  refine ⟨h1.1, by have := h2.1; omega, ?_⟩
  rw [hnm]
  show N.getD y.toNat [] = _
  rw [List.getD, List.getElem?_eq_getElem (by have := h2.1; omega)]
  rfl
 have TXL : Hid ((x = 3 → txt nm (Fm.leaf (x, y)) = nm y) ∧ (x ≠ 3 → txt nm (Fm.leaf (x, y)) = wordP x)) := ⟨fun h => if_pos h, fun h => if_neg h⟩
 have NSB : Hid (∀ u, Below v.heap.size v u → StrsAt u na N) := fun u hu => X.ns.below (btrans hb hu)
 have hpos := (Fm.leaf (x, y)).post_pos
 obtain ⟨p, hpd⟩ : ∃ p, p = pre.length + (Fm.leaf (x, y)).post.length - 1 := ⟨_, rfl⟩
 rw [← hpd]
 have hfl : f.length = pre.length + ((Fm.leaf (x, y)).post.length + suf.length) := by rw [e, List.length_append, List.length_append]
 have hp : p < f.length := by omega
 have hh := head_node e
 rw [← hpd, List.getElem?_eq_getElem hp] at hh
 have hxp : f[p] = (x, y) := Option.some.inj hh
 have hshort : (txt nm (Fm.leaf (x, y))).length ≤ 480 := by
  have h2 := (txt_len nm (Fm.leaf (x, y)) (by rw [hnm]; exact goodNm_of N _ ok.2)).1
  have := X.fl
  omega
 have KD := fun u (hu : Below v.heap.size v u) => rkids_any u a c f (X.nd.below (btrans hb hu)) (by have := X.fl; omega) X.ok p hp (fun h => (by have := ok.1.1; rw [hxp] at h; exact absurd (h.symm.trans this) (by decide))) (by rw [hxp]; exact (by have := ok.1.1; omega))
 rw [hxp] at KD
 obtain ⟨res, hres⟩ : ∃ res : ByteArray, res = ⟨(brk asks (txt nm (Fm.leaf (x, y))) (bindsP (Fm.leaf (x, y)).head.1)).toArray⟩ := ⟨_, rfl⟩
 rw [← hres]
 obtain ⟨b, off, ea, hc⟩ := (X.nd.below hb) (by omega)
 have SGN := NdAt.range (hc p hp)
 rw [hxp] at SGN
 dsimp only at SGN KD
 subst ea
 obtain ⟨st, hst⟩ : ∃ st : ByteArray, st = ⟨(txt nm (Fm.leaf (x, y))).toArray⟩ := ⟨_, rfl⟩
 obtain ⟨F1, F2⟩ := brk_fin (asks := asks) (b := bindsP (Fm.leaf (x, y)).head.1) hst
 rw [← hres] at F1 F2
 have hsts : (st.size : Int) ≤ 480 := by rw [hst, str_sz]; omega
 have hpI : (p : Int) < (f.length : Int) := by omega
 have hnI : (f.length : Int) ≤ 24 := by have := X.fl; omega
 have hnnI : (N.length : Int) ≤ 1000 := by have := X.nl; omega
 have hasI : (asks : Int) ≤ 5 := by omega
 obtain ⟨bn, hbn⟩ : ∃ bn, bn = bindsP x := ⟨_, rfl⟩
 change (bindsP x < asks → _) at F1
 change (¬ bindsP x < asks → _) at F2
 rw [← hbn] at F1 F2
 have BD := Lib.hid (fun u => rbinds_any u x)
 rw [← hbn] at BD
 have hbnI := binds_pos x
 rw [← hbn] at hbnI
 have SGB := Lib.hid (rsign_any)
 replace SGN := Lib.hid SGN
 replace F1 := Lib.hid F1
 replace F2 := Lib.hid F2
 clear hc hres hh hxp hshort hp
 obtain ⟨n, hn⟩ : ∃ n, n = f.length := ⟨_, rfl⟩
 obtain ⟨nn, hnn⟩ : ∃ nn, nn = N.length := ⟨_, rfl⟩
 rw [← hn] at KD hpI hnI ⊢
 rw [← hnn] at hnnI ⊢
 replace KD := Lib.hid KD
 replace hn := Lib.hid hn
 replace hnn := Lib.hid hnn
 replace hpd := Lib.hid hpd
 replace hst := Lib.hid hst
 replace hbn := Lib.hid hbn
 replace hfl := Lib.hid hfl
 go_enter Tryz.func42, Tryz.ntmps42
 go_upto_region 1 with (fail)
 refine wp_region_list ?_
 refine wpList_plain rfl (fun K hK => ?_)
 go_simp
 refine hK _ _ ?_
 clear hK K
 refine wpList_plain rfl (fun K hK => ?_)
 go_simp
 refine hK _ _ ?_
 clear hK K
 refine wpList_plain rfl (fun K hK => ?_)
 go_simp
 refine hK _ _ ?_
 clear hK K
 refine wpList_load_mid rfl TNd (.tmp 16) rfl b (off + p * 2) rfl [.int .i64 x, .int .i64 y] _ SGN.out undNd.choose_spec.1 undNd.choose_spec.2 (by kernel_rfl) ?_
 refine wpList_plain rfl (fun K hK => ?_)
 go_simp
 refine hK _ _ ?_
 clear hK K
 obtain ⟨wa, hwa⟩ : ∃ wa, wa = v.alloc (.cells #[.int .i64 0, .int .i64 0] TNd) := ⟨_, rfl⟩
 obtain ⟨gN, hgN⟩ : ∃ gN, gN = v.heap.size := ⟨_, rfl⟩
 have ra : RowAt wa gN TNd [.int .i64 0, .int .i64 0] := by rw [hwa]; exact RowAt.new #[.int .i64 0, .int .i64 0] hgN
 have ba : Below v.heap.size v wa := by rw [hwa]; exact balloc (Below.refl _ _) _
 rw [← hwa, ← hgN]
 replace hwa := Lib.hid hwa
 replace hgN := Lib.hid hgN
 refine list_store (l := [.int .i64 x, .int .i64 y]) infoNd ra rfl rfl nd_one rfl 9 17 rfl rfl rfl ?_
 intro wb qb kb
 refine wpList_nil ?_
 have bb : Below v.heap.size v wb := kb.below ba (fun j hj => by cases hj; rw [hgN.out]; exact Nat.le_refl _)
 replace qb := Lib.hid qb
 replace bb := Lib.hid bb
 clear kb ba ra SGN
 have c0 : wb.cell? ⟨gN, 0, none⟩ = some (.int .i64 x) := qb.out.cell 0
 have c1 : wb.cell? ⟨gN, 1, none⟩ = some (.int .i64 y) := qb.out.cell 1
 go_wp2_with fail
 refine (BD.out wb).mono ?_
 rintro e1 w1 ⟨rfl, rfl⟩
 go_wp2_with fail
 refine (KD.out wb bb.out).mono ?_
 rintro e1 wc ⟨⟨l, r, rfl, hkd⟩, hbc⟩
 have zc := Lib.hid (btrans bb.out hbc)
 have qc := Lib.hid (qb.out.below hbc)
 clear c0 c1 KD BD hbc qb bb
 have c0 : wc.cell? ⟨gN, 0, none⟩ = some (.int .i64 x) := qc.out.cell 0
 have c1 : wc.cell? ⟨gN, 1, none⟩ = some (.int .i64 y) := qc.out.cell 1
 by_cases h3 : x = 3
 ·have h3B : (x == 3) = true := by rw [h3]; rfl
  obtain ⟨hy0, hyN, hny⟩ := NY.out h3
  obtain ⟨nb, noff, ena, hnc⟩ := (NSB.out wc zc.out) (by omega)
  have ny := hnc y.toNat hyN
  rw [← hny, ← TXL.out.1 h3, ← hst.out] at ny
  subst ena
  have hyI : y < (nn : Int) := by have := hnn.out; omega
  have zz := zc
  clear h3 hnc hny NSB
  go_upto_region 6 with (fail)
  by_cases hlt : bn < asks
  ·have hltI : (bn : Int) < (asks : Int) := by omega
   have hr := Lib.hid (F1.out hlt)
   have h40 : ((⟨#[40]⟩ : ByteArray).size : Int) = 1 := rfl
   have h41 : ((⟨#[41]⟩ : ByteArray).size : Int) = 1 := rfl
   have h4q : ((⟨#[40]⟩ ++ st : ByteArray).size : Int) ≤ 481 := by rw [ByteArray.size_append]; have : (⟨#[40]⟩ : ByteArray).size = 1 := rfl; omega
   clear hlt F1 F2
   go_wp2
   go_ret
   exact ⟨by rw [← hr.out]; rfl, zz.out⟩
  ·have hltI : ¬ (bn : Int) < (asks : Int) := by omega
   have hr := Lib.hid (F2.out hlt)
   clear hlt F1 F2
   go_wp2
   go_ret
   exact ⟨by rw [← hr.out]; rfl, zz.out⟩
 ·have h3B : (x == 3) = false := by rw [beq_eq_false_iff_ne]; exact h3
  have hsg := Lib.hid (fun u => SGB.out u x (.inl ⟨ok.1.1, h3⟩))
  rw [← TXL.out.2 h3, ← hst.out] at hsg
  have zz := zc
  have h12 : x = 1 ∨ x = 2 := by
   have h := ok.1.1
   unfold takesP at h
   split at h
   ·omega
   ·split at h
    ·cases h
    ·split at h <;> cases h
  clear h3 SGB NSB
  rcases h12 with h12 | h12
  ·have h1B : (x == 1) = true := by rw [h12]; rfl
   clear h12
   go_wp2_with fail
   refine (hsg.out wc).mono ?_
   rintro e1 w1 ⟨rfl, rfl⟩
   go_upto_region 16 with (fail)
   by_cases hlt : bn < asks
   ·have hltI : (bn : Int) < (asks : Int) := by omega
    have hr := Lib.hid (F1.out hlt)
    have h40 : ((⟨#[40]⟩ : ByteArray).size : Int) = 1 := rfl
    have h41 : ((⟨#[41]⟩ : ByteArray).size : Int) = 1 := rfl
    have h4q : ((⟨#[40]⟩ ++ st : ByteArray).size : Int) ≤ 481 := by rw [ByteArray.size_append]; have : (⟨#[40]⟩ : ByteArray).size = 1 := rfl; omega
    clear hlt F1 F2
    go_wp2
    go_ret
    exact ⟨by rw [← hr.out]; rfl, zz.out⟩
   ·have hltI : ¬ (bn : Int) < (asks : Int) := by omega
    have hr := Lib.hid (F2.out hlt)
    clear hlt F1 F2
    go_wp2
    go_ret
    exact ⟨by rw [← hr.out]; rfl, zz.out⟩
  ·have h1B : (x == 1) = false := by rw [h12]; rfl
   have h2B : (x == 2) = true := by rw [h12]; rfl
   clear h12
   go_wp2_with fail
   refine (hsg.out wc).mono ?_
   rintro e1 w1 ⟨rfl, rfl⟩
   go_upto_region 16 with (fail)
   by_cases hlt : bn < asks
   ·have hltI : (bn : Int) < (asks : Int) := by omega
    have hr := Lib.hid (F1.out hlt)
    have h40 : ((⟨#[40]⟩ : ByteArray).size : Int) = 1 := rfl
    have h41 : ((⟨#[41]⟩ : ByteArray).size : Int) = 1 := rfl
    have h4q : ((⟨#[40]⟩ ++ st : ByteArray).size : Int) ≤ 481 := by rw [ByteArray.size_append]; have : (⟨#[40]⟩ : ByteArray).size = 1 := rfl; omega
    clear hlt F1 F2
    go_wp2
    go_ret
    exact ⟨by rw [← hr.out]; rfl, zz.out⟩
   ·have hltI : ¬ (bn : Int) < (asks : Int) := by omega
    have hr := Lib.hid (F2.out hlt)
    clear hlt F1 F2
    go_wp2
    go_ret
    exact ⟨by rw [← hr.out]; rfl, zz.out⟩
theorem binds_lr {x : Int} {bn : Nat} (h : takesP x = 2) (hb : bn = bindsP x) : (bn = 4 ∨ bn = 1 → leftP x = bn + 1 ∧ rightP x = bn) ∧ (¬ (bn = 4 ∨ bn = 1) → leftP x = bn ∧ rightP x = bn + 1) := by
 subst hb
 rcases binds_two h with ⟨_, h1, h2, h3⟩ | ⟨_, h1, h2, h3⟩ | ⟨_, h1, h2, h3⟩ | ⟨_, h1, h2, h3⟩ <;> (rw [h1, h2, h3]; decide)
set_option maxRecDepth 8000 in
set_option maxHeartbeats 8000000 in
theorem laid_un (w : World) (a : Option Addr) (c : Nat) (f : List Nd) (na : Option Addr) (nc : Nat) (N : List (List UInt8)) (X : LdX w a c f na nc N) (nm : Int → List UInt8) (hnm : nm = nmP N) (x y : Int) (u : Fm) (pre suf : List Nd) (e : f = pre ++ ((Fm.un (x, y) u).post ++ suf)) (ok : OkN N (Fm.un (x, y) u)) (IA : LaidC w a c na nc f.length N.length nm u (pre.length + u.post.length - 1)) : LaidC w a c na nc f.length N.length nm (Fm.un (x, y) u) (pre.length + (Fm.un (x, y) u).post.length - 1) := by
 intro asks v hasks hb
 have hpos := (Fm.un (x, y) u).post_pos
 obtain ⟨p, hpd⟩ : ∃ p, p = pre.length + (Fm.un (x, y) u).post.length - 1 := ⟨_, rfl⟩
 rw [← hpd]
 have hfl : f.length = pre.length + ((Fm.un (x, y) u).post.length + suf.length) := by rw [e, List.length_append, List.length_append]
 have hp : p < f.length := by omega
 have hh := head_node e
 rw [← hpd, List.getElem?_eq_getElem hp] at hh
 have hxp : f[p] = (x, y) := Option.some.inj hh
 have hshort : (txt nm (Fm.un (x, y) u)).length ≤ 480 := by
  have h2 := (txt_len nm (Fm.un (x, y) u) (by rw [hnm]; exact goodNm_of N _ ok.2)).1
  have := X.fl
  omega
 have KD := fun u (hu : Below v.heap.size v u) => rkids_any u a c f (X.nd.below (btrans hb hu)) (by have := X.fl; omega) X.ok p hp (fun h => (by have := ok.1.1; rw [hxp] at h; exact absurd (h.symm.trans this) (by decide))) (by rw [hxp]; exact (by have := ok.1.1; omega))
 rw [hxp] at KD
 obtain ⟨res, hres⟩ : ∃ res : ByteArray, res = ⟨(brk asks (txt nm (Fm.un (x, y) u)) (bindsP (Fm.un (x, y) u).head.1)).toArray⟩ := ⟨_, rfl⟩
 rw [← hres]
 obtain ⟨pa, hpa0⟩ : ∃ pa, pa = pre.length + u.post.length - 1 := ⟨_, rfl⟩
 have hup := u.post_pos
 have hpl : (Fm.un (x, y) u).post.length = u.post.length + 1 := by rw [Fm.post, List.length_append]; rfl
 have hpa : (p : Int) - 1 = (pa : Int) := by omega
 have hp1I : (1 : Int) ≤ (p : Int) := by omega
 rw [← hpa0] at IA
 have hsu := brk_size (s := txt nm u) 5 (bindsP u.head.1) (by
  have h2 := (txt_len nm u (by rw [hnm]; exact goodNm_of N _ ok.2)).1
  have := X.fl
  omega)
 have htx := un_txt nm (x, y) u
 have htx4 := not_txt nm (x, y) u
 have IA5 := fun u0 hu => IA 5 u0 (by decide) hu
 rw [show ((5 : Nat) : Int) = 5 from rfl] at IA5
 obtain ⟨lu, hlu⟩ : ∃ lu : ByteArray, lu = ⟨(brk 5 (txt nm u) (bindsP u.head.1)).toArray⟩ := ⟨_, rfl⟩
 rw [← hlu] at IA5 hsu htx htx4
 replace hpa0 := Lib.hid hpa0
 replace hlu := Lib.hid hlu
 replace htx := Lib.hid htx
 replace htx4 := Lib.hid htx4
 clear IA
 obtain ⟨b, off, ea, hc⟩ := (X.nd.below hb) (by omega)
 have SGN := NdAt.range (hc p hp)
 rw [hxp] at SGN
 dsimp only at SGN KD
 subst ea
 obtain ⟨st, hst⟩ : ∃ st : ByteArray, st = ⟨(txt nm (Fm.un (x, y) u)).toArray⟩ := ⟨_, rfl⟩
 obtain ⟨F1, F2⟩ := brk_fin (asks := asks) (b := bindsP (Fm.un (x, y) u).head.1) hst
 rw [← hres] at F1 F2
 have hsts : (st.size : Int) ≤ 480 := by rw [hst, str_sz]; omega
 have hpI : (p : Int) < (f.length : Int) := by omega
 have hnI : (f.length : Int) ≤ 24 := by have := X.fl; omega
 have hnnI : (N.length : Int) ≤ 1000 := by have := X.nl; omega
 have hasI : (asks : Int) ≤ 5 := by omega
 obtain ⟨bn, hbn⟩ : ∃ bn, bn = bindsP x := ⟨_, rfl⟩
 change (bindsP x < asks → _) at F1
 change (¬ bindsP x < asks → _) at F2
 rw [← hbn] at F1 F2
 have BD := Lib.hid (fun u => rbinds_any u x)
 rw [← hbn] at BD
 have hbnI := binds_pos x
 rw [← hbn] at hbnI
 have SGB := Lib.hid (rsign_any)
 replace SGN := Lib.hid SGN
 replace F1 := Lib.hid F1
 replace F2 := Lib.hid F2
 clear hc hres hh hxp hshort hp
 obtain ⟨n, hn⟩ : ∃ n, n = f.length := ⟨_, rfl⟩
 obtain ⟨nn, hnn⟩ : ∃ nn, nn = N.length := ⟨_, rfl⟩
 rw [← hn] at KD hpI hnI IA5 ⊢
 rw [← hnn] at hnnI IA5 ⊢
 replace IA5 := Lib.hid IA5
 replace hpl := Lib.hid hpl
 replace KD := Lib.hid KD
 replace hn := Lib.hid hn
 replace hnn := Lib.hid hnn
 replace hpd := Lib.hid hpd
 replace hst := Lib.hid hst
 replace hbn := Lib.hid hbn
 replace hfl := Lib.hid hfl
 go_enter Tryz.func42, Tryz.ntmps42
 go_upto_region 1 with (fail)
 refine wp_region_list ?_
 refine wpList_plain rfl (fun K hK => ?_)
 go_simp
 refine hK _ _ ?_
 clear hK K
 refine wpList_plain rfl (fun K hK => ?_)
 go_simp
 refine hK _ _ ?_
 clear hK K
 refine wpList_plain rfl (fun K hK => ?_)
 go_simp
 refine hK _ _ ?_
 clear hK K
 refine wpList_load_mid rfl TNd (.tmp 16) rfl b (off + p * 2) rfl [.int .i64 x, .int .i64 y] _ SGN.out undNd.choose_spec.1 undNd.choose_spec.2 (by kernel_rfl) ?_
 refine wpList_plain rfl (fun K hK => ?_)
 go_simp
 refine hK _ _ ?_
 clear hK K
 obtain ⟨wa, hwa⟩ : ∃ wa, wa = v.alloc (.cells #[.int .i64 0, .int .i64 0] TNd) := ⟨_, rfl⟩
 obtain ⟨gN, hgN⟩ : ∃ gN, gN = v.heap.size := ⟨_, rfl⟩
 have ra : RowAt wa gN TNd [.int .i64 0, .int .i64 0] := by rw [hwa]; exact RowAt.new #[.int .i64 0, .int .i64 0] hgN
 have ba : Below v.heap.size v wa := by rw [hwa]; exact balloc (Below.refl _ _) _
 rw [← hwa, ← hgN]
 replace hwa := Lib.hid hwa
 replace hgN := Lib.hid hgN
 refine list_store (l := [.int .i64 x, .int .i64 y]) infoNd ra rfl rfl nd_one rfl 9 17 rfl rfl rfl ?_
 intro wb qb kb
 refine wpList_nil ?_
 have bb : Below v.heap.size v wb := kb.below ba (fun j hj => by cases hj; rw [hgN.out]; exact Nat.le_refl _)
 replace qb := Lib.hid qb
 replace bb := Lib.hid bb
 clear kb ba ra SGN
 have c0 : wb.cell? ⟨gN, 0, none⟩ = some (.int .i64 x) := qb.out.cell 0
 have c1 : wb.cell? ⟨gN, 1, none⟩ = some (.int .i64 y) := qb.out.cell 1
 go_wp2_with fail
 refine (BD.out wb).mono ?_
 rintro e1 w1 ⟨rfl, rfl⟩
 go_wp2_with fail
 refine (KD.out wb bb.out).mono ?_
 rintro e1 wc ⟨⟨l, r, rfl, hkd⟩, hbc⟩
 have zc := Lib.hid (btrans bb.out hbc)
 have qc := Lib.hid (qb.out.below hbc)
 clear c0 c1 KD BD hbc qb bb
 have c0 : wc.cell? ⟨gN, 0, none⟩ = some (.int .i64 x) := qc.out.cell 0
 have c1 : wc.cell? ⟨gN, 1, none⟩ = some (.int .i64 y) := qc.out.cell 1
 have hx1 := ok.1.1
 have hb5 : bn = 5 := by rw [hbn.out]; exact binds_one (.inl hx1)
 have hnx : x ≠ 1 ∧ x ≠ 2 ∧ x ≠ 3 := ⟨fun h => (by rw [h] at hx1; cases hx1), fun h => (by rw [h] at hx1; cases hx1), fun h => (by rw [h] at hx1; cases hx1)⟩
 have h1B : (x == 1) = false := by rw [beq_eq_false_iff_ne]; exact hnx.1
 have h2B : (x == 2) = false := by rw [beq_eq_false_iff_ne]; exact hnx.2.1
 have h3B : (x == 3) = false := by rw [beq_eq_false_iff_ne]; exact hnx.2.2
 clear hnx
 by_cases h4 : x = 4
 ·have h4B : (x == 4) = true := by rw [h4]; rfl
  have hs := Lib.hid (htx4.out h4)
  have h33 : (⟨(wordP x).toArray⟩ : ByteArray) = ⟨#[33]⟩ := by rw [h4]; rfl
  have hst2 : Hid ((⟨#[33]⟩ : ByteArray) ++ lu = st) := by
   show _ = _
   rw [← h33, hst.out]
   exact hs.out
  have h33s : ((⟨#[33]⟩ : ByteArray).size : Int) = 1 := rfl
  clear h4 hs h33 hx1 hb5
  go_wp2_with fail
  refine (IA5.out wc (btrans hb zc.out)).mono ?_
  rintro e1 w2 ⟨rfl, hb2⟩
  have zz := Lib.hid (btrans zc.out hb2)
  clear hb2 c0 c1 qc zc
  go_upto_region 16 with (fail)
  rw [hst2.out]
  by_cases hlt : bn < asks
  ·have hltI : (bn : Int) < (asks : Int) := by omega
   have hr := Lib.hid (F1.out hlt)
   have h40 : ((⟨#[40]⟩ : ByteArray).size : Int) = 1 := rfl
   have h41 : ((⟨#[41]⟩ : ByteArray).size : Int) = 1 := rfl
   have h4q : ((⟨#[40]⟩ ++ st : ByteArray).size : Int) ≤ 481 := by rw [ByteArray.size_append]; have : (⟨#[40]⟩ : ByteArray).size = 1 := rfl; omega
   clear hlt F1 F2
   go_wp2
   go_ret
   exact ⟨by rw [← hr.out]; rfl, zz.out⟩
  ·have hltI : ¬ (bn : Int) < (asks : Int) := by omega
   have hr := Lib.hid (F2.out hlt)
   clear hlt F1 F2
   go_wp2
   go_ret
   exact ⟨by rw [← hr.out]; rfl, zz.out⟩
 ·have h4B : (x == 4) = false := by rw [beq_eq_false_iff_ne]; exact h4
  have hs := Lib.hid (htx.out h4)
  have hst2 : Hid ((⟨(wordP x).toArray⟩ : ByteArray) ++ ⟨#[32]⟩ ++ lu = st) := by
   show _ = _
   rw [hst.out]
   exact hs.out
  have hsg := Lib.hid (fun u => SGB.out u x (.inr (.inl hx1)))
  have hwds := word_size x
  generalize (⟨(wordP x).toArray⟩ : ByteArray) = wd at hst2 hsg hwds
  have h32 := bl_size
  have hw32 : ((wd ++ ⟨#[32]⟩ : ByteArray).size : Int) ≤ 6 := cat_size hwds (Int.le_of_eq bl_size) (by decide)
  have hbB : ((bn : Int) == 5) = true := by rw [hb5]; rfl
  have hbN : (bn == 5) = true := by rw [hb5]; rfl
  clear h4 hs hx1 hb5
  go_wp2_with fail
  refine (hsg.out wc).mono ?_
  rintro e1 w1 ⟨rfl, rfl⟩
  go_wp2_with fail
  refine (IA5.out wc (btrans hb zc.out)).mono ?_
  rintro e1 w2 ⟨rfl, hb2⟩
  have zz := Lib.hid (btrans zc.out hb2)
  clear hb2 c0 c1 qc zc
  go_upto_region 16 with (fail)
  rw [hst2.out]
  by_cases hlt : bn < asks
  ·have hltI : (bn : Int) < (asks : Int) := by omega
   have hr := Lib.hid (F1.out hlt)
   have h40 : ((⟨#[40]⟩ : ByteArray).size : Int) = 1 := rfl
   have h41 : ((⟨#[41]⟩ : ByteArray).size : Int) = 1 := rfl
   have h4q : ((⟨#[40]⟩ ++ st : ByteArray).size : Int) ≤ 481 := by rw [ByteArray.size_append]; have : (⟨#[40]⟩ : ByteArray).size = 1 := rfl; omega
   clear hlt F1 F2
   go_wp2
   go_ret
   exact ⟨by rw [← hr.out]; rfl, zz.out⟩
  ·have hltI : ¬ (bn : Int) < (asks : Int) := by omega
   have hr := Lib.hid (F2.out hlt)
   clear hlt F1 F2
   go_wp2
   go_ret
   exact ⟨by rw [← hr.out]; rfl, zz.out⟩
set_option maxRecDepth 8000 in
set_option maxHeartbeats 8000000 in
theorem laid_bin (w : World) (a : Option Addr) (c : Nat) (f : List Nd) (na : Option Addr) (nc : Nat) (N : List (List UInt8)) (X : LdX w a c f na nc N) (nm : Int → List UInt8) (hnm : nm = nmP N) (x y : Int) (u v0 : Fm) (pre suf : List Nd) (e : f = pre ++ ((Fm.bin (x, y) u v0).post ++ suf)) (ok : OkN N (Fm.bin (x, y) u v0)) (IA : LaidC w a c na nc f.length N.length nm u (pre.length + u.post.length - 1)) (IB : LaidC w a c na nc f.length N.length nm v0 ((pre ++ u.post).length + v0.post.length - 1)) : LaidC w a c na nc f.length N.length nm (Fm.bin (x, y) u v0) (pre.length + (Fm.bin (x, y) u v0).post.length - 1) := by
 intro asks v hasks hb
 have hpos := (Fm.bin (x, y) u v0).post_pos
 have hup := u.post_pos
 have hvp := v0.post_pos
 have hpl : (Fm.bin (x, y) u v0).post.length = u.post.length + v0.post.length + 1 := by rw [Fm.post, List.length_append, List.length_append]; simp only [List.length_cons, List.length_nil]; omega
 obtain ⟨p, hpd⟩ : ∃ p, p = pre.length + (Fm.bin (x, y) u v0).post.length - 1 := ⟨_, rfl⟩
 rw [← hpd]
 have hfl : f.length = pre.length + ((Fm.bin (x, y) u v0).post.length + suf.length) := by rw [e, List.length_append, List.length_append]
 have hp : p < f.length := by omega
 have hh := head_node e
 rw [← hpd, List.getElem?_eq_getElem hp] at hh
 have hxp : f[p] = (x, y) := Option.some.inj hh
 have hshort : (txt nm (Fm.bin (x, y) u v0)).length ≤ 480 := by
  have h2 := (txt_len nm (Fm.bin (x, y) u v0) (by rw [hnm]; exact goodNm_of N _ ok.2)).1
  have := X.fl
  omega
 have KD := fun u (hu : Below v.heap.size v u) => rkids_any u a c f (X.nd.below (btrans hb hu)) (by have := X.fl; omega) X.ok p hp (fun h => (by omega)) (by rw [hxp]; exact (by have := ok.1.1; omega))
 rw [hxp] at KD
 obtain ⟨res, hres⟩ : ∃ res : ByteArray, res = ⟨(brk asks (txt nm (Fm.bin (x, y) u v0)) (bindsP (Fm.bin (x, y) u v0).head.1)).toArray⟩ := ⟨_, rfl⟩
 rw [← hres]
 obtain ⟨pa, hpa⟩ : ∃ pa, pa = pre.length + u.post.length - 1 := ⟨_, rfl⟩
 obtain ⟨pb, hpb⟩ : ∃ pb, pb = (pre ++ u.post).length + v0.post.length - 1 := ⟨_, rfl⟩
 have hpbl : pb = pre.length + u.post.length + v0.post.length - 1 := by rw [hpb, List.length_append]
 have hsa := span_at (f := f) (pre := pre ++ u.post) (suf := [(x, y)] ++ suf) (t := v0) ok.1.2.2 (by rw [e, Fm.post]; simp)
 rw [← hpb, List.length_append] at hsa
 have hpp : pb = p - 1 := by omega
 rw [hpp] at hsa
 have SA : Hid (∀ l r : Int, (takesP x = 2 → ∀ q, (spanG f 0 [])[p - 1]? = some q → l = (q : Int) - 1 ∧ r = (p : Int) - 1) → l = (pa : Int) ∧ r = (pb : Int)) := fun l r h => by
  have h1 := h ok.1.1 _ hsa
  omega
 rw [← hpa] at IA
 rw [← hpb] at IB
 have hsu := brk_size (s := txt nm u) (leftP x) (bindsP u.head.1) (by
  have h2 := (txt_len nm u (by rw [hnm]; exact goodNm_of N _ ok.2.1)).1
  have := X.fl
  omega)
 have hsv := brk_size (s := txt nm v0) (rightP x) (bindsP v0.head.1) (by
  have h2 := (txt_len nm v0 (by rw [hnm]; exact goodNm_of N _ ok.2.2)).1
  have := X.fl
  omega)
 have htx := bin_txt nm (x, y) u v0
 dsimp only at htx
 have IA5 := fun u0 hu => IA (leftP x) u0 (by have h2 : takesP x = 2 := ok.1.1; rcases binds_two h2 with h | h | h | h <;> omega) hu
 have IB5 := fun u0 hu => IB (rightP x) u0 (by have h2 : takesP x = 2 := ok.1.1; rcases binds_two h2 with h | h | h | h <;> omega) hu
 obtain ⟨la, hla⟩ : ∃ la : ByteArray, la = ⟨(brk (leftP x) (txt nm u) (bindsP u.head.1)).toArray⟩ := ⟨_, rfl⟩
 obtain ⟨rb, hrb⟩ : ∃ rb : ByteArray, rb = ⟨(brk (rightP x) (txt nm v0) (bindsP v0.head.1)).toArray⟩ := ⟨_, rfl⟩
 rw [← hla] at IA5 hsu htx
 rw [← hrb] at IB5 hsv htx
 replace hpa := Lib.hid hpa
 replace hpb := Lib.hid hpb
 replace hpbl := Lib.hid hpbl
 replace hpp := Lib.hid hpp
 replace hla := Lib.hid hla
 replace hrb := Lib.hid hrb
 replace htx := Lib.hid htx
 replace hpl := Lib.hid hpl
 clear IA IB hsa
 obtain ⟨b, off, ea, hc⟩ := (X.nd.below hb) (by omega)
 have SGN := NdAt.range (hc p hp)
 rw [hxp] at SGN
 dsimp only at SGN KD
 subst ea
 obtain ⟨st, hst⟩ : ∃ st : ByteArray, st = ⟨(txt nm (Fm.bin (x, y) u v0)).toArray⟩ := ⟨_, rfl⟩
 obtain ⟨F1, F2⟩ := brk_fin (asks := asks) (b := bindsP (Fm.bin (x, y) u v0).head.1) hst
 rw [← hres] at F1 F2
 have hsts : (st.size : Int) ≤ 480 := by rw [hst, str_sz]; omega
 have hpI : (p : Int) < (f.length : Int) := by omega
 have hnI : (f.length : Int) ≤ 24 := by have := X.fl; omega
 have hnnI : (N.length : Int) ≤ 1000 := by have := X.nl; omega
 have hasI : (asks : Int) ≤ 5 := by omega
 obtain ⟨bn, hbn⟩ : ∃ bn, bn = bindsP x := ⟨_, rfl⟩
 change (bindsP x < asks → _) at F1
 change (¬ bindsP x < asks → _) at F2
 rw [← hbn] at F1 F2
 have BD := Lib.hid (fun u => rbinds_any u x)
 rw [← hbn] at BD
 have hbnI := binds_pos x
 rw [← hbn] at hbnI
 have SGB := Lib.hid (rsign_any)
 replace SGN := Lib.hid SGN
 replace F1 := Lib.hid F1
 replace F2 := Lib.hid F2
 clear hc hres hh hxp hshort hp
 obtain ⟨n, hn⟩ : ∃ n, n = f.length := ⟨_, rfl⟩
 obtain ⟨nn, hnn⟩ : ∃ nn, nn = N.length := ⟨_, rfl⟩
 rw [← hn] at KD hpI hnI IA5 IB5 ⊢
 rw [← hnn] at hnnI IA5 IB5 ⊢
 replace IA5 := Lib.hid IA5
 replace IB5 := Lib.hid IB5
 replace KD := Lib.hid KD
 replace hn := Lib.hid hn
 replace hnn := Lib.hid hnn
 replace hpd := Lib.hid hpd
 replace hst := Lib.hid hst
 replace hbn := Lib.hid hbn
 replace hfl := Lib.hid hfl
 go_enter Tryz.func42, Tryz.ntmps42
 go_upto_region 1 with (fail)
 refine wp_region_list ?_
 refine wpList_plain rfl (fun K hK => ?_)
 go_simp
 refine hK _ _ ?_
 clear hK K
 refine wpList_plain rfl (fun K hK => ?_)
 go_simp
 refine hK _ _ ?_
 clear hK K
 refine wpList_plain rfl (fun K hK => ?_)
 go_simp
 refine hK _ _ ?_
 clear hK K
 refine wpList_load_mid rfl TNd (.tmp 16) rfl b (off + p * 2) rfl [.int .i64 x, .int .i64 y] _ SGN.out undNd.choose_spec.1 undNd.choose_spec.2 (by kernel_rfl) ?_
 refine wpList_plain rfl (fun K hK => ?_)
 go_simp
 refine hK _ _ ?_
 clear hK K
 obtain ⟨wa, hwa⟩ : ∃ wa, wa = v.alloc (.cells #[.int .i64 0, .int .i64 0] TNd) := ⟨_, rfl⟩
 obtain ⟨gN, hgN⟩ : ∃ gN, gN = v.heap.size := ⟨_, rfl⟩
 have ra : RowAt wa gN TNd [.int .i64 0, .int .i64 0] := by rw [hwa]; exact RowAt.new #[.int .i64 0, .int .i64 0] hgN
 have ba : Below v.heap.size v wa := by rw [hwa]; exact balloc (Below.refl _ _) _
 rw [← hwa, ← hgN]
 replace hwa := Lib.hid hwa
 replace hgN := Lib.hid hgN
 refine list_store (l := [.int .i64 x, .int .i64 y]) infoNd ra rfl rfl nd_one rfl 9 17 rfl rfl rfl ?_
 intro wb qb kb
 refine wpList_nil ?_
 have bb : Below v.heap.size v wb := kb.below ba (fun j hj => by cases hj; rw [hgN.out]; exact Nat.le_refl _)
 replace qb := Lib.hid qb
 replace bb := Lib.hid bb
 clear kb ba ra SGN
 have c0 : wb.cell? ⟨gN, 0, none⟩ = some (.int .i64 x) := qb.out.cell 0
 have c1 : wb.cell? ⟨gN, 1, none⟩ = some (.int .i64 y) := qb.out.cell 1
 go_wp2_with fail
 refine (BD.out wb).mono ?_
 rintro e1 w1 ⟨rfl, rfl⟩
 go_wp2_with fail
 refine (KD.out wb bb.out).mono ?_
 rintro e1 wc ⟨⟨l, r, rfl, hkd⟩, hbc⟩
 have zc := Lib.hid (btrans bb.out hbc)
 have qc := Lib.hid (qb.out.below hbc)
 clear c0 c1 KD BD hbc qb bb
 have c0 : wc.cell? ⟨gN, 0, none⟩ = some (.int .i64 x) := qc.out.cell 0
 have c1 : wc.cell? ⟨gN, 1, none⟩ = some (.int .i64 y) := qc.out.cell 1
 obtain ⟨el, er⟩ := SA.out l r hkd
 subst el
 subst er
 clear hkd
 have hx1 := ok.1.1
 have hnx : x ≠ 1 ∧ x ≠ 2 ∧ x ≠ 3 ∧ x ≠ 4 := ⟨fun h => (by rw [h] at hx1; cases hx1), fun h => (by rw [h] at hx1; cases hx1), fun h => (by rw [h] at hx1; cases hx1), fun h => (by rw [h] at hx1; cases hx1)⟩
 have h1B : (x == 1) = false := by rw [beq_eq_false_iff_ne]; exact hnx.1
 have h2B : (x == 2) = false := by rw [beq_eq_false_iff_ne]; exact hnx.2.1
 have h3B : (x == 3) = false := by rw [beq_eq_false_iff_ne]; exact hnx.2.2.1
 have h4B : (x == 4) = false := by rw [beq_eq_false_iff_ne]; exact hnx.2.2.2
 have hst2 : Hid (la ++ ⟨#[32]⟩ ++ ⟨(wordP x).toArray⟩ ++ ⟨#[32]⟩ ++ rb = st) := by
  show _ = _
  rw [hst.out]
  exact htx.out
 have hsg := Lib.hid (fun u => SGB.out u x (.inr (.inr hx1)))
 have hwds := word_size x
 have hbx := binds_two hx1
 rw [← hbn.out] at hbx
 have hb4 : bn ≤ 4 := by omega
 have h5B : ((bn : Int) == 5) = false := by rw [beq_eq_false_iff_ne]; omega
 have h5N : (bn == 5) = false := by rw [beq_eq_false_iff_ne]; omega
 generalize (⟨(wordP x).toArray⟩ : ByteArray) = wd at hst2 hsg hwds
 have h32 := bl_size
 have z1s : ((la ++ ⟨#[32]⟩ : ByteArray).size : Int) ≤ 483 := cat_size hsu (Int.le_of_eq bl_size) (by decide)
 have z2s : ((la ++ ⟨#[32]⟩ ++ wd : ByteArray).size : Int) ≤ 488 := cat_size z1s hwds (by decide)
 have z3s : ((la ++ ⟨#[32]⟩ ++ wd ++ ⟨#[32]⟩ : ByteArray).size : Int) ≤ 489 := cat_size z2s (Int.le_of_eq bl_size) (by decide)
 have wrb : IntKind.i64.wrap ((bn : Int) + 1) = (bn : Int) + 1 := IntWalk.i64_in _ (by omega)
 have ge0 : (0 : Int) ≤ (bn : Int) + 1 := by omega
 clear hnx
 by_cases hb41 : bn = 4 ∨ bn = 1
 ·have hlr : leftP x = bn + 1 ∧ rightP x = bn := (binds_lr hx1 hbn.out).1 hb41
  have e1 : ((leftP x : Nat) : Int) = (bn : Int) + 1 := by omega
  have e2 : ((rightP x : Nat) : Int) = (bn : Int) := by omega
  have IA6 := IA5.out
  have IB6 := IB5.out
  rw [e1] at IA6
  rw [e2] at IB6
  replace IA6 := Lib.hid IA6
  replace IB6 := Lib.hid IB6
  clear IA5 IB5 e1 e2 hlr hbx hx1
  rcases hb41 with h | h
  ·have hB4 : ((bn : Int) == 4) = true := by rw [h]; rfl
   have hN4 : (bn == 4) = true := by rw [h]; rfl
   clear h
   go_upto_region 14 with (fail)
   refine wp_region_kp (by kernel_rfl) 18 [.fix (.slice (some ⟨b, off, none⟩) n c), .fix (.slice na nn nc), .fix (.int .i64 (pa : Int)), .fix (.int .i64 (bn : Int)), .fix (.int .i64 ((bn : Int) + 1)), .fix (.string la), .fix (.string (la ++ (⟨#[32]⟩ : ByteArray))), .fix (.pointer (some ⟨gN, 0, none⟩)), .fix (.int .i64 x), .fix (.string wd), .fix (.string (la ++ (⟨#[32]⟩ : ByteArray) ++ wd)), .fix (.string (la ++ (⟨#[32]⟩ : ByteArray) ++ wd ++ (⟨#[32]⟩ : ByteArray))), .fix (.slice (some ⟨b, off, none⟩) n c), .fix (.slice na nn nc), .fix (.int .i64 (pb : Int)), .fix (.int .i64 (bn : Int)), .fix (.string rb), .fix (.string (la ++ (⟨#[32]⟩ : ByteArray) ++ wd ++ (⟨#[32]⟩ : ByteArray) ++ rb))] (by kernel_rfl) (by kernel_rfl) (by kernel_rfl) ?_ ?_
   ·intro i hi
    match i, hi with
    | 0, _ =>
     intro o ho ac w' hR hF hD K hK
     simp only [zqA, zqZ, zqI] at ho
     subst ho
     have e0 : ac.tmps.getD 0 undef = .slice (some ⟨b, off, none⟩) n c := hF 0 (znd (by kernel_rfl))
     have d0 := zgD e0
     clear hD hF
     go_simp
     exact hK _ _ (Below.refl _ _) rfl
    | 1, _ =>
     intro o ho ac w' hR hF hD K hK
     simp only [zqA, zqZ, zqS, zqI] at ho
     subst ho
     have e1 : ac.tmps.getD 1 undef = .slice na nn nc := hF 1 (znd (by kernel_rfl))
     have d1 := zgD e1
     clear hD hF
     go_simp
     exact hK _ _ (Below.refl _ _) rfl
    | 2, _ =>
     intro o ho ac w' hR hF hD K hK
     simp only [zqA, zqZ, zqS, zqI] at ho
     subst ho
     have e11 : ac.tmps.getD 11 undef = .int .i64 (pa : Int) := hF 11 (znd (by kernel_rfl))
     have d11 := zgD e11
     clear hD hF
     go_simp
     exact hK _ _ (Below.refl _ _) rfl
    | 3, _ =>
     intro o ho ac w' hR hF hD K hK
     simp only [zqA, zqZ, zqS, zqI] at ho
     subst ho
     have e10 : ac.tmps.getD 10 undef = .int .i64 (bn : Int) := hF 10 (znd (by kernel_rfl))
     have d10 := zgD e10
     clear hD hF
     go_simp
     exact hK _ _ (Below.refl _ _) rfl
    | 4, _ =>
     intro o ho ac w' hR hF hD K hK
     simp only [zqA, zqZ, zqS, zqI] at ho
     subst ho
     have e76 : ac.tmps.getD 76 undef = .int .i64 (bn : Int) := hD 3 (zdp (by kernel_rfl)) 76 rfl
     have d76 := zgD e76
     clear hD hF
     go_simp
     exact hK _ _ (Below.refl _ _) rfl
    | 5, _ =>
     intro o ho ac w' hR hF hD K hK
     simp only [zqA, zqZ, zqS, zqI] at ho
     subst ho
     have e73 : ac.tmps.getD 73 undef = .slice (some ⟨b, off, none⟩) n c := hD 0 (zdp (by kernel_rfl)) 73 rfl
     have d73 := zgD e73
     have e74 : ac.tmps.getD 74 undef = .slice na nn nc := hD 1 (zdp (by kernel_rfl)) 74 rfl
     have d74 := zgD e74
     have e75 : ac.tmps.getD 75 undef = .int .i64 (pa : Int) := hD 2 (zdp (by kernel_rfl)) 75 rfl
     have d75 := zgD e75
     have e77 : ac.tmps.getD 77 undef = .int .i64 ((bn : Int) + 1) := hD 4 (zdp (by kernel_rfl)) 77 rfl
     have d77 := zgD e77
     clear hD hF
     go_simp
     refine (IA6.out w' (btrans hb (btrans zc.out hR))).mono ?_
     rintro e w2 ⟨rfl, hb2⟩
     exact hK _ _ hb2 rfl
    | 6, _ =>
     intro o ho ac w' hR hF hD K hK
     simp only [zqA, zqZ, zqS, zqI] at ho
     subst ho
     have e78 : ac.tmps.getD 78 undef = .string la := hD 5 (zdp (by kernel_rfl)) 78 rfl
     have d78 := zgD e78
     clear hD hF
     go_simp
     rw [if_neg (by omega)]
     exact hK _ _ (Below.refl _ _) rfl
    | 7, _ =>
     intro o ho ac w' hR hF hD K hK
     simp only [zqA, zqZ, zqS, zqI] at ho
     subst ho
     have e9 : ac.tmps.getD 9 undef = .pointer (some ⟨gN, 0, none⟩) := hF 9 (znd (by kernel_rfl))
     have d9 := zgD e9
     clear hD hF
     go_simp
     exact hK _ _ (Below.refl _ _) rfl
    | 8, _ =>
     intro o ho ac w' hR hF hD K hK
     simp only [zqA, zqZ, zqS, zqI] at ho
     subst ho
     have e80 : ac.tmps.getD 80 undef = .pointer (some ⟨gN, 0, none⟩) := hD 7 (zdp (by kernel_rfl)) 80 rfl
     have d80 := zgD e80
     clear hD hF
     have q0 : w'.cell? ⟨gN, 0, none⟩ = some (.int .i64 x) := bcell hR c0
     go_simp
     exact hK _ _ (Below.refl _ _) rfl
    | 9, _ =>
     intro o ho ac w' hR hF hD K hK
     simp only [zqA, zqZ, zqS, zqI] at ho
     subst ho
     have e78 : ac.tmps.getD 78 undef = .string la := hD 5 (zdp (by kernel_rfl)) 78 rfl
     have d78 := zgD e78
     have e81 : ac.tmps.getD 81 undef = .int .i64 x := hD 8 (zdp (by kernel_rfl)) 81 rfl
     have d81 := zgD e81
     clear hD hF
     go_simp
     refine (hsg.out w').mono ?_
     rintro e w2 ⟨rfl, rfl⟩
     exact hK _ _ (Below.refl _ _) rfl
    | 10, _ =>
     intro o ho ac w' hR hF hD K hK
     simp only [zqA, zqZ, zqS, zqI] at ho
     subst ho
     have e79 : ac.tmps.getD 79 undef = .string (la ++ (⟨#[32]⟩ : ByteArray)) := hD 6 (zdp (by kernel_rfl)) 79 rfl
     have d79 := zgD e79
     have e82 : ac.tmps.getD 82 undef = .string wd := hD 9 (zdp (by kernel_rfl)) 82 rfl
     have d82 := zgD e82
     clear hD hF
     go_simp
     rw [if_neg (by omega)]
     exact hK _ _ (Below.refl _ _) rfl
    | 11, _ =>
     intro o ho ac w' hR hF hD K hK
     simp only [zqA, zqZ, zqS, zqI] at ho
     subst ho
     have e83 : ac.tmps.getD 83 undef = .string (la ++ (⟨#[32]⟩ : ByteArray) ++ wd) := hD 10 (zdp (by kernel_rfl)) 83 rfl
     have d83 := zgD e83
     clear hD hF
     go_simp
     rw [if_neg (by omega)]
     exact hK _ _ (Below.refl _ _) rfl
    | 12, _ =>
     intro o ho ac w' hR hF hD K hK
     simp only [zqA, zqZ, zqS, zqI] at ho
     subst ho
     have e0 : ac.tmps.getD 0 undef = .slice (some ⟨b, off, none⟩) n c := hF 0 (znd (by kernel_rfl))
     have d0 := zgD e0
     clear hD hF
     go_simp
     exact hK _ _ (Below.refl _ _) rfl
    | 13, _ =>
     intro o ho ac w' hR hF hD K hK
     simp only [zqA, zqZ, zqS, zqI] at ho
     subst ho
     have e1 : ac.tmps.getD 1 undef = .slice na nn nc := hF 1 (znd (by kernel_rfl))
     have d1 := zgD e1
     clear hD hF
     go_simp
     exact hK _ _ (Below.refl _ _) rfl
    | 14, _ =>
     intro o ho ac w' hR hF hD K hK
     simp only [zqA, zqZ, zqS, zqI] at ho
     subst ho
     have e12 : ac.tmps.getD 12 undef = .int .i64 (pb : Int) := hF 12 (znd (by kernel_rfl))
     have d12 := zgD e12
     clear hD hF
     go_simp
     exact hK _ _ (Below.refl _ _) rfl
    | 15, _ =>
     intro o ho ac w' hR hF hD K hK
     simp only [zqA, zqZ, zqS, zqI] at ho
     subst ho
     have e10 : ac.tmps.getD 10 undef = .int .i64 (bn : Int) := hF 10 (znd (by kernel_rfl))
     have d10 := zgD e10
     clear hD hF
     go_simp
     exact hK _ _ (Below.refl _ _) rfl
    | 16, _ =>
     intro o ho ac w' hR hF hD K hK
     simp only [zqA, zqZ, zqS, zqI] at ho
     subst ho
     have e82 : ac.tmps.getD 82 undef = .string wd := hD 9 (zdp (by kernel_rfl)) 82 rfl
     have d82 := zgD e82
     have e85 : ac.tmps.getD 85 undef = .slice (some ⟨b, off, none⟩) n c := hD 12 (zdp (by kernel_rfl)) 85 rfl
     have d85 := zgD e85
     have e86 : ac.tmps.getD 86 undef = .slice na nn nc := hD 13 (zdp (by kernel_rfl)) 86 rfl
     have d86 := zgD e86
     have e87 : ac.tmps.getD 87 undef = .int .i64 (pb : Int) := hD 14 (zdp (by kernel_rfl)) 87 rfl
     have d87 := zgD e87
     have e88 : ac.tmps.getD 88 undef = .int .i64 (bn : Int) := hD 15 (zdp (by kernel_rfl)) 88 rfl
     have d88 := zgD e88
     clear hD hF
     go_simp
     refine (IB6.out w' (btrans hb (btrans zc.out hR))).mono ?_
     rintro e w2 ⟨rfl, hb2⟩
     exact hK _ _ hb2 rfl
    | 17, _ =>
     intro o ho ac w' hR hF hD K hK
     simp only [zqA, zqZ, zqS, zqI] at ho
     subst ho
     have e84 : ac.tmps.getD 84 undef = .string (la ++ (⟨#[32]⟩ : ByteArray) ++ wd ++ (⟨#[32]⟩ : ByteArray)) := hD 11 (zdp (by kernel_rfl)) 84 rfl
     have d84 := zgD e84
     have e89 : ac.tmps.getD 89 undef = .string rb := hD 16 (zdp (by kernel_rfl)) 89 rfl
     have d89 := zgD e89
     clear hD hF
     go_simp
     rw [if_neg (by omega)]
     exact hK _ _ (Below.refl _ _) rfl
    | k + 18, hk => omega
   ·rintro ⟨tm, df⟩ w5 hdf hsz hF hR9 hV
    obtain rfl : df = [] := hdf
    obtain ⟨q, rfl⟩ := frame116 tm hsz
    have k90 : q 90 = .string (la ++ (⟨#[32]⟩ : ByteArray) ++ wd ++ (⟨#[32]⟩ : ByteArray) ++ rb) := hV 17 90 (by decide) rfl
    simp only [k90]
    clear k90
    have kk := zbk hF [0, 1, 2, 3, 4, 5, 6, 7, 8, 9, 10, 11, 12, 13, 14, 15, 16, 17, 18, 19, 20, 21, 22, 23, 24, 25, 26, 27, 28, 29, 30, 31, 32, 33, 34, 35, 36, 37, 38, 39, 40, 41, 42, 43, 44, 45, 46, 47, 48, 49, 50, 51, 52, 53, 54, 55, 56, 57, 58, 59, 60, 61, 62, 63, 64, 65, 66, 67, 68, 69, 70, 71, 72, 91, 92, 93, 94, 95, 96, 97, 98, 99, 100, 101, 102, 103, 104, 105, 106, 107, 108, 109, 110, 111, 112, 113, 114, 115] (by kernel_rfl)
    simp only [Bk, Array.getD_eq_getD_getElem?, zqA, zqS, zqZ, Option.getD_some] at kk
    simp only [kk]
    clear kk
    clear hF hV hsz
    change wpAny _ _ _ _ 1 _ _ _
    refine wpAny_ready (rs := [18]) (by kernel_rfl) (by simp) ?_
    refine AllReady.cons (i := 18) rfl (fun K hK => ?_) AllReady.nil
    go_simp
    refine hK _ _ ?_
    clear hK K
    refine ⟨by kernel_rfl, ?_⟩
    have zz := Lib.hid (btrans zc.out hR9)
    clear hR9 c0 c1 qc zc wrb z1s z2s z3s
    rw [hst2.out]
    by_cases hlt : bn < asks
    ·have hltI : (bn : Int) < (asks : Int) := by omega
     have hr := Lib.hid (F1.out hlt)
     have h40 : ((⟨#[40]⟩ : ByteArray).size : Int) = 1 := rfl
     have h41 : ((⟨#[41]⟩ : ByteArray).size : Int) = 1 := rfl
     have h4q : ((⟨#[40]⟩ ++ st : ByteArray).size : Int) ≤ 481 := by rw [ByteArray.size_append]; have : (⟨#[40]⟩ : ByteArray).size = 1 := rfl; omega
     clear hlt F1 F2
     go_wp2
     go_ret
     exact ⟨by rw [← hr.out]; rfl, zz.out⟩
    ·have hltI : ¬ (bn : Int) < (asks : Int) := by omega
     have hr := Lib.hid (F2.out hlt)
     clear hlt F1 F2
     go_wp2
     go_ret
     exact ⟨by rw [← hr.out]; rfl, zz.out⟩
  ·have hB4 : ((bn : Int) == 4) = false := by rw [h]; rfl
   have hN4 : (bn == 4) = false := by rw [h]; rfl
   have hB1 : ((bn : Int) == 1) = true := by rw [h]; rfl
   have hN1 : (bn == 1) = true := by rw [h]; rfl
   clear h
   go_upto_region 14 with (fail)
   refine wp_region_kp (by kernel_rfl) 18 [.fix (.slice (some ⟨b, off, none⟩) n c), .fix (.slice na nn nc), .fix (.int .i64 (pa : Int)), .fix (.int .i64 (bn : Int)), .fix (.int .i64 ((bn : Int) + 1)), .fix (.string la), .fix (.string (la ++ (⟨#[32]⟩ : ByteArray))), .fix (.pointer (some ⟨gN, 0, none⟩)), .fix (.int .i64 x), .fix (.string wd), .fix (.string (la ++ (⟨#[32]⟩ : ByteArray) ++ wd)), .fix (.string (la ++ (⟨#[32]⟩ : ByteArray) ++ wd ++ (⟨#[32]⟩ : ByteArray))), .fix (.slice (some ⟨b, off, none⟩) n c), .fix (.slice na nn nc), .fix (.int .i64 (pb : Int)), .fix (.int .i64 (bn : Int)), .fix (.string rb), .fix (.string (la ++ (⟨#[32]⟩ : ByteArray) ++ wd ++ (⟨#[32]⟩ : ByteArray) ++ rb))] (by kernel_rfl) (by kernel_rfl) (by kernel_rfl) ?_ ?_
   ·intro i hi
    match i, hi with
    | 0, _ =>
     intro o ho ac w' hR hF hD K hK
     simp only [zqA, zqZ, zqI] at ho
     subst ho
     have e0 : ac.tmps.getD 0 undef = .slice (some ⟨b, off, none⟩) n c := hF 0 (znd (by kernel_rfl))
     have d0 := zgD e0
     clear hD hF
     go_simp
     exact hK _ _ (Below.refl _ _) rfl
    | 1, _ =>
     intro o ho ac w' hR hF hD K hK
     simp only [zqA, zqZ, zqS, zqI] at ho
     subst ho
     have e1 : ac.tmps.getD 1 undef = .slice na nn nc := hF 1 (znd (by kernel_rfl))
     have d1 := zgD e1
     clear hD hF
     go_simp
     exact hK _ _ (Below.refl _ _) rfl
    | 2, _ =>
     intro o ho ac w' hR hF hD K hK
     simp only [zqA, zqZ, zqS, zqI] at ho
     subst ho
     have e11 : ac.tmps.getD 11 undef = .int .i64 (pa : Int) := hF 11 (znd (by kernel_rfl))
     have d11 := zgD e11
     clear hD hF
     go_simp
     exact hK _ _ (Below.refl _ _) rfl
    | 3, _ =>
     intro o ho ac w' hR hF hD K hK
     simp only [zqA, zqZ, zqS, zqI] at ho
     subst ho
     have e10 : ac.tmps.getD 10 undef = .int .i64 (bn : Int) := hF 10 (znd (by kernel_rfl))
     have d10 := zgD e10
     clear hD hF
     go_simp
     exact hK _ _ (Below.refl _ _) rfl
    | 4, _ =>
     intro o ho ac w' hR hF hD K hK
     simp only [zqA, zqZ, zqS, zqI] at ho
     subst ho
     have e76 : ac.tmps.getD 76 undef = .int .i64 (bn : Int) := hD 3 (zdp (by kernel_rfl)) 76 rfl
     have d76 := zgD e76
     clear hD hF
     go_simp
     exact hK _ _ (Below.refl _ _) rfl
    | 5, _ =>
     intro o ho ac w' hR hF hD K hK
     simp only [zqA, zqZ, zqS, zqI] at ho
     subst ho
     have e73 : ac.tmps.getD 73 undef = .slice (some ⟨b, off, none⟩) n c := hD 0 (zdp (by kernel_rfl)) 73 rfl
     have d73 := zgD e73
     have e74 : ac.tmps.getD 74 undef = .slice na nn nc := hD 1 (zdp (by kernel_rfl)) 74 rfl
     have d74 := zgD e74
     have e75 : ac.tmps.getD 75 undef = .int .i64 (pa : Int) := hD 2 (zdp (by kernel_rfl)) 75 rfl
     have d75 := zgD e75
     have e77 : ac.tmps.getD 77 undef = .int .i64 ((bn : Int) + 1) := hD 4 (zdp (by kernel_rfl)) 77 rfl
     have d77 := zgD e77
     clear hD hF
     go_simp
     refine (IA6.out w' (btrans hb (btrans zc.out hR))).mono ?_
     rintro e w2 ⟨rfl, hb2⟩
     exact hK _ _ hb2 rfl
    | 6, _ =>
     intro o ho ac w' hR hF hD K hK
     simp only [zqA, zqZ, zqS, zqI] at ho
     subst ho
     have e78 : ac.tmps.getD 78 undef = .string la := hD 5 (zdp (by kernel_rfl)) 78 rfl
     have d78 := zgD e78
     clear hD hF
     go_simp
     rw [if_neg (by omega)]
     exact hK _ _ (Below.refl _ _) rfl
    | 7, _ =>
     intro o ho ac w' hR hF hD K hK
     simp only [zqA, zqZ, zqS, zqI] at ho
     subst ho
     have e9 : ac.tmps.getD 9 undef = .pointer (some ⟨gN, 0, none⟩) := hF 9 (znd (by kernel_rfl))
     have d9 := zgD e9
     clear hD hF
     go_simp
     exact hK _ _ (Below.refl _ _) rfl
    | 8, _ =>
     intro o ho ac w' hR hF hD K hK
     simp only [zqA, zqZ, zqS, zqI] at ho
     subst ho
     have e80 : ac.tmps.getD 80 undef = .pointer (some ⟨gN, 0, none⟩) := hD 7 (zdp (by kernel_rfl)) 80 rfl
     have d80 := zgD e80
     clear hD hF
     have q0 : w'.cell? ⟨gN, 0, none⟩ = some (.int .i64 x) := bcell hR c0
     go_simp
     exact hK _ _ (Below.refl _ _) rfl
    | 9, _ =>
     intro o ho ac w' hR hF hD K hK
     simp only [zqA, zqZ, zqS, zqI] at ho
     subst ho
     have e78 : ac.tmps.getD 78 undef = .string la := hD 5 (zdp (by kernel_rfl)) 78 rfl
     have d78 := zgD e78
     have e81 : ac.tmps.getD 81 undef = .int .i64 x := hD 8 (zdp (by kernel_rfl)) 81 rfl
     have d81 := zgD e81
     clear hD hF
     go_simp
     refine (hsg.out w').mono ?_
     rintro e w2 ⟨rfl, rfl⟩
     exact hK _ _ (Below.refl _ _) rfl
    | 10, _ =>
     intro o ho ac w' hR hF hD K hK
     simp only [zqA, zqZ, zqS, zqI] at ho
     subst ho
     have e79 : ac.tmps.getD 79 undef = .string (la ++ (⟨#[32]⟩ : ByteArray)) := hD 6 (zdp (by kernel_rfl)) 79 rfl
     have d79 := zgD e79
     have e82 : ac.tmps.getD 82 undef = .string wd := hD 9 (zdp (by kernel_rfl)) 82 rfl
     have d82 := zgD e82
     clear hD hF
     go_simp
     rw [if_neg (by omega)]
     exact hK _ _ (Below.refl _ _) rfl
    | 11, _ =>
     intro o ho ac w' hR hF hD K hK
     simp only [zqA, zqZ, zqS, zqI] at ho
     subst ho
     have e83 : ac.tmps.getD 83 undef = .string (la ++ (⟨#[32]⟩ : ByteArray) ++ wd) := hD 10 (zdp (by kernel_rfl)) 83 rfl
     have d83 := zgD e83
     clear hD hF
     go_simp
     rw [if_neg (by omega)]
     exact hK _ _ (Below.refl _ _) rfl
    | 12, _ =>
     intro o ho ac w' hR hF hD K hK
     simp only [zqA, zqZ, zqS, zqI] at ho
     subst ho
     have e0 : ac.tmps.getD 0 undef = .slice (some ⟨b, off, none⟩) n c := hF 0 (znd (by kernel_rfl))
     have d0 := zgD e0
     clear hD hF
     go_simp
     exact hK _ _ (Below.refl _ _) rfl
    | 13, _ =>
     intro o ho ac w' hR hF hD K hK
     simp only [zqA, zqZ, zqS, zqI] at ho
     subst ho
     have e1 : ac.tmps.getD 1 undef = .slice na nn nc := hF 1 (znd (by kernel_rfl))
     have d1 := zgD e1
     clear hD hF
     go_simp
     exact hK _ _ (Below.refl _ _) rfl
    | 14, _ =>
     intro o ho ac w' hR hF hD K hK
     simp only [zqA, zqZ, zqS, zqI] at ho
     subst ho
     have e12 : ac.tmps.getD 12 undef = .int .i64 (pb : Int) := hF 12 (znd (by kernel_rfl))
     have d12 := zgD e12
     clear hD hF
     go_simp
     exact hK _ _ (Below.refl _ _) rfl
    | 15, _ =>
     intro o ho ac w' hR hF hD K hK
     simp only [zqA, zqZ, zqS, zqI] at ho
     subst ho
     have e10 : ac.tmps.getD 10 undef = .int .i64 (bn : Int) := hF 10 (znd (by kernel_rfl))
     have d10 := zgD e10
     clear hD hF
     go_simp
     exact hK _ _ (Below.refl _ _) rfl
    | 16, _ =>
     intro o ho ac w' hR hF hD K hK
     simp only [zqA, zqZ, zqS, zqI] at ho
     subst ho
     have e82 : ac.tmps.getD 82 undef = .string wd := hD 9 (zdp (by kernel_rfl)) 82 rfl
     have d82 := zgD e82
     have e85 : ac.tmps.getD 85 undef = .slice (some ⟨b, off, none⟩) n c := hD 12 (zdp (by kernel_rfl)) 85 rfl
     have d85 := zgD e85
     have e86 : ac.tmps.getD 86 undef = .slice na nn nc := hD 13 (zdp (by kernel_rfl)) 86 rfl
     have d86 := zgD e86
     have e87 : ac.tmps.getD 87 undef = .int .i64 (pb : Int) := hD 14 (zdp (by kernel_rfl)) 87 rfl
     have d87 := zgD e87
     have e88 : ac.tmps.getD 88 undef = .int .i64 (bn : Int) := hD 15 (zdp (by kernel_rfl)) 88 rfl
     have d88 := zgD e88
     clear hD hF
     go_simp
     refine (IB6.out w' (btrans hb (btrans zc.out hR))).mono ?_
     rintro e w2 ⟨rfl, hb2⟩
     exact hK _ _ hb2 rfl
    | 17, _ =>
     intro o ho ac w' hR hF hD K hK
     simp only [zqA, zqZ, zqS, zqI] at ho
     subst ho
     have e84 : ac.tmps.getD 84 undef = .string (la ++ (⟨#[32]⟩ : ByteArray) ++ wd ++ (⟨#[32]⟩ : ByteArray)) := hD 11 (zdp (by kernel_rfl)) 84 rfl
     have d84 := zgD e84
     have e89 : ac.tmps.getD 89 undef = .string rb := hD 16 (zdp (by kernel_rfl)) 89 rfl
     have d89 := zgD e89
     clear hD hF
     go_simp
     rw [if_neg (by omega)]
     exact hK _ _ (Below.refl _ _) rfl
    | k + 18, hk => omega
   ·rintro ⟨tm, df⟩ w5 hdf hsz hF hR9 hV
    obtain rfl : df = [] := hdf
    obtain ⟨q, rfl⟩ := frame116 tm hsz
    have k90 : q 90 = .string (la ++ (⟨#[32]⟩ : ByteArray) ++ wd ++ (⟨#[32]⟩ : ByteArray) ++ rb) := hV 17 90 (by decide) rfl
    simp only [k90]
    clear k90
    have kk := zbk hF [0, 1, 2, 3, 4, 5, 6, 7, 8, 9, 10, 11, 12, 13, 14, 15, 16, 17, 18, 19, 20, 21, 22, 23, 24, 25, 26, 27, 28, 29, 30, 31, 32, 33, 34, 35, 36, 37, 38, 39, 40, 41, 42, 43, 44, 45, 46, 47, 48, 49, 50, 51, 52, 53, 54, 55, 56, 57, 58, 59, 60, 61, 62, 63, 64, 65, 66, 67, 68, 69, 70, 71, 72, 91, 92, 93, 94, 95, 96, 97, 98, 99, 100, 101, 102, 103, 104, 105, 106, 107, 108, 109, 110, 111, 112, 113, 114, 115] (by kernel_rfl)
    simp only [Bk, Array.getD_eq_getD_getElem?, zqA, zqS, zqZ, Option.getD_some] at kk
    simp only [kk]
    clear kk
    clear hF hV hsz
    change wpAny _ _ _ _ 1 _ _ _
    refine wpAny_ready (rs := [18]) (by kernel_rfl) (by simp) ?_
    refine AllReady.cons (i := 18) rfl (fun K hK => ?_) AllReady.nil
    go_simp
    refine hK _ _ ?_
    clear hK K
    refine ⟨by kernel_rfl, ?_⟩
    have zz := Lib.hid (btrans zc.out hR9)
    clear hR9 c0 c1 qc zc wrb z1s z2s z3s
    rw [hst2.out]
    by_cases hlt : bn < asks
    ·have hltI : (bn : Int) < (asks : Int) := by omega
     have hr := Lib.hid (F1.out hlt)
     have h40 : ((⟨#[40]⟩ : ByteArray).size : Int) = 1 := rfl
     have h41 : ((⟨#[41]⟩ : ByteArray).size : Int) = 1 := rfl
     have h4q : ((⟨#[40]⟩ ++ st : ByteArray).size : Int) ≤ 481 := by rw [ByteArray.size_append]; have : (⟨#[40]⟩ : ByteArray).size = 1 := rfl; omega
     clear hlt F1 F2
     go_wp2
     go_ret
     exact ⟨by rw [← hr.out]; rfl, zz.out⟩
    ·have hltI : ¬ (bn : Int) < (asks : Int) := by omega
     have hr := Lib.hid (F2.out hlt)
     clear hlt F1 F2
     go_wp2
     go_ret
     exact ⟨by rw [← hr.out]; rfl, zz.out⟩
 ·have hlr : leftP x = bn ∧ rightP x = bn + 1 := (binds_lr hx1 hbn.out).2 hb41
  have e1 : ((leftP x : Nat) : Int) = (bn : Int) := by omega
  have e2 : ((rightP x : Nat) : Int) = (bn : Int) + 1 := by omega
  have IA6 := IA5.out
  have IB6 := IB5.out
  rw [e1] at IA6
  rw [e2] at IB6
  replace IA6 := Lib.hid IA6
  replace IB6 := Lib.hid IB6
  have hB4 : ((bn : Int) == 4) = false := by rw [beq_eq_false_iff_ne]; omega
  have hN4 : (bn == 4) = false := by rw [beq_eq_false_iff_ne]; omega
  have hB1 : ((bn : Int) == 1) = false := by rw [beq_eq_false_iff_ne]; omega
  have hN1 : (bn == 1) = false := by rw [beq_eq_false_iff_ne]; omega
  clear IA5 IB5 e1 e2 hlr hbx hx1 hb41
  go_upto_region 15 with (fail)
  refine wp_region_kp (by kernel_rfl) 18 [.fix (.slice (some ⟨b, off, none⟩) n c), .fix (.slice na nn nc), .fix (.int .i64 (pa : Int)), .fix (.int .i64 (bn : Int)), .fix (.string la), .fix (.string (la ++ (⟨#[32]⟩ : ByteArray))), .fix (.pointer (some ⟨gN, 0, none⟩)), .fix (.int .i64 x), .fix (.string wd), .fix (.string (la ++ (⟨#[32]⟩ : ByteArray) ++ wd)), .fix (.string (la ++ (⟨#[32]⟩ : ByteArray) ++ wd ++ (⟨#[32]⟩ : ByteArray))), .fix (.slice (some ⟨b, off, none⟩) n c), .fix (.slice na nn nc), .fix (.int .i64 (pb : Int)), .fix (.int .i64 (bn : Int)), .fix (.int .i64 ((bn : Int) + 1)), .fix (.string rb), .fix (.string (la ++ (⟨#[32]⟩ : ByteArray) ++ wd ++ (⟨#[32]⟩ : ByteArray) ++ rb))] (by kernel_rfl) (by kernel_rfl) (by kernel_rfl) ?_ ?_
  ·intro i hi
   match i, hi with
   | 0, _ =>
    intro o ho ac w' hR hF hD K hK
    simp only [zqA, zqZ, zqI] at ho
    subst ho
    have e0 : ac.tmps.getD 0 undef = .slice (some ⟨b, off, none⟩) n c := hF 0 (znd (by kernel_rfl))
    have d0 := zgD e0
    clear hD hF
    go_simp
    exact hK _ _ (Below.refl _ _) rfl
   | 1, _ =>
    intro o ho ac w' hR hF hD K hK
    simp only [zqA, zqZ, zqS, zqI] at ho
    subst ho
    have e1 : ac.tmps.getD 1 undef = .slice na nn nc := hF 1 (znd (by kernel_rfl))
    have d1 := zgD e1
    clear hD hF
    go_simp
    exact hK _ _ (Below.refl _ _) rfl
   | 2, _ =>
    intro o ho ac w' hR hF hD K hK
    simp only [zqA, zqZ, zqS, zqI] at ho
    subst ho
    have e11 : ac.tmps.getD 11 undef = .int .i64 (pa : Int) := hF 11 (znd (by kernel_rfl))
    have d11 := zgD e11
    clear hD hF
    go_simp
    exact hK _ _ (Below.refl _ _) rfl
   | 3, _ =>
    intro o ho ac w' hR hF hD K hK
    simp only [zqA, zqZ, zqS, zqI] at ho
    subst ho
    have e10 : ac.tmps.getD 10 undef = .int .i64 (bn : Int) := hF 10 (znd (by kernel_rfl))
    have d10 := zgD e10
    clear hD hF
    go_simp
    exact hK _ _ (Below.refl _ _) rfl
   | 4, _ =>
    intro o ho ac w' hR hF hD K hK
    simp only [zqA, zqZ, zqS, zqI] at ho
    subst ho
    have e91 : ac.tmps.getD 91 undef = .slice (some ⟨b, off, none⟩) n c := hD 0 (zdp (by kernel_rfl)) 91 rfl
    have d91 := zgD e91
    have e92 : ac.tmps.getD 92 undef = .slice na nn nc := hD 1 (zdp (by kernel_rfl)) 92 rfl
    have d92 := zgD e92
    have e93 : ac.tmps.getD 93 undef = .int .i64 (pa : Int) := hD 2 (zdp (by kernel_rfl)) 93 rfl
    have d93 := zgD e93
    have e94 : ac.tmps.getD 94 undef = .int .i64 (bn : Int) := hD 3 (zdp (by kernel_rfl)) 94 rfl
    have d94 := zgD e94
    clear hD hF
    go_simp
    refine (IA6.out w' (btrans hb (btrans zc.out hR))).mono ?_
    rintro e w2 ⟨rfl, hb2⟩
    exact hK _ _ hb2 rfl
   | 5, _ =>
    intro o ho ac w' hR hF hD K hK
    simp only [zqA, zqZ, zqS, zqI] at ho
    subst ho
    have e95 : ac.tmps.getD 95 undef = .string la := hD 4 (zdp (by kernel_rfl)) 95 rfl
    have d95 := zgD e95
    clear hD hF
    go_simp
    rw [if_neg (by omega)]
    exact hK _ _ (Below.refl _ _) rfl
   | 6, _ =>
    intro o ho ac w' hR hF hD K hK
    simp only [zqA, zqZ, zqS, zqI] at ho
    subst ho
    have e9 : ac.tmps.getD 9 undef = .pointer (some ⟨gN, 0, none⟩) := hF 9 (znd (by kernel_rfl))
    have d9 := zgD e9
    clear hD hF
    go_simp
    exact hK _ _ (Below.refl _ _) rfl
   | 7, _ =>
    intro o ho ac w' hR hF hD K hK
    simp only [zqA, zqZ, zqS, zqI] at ho
    subst ho
    have e97 : ac.tmps.getD 97 undef = .pointer (some ⟨gN, 0, none⟩) := hD 6 (zdp (by kernel_rfl)) 97 rfl
    have d97 := zgD e97
    clear hD hF
    have q0 : w'.cell? ⟨gN, 0, none⟩ = some (.int .i64 x) := bcell hR c0
    go_simp
    exact hK _ _ (Below.refl _ _) rfl
   | 8, _ =>
    intro o ho ac w' hR hF hD K hK
    simp only [zqA, zqZ, zqS, zqI] at ho
    subst ho
    have e95 : ac.tmps.getD 95 undef = .string la := hD 4 (zdp (by kernel_rfl)) 95 rfl
    have d95 := zgD e95
    have e98 : ac.tmps.getD 98 undef = .int .i64 x := hD 7 (zdp (by kernel_rfl)) 98 rfl
    have d98 := zgD e98
    clear hD hF
    go_simp
    refine (hsg.out w').mono ?_
    rintro e w2 ⟨rfl, rfl⟩
    exact hK _ _ (Below.refl _ _) rfl
   | 9, _ =>
    intro o ho ac w' hR hF hD K hK
    simp only [zqA, zqZ, zqS, zqI] at ho
    subst ho
    have e96 : ac.tmps.getD 96 undef = .string (la ++ (⟨#[32]⟩ : ByteArray)) := hD 5 (zdp (by kernel_rfl)) 96 rfl
    have d96 := zgD e96
    have e99 : ac.tmps.getD 99 undef = .string wd := hD 8 (zdp (by kernel_rfl)) 99 rfl
    have d99 := zgD e99
    clear hD hF
    go_simp
    rw [if_neg (by omega)]
    exact hK _ _ (Below.refl _ _) rfl
   | 10, _ =>
    intro o ho ac w' hR hF hD K hK
    simp only [zqA, zqZ, zqS, zqI] at ho
    subst ho
    have e100 : ac.tmps.getD 100 undef = .string (la ++ (⟨#[32]⟩ : ByteArray) ++ wd) := hD 9 (zdp (by kernel_rfl)) 100 rfl
    have d100 := zgD e100
    clear hD hF
    go_simp
    rw [if_neg (by omega)]
    exact hK _ _ (Below.refl _ _) rfl
   | 11, _ =>
    intro o ho ac w' hR hF hD K hK
    simp only [zqA, zqZ, zqS, zqI] at ho
    subst ho
    have e0 : ac.tmps.getD 0 undef = .slice (some ⟨b, off, none⟩) n c := hF 0 (znd (by kernel_rfl))
    have d0 := zgD e0
    clear hD hF
    go_simp
    exact hK _ _ (Below.refl _ _) rfl
   | 12, _ =>
    intro o ho ac w' hR hF hD K hK
    simp only [zqA, zqZ, zqS, zqI] at ho
    subst ho
    have e1 : ac.tmps.getD 1 undef = .slice na nn nc := hF 1 (znd (by kernel_rfl))
    have d1 := zgD e1
    clear hD hF
    go_simp
    exact hK _ _ (Below.refl _ _) rfl
   | 13, _ =>
    intro o ho ac w' hR hF hD K hK
    simp only [zqA, zqZ, zqS, zqI] at ho
    subst ho
    have e12 : ac.tmps.getD 12 undef = .int .i64 (pb : Int) := hF 12 (znd (by kernel_rfl))
    have d12 := zgD e12
    clear hD hF
    go_simp
    exact hK _ _ (Below.refl _ _) rfl
   | 14, _ =>
    intro o ho ac w' hR hF hD K hK
    simp only [zqA, zqZ, zqS, zqI] at ho
    subst ho
    have e10 : ac.tmps.getD 10 undef = .int .i64 (bn : Int) := hF 10 (znd (by kernel_rfl))
    have d10 := zgD e10
    clear hD hF
    go_simp
    exact hK _ _ (Below.refl _ _) rfl
   | 15, _ =>
    intro o ho ac w' hR hF hD K hK
    simp only [zqA, zqZ, zqS, zqI] at ho
    subst ho
    have e105 : ac.tmps.getD 105 undef = .int .i64 (bn : Int) := hD 14 (zdp (by kernel_rfl)) 105 rfl
    have d105 := zgD e105
    clear hD hF
    go_simp
    exact hK _ _ (Below.refl _ _) rfl
   | 16, _ =>
    intro o ho ac w' hR hF hD K hK
    simp only [zqA, zqZ, zqS, zqI] at ho
    subst ho
    have e99 : ac.tmps.getD 99 undef = .string wd := hD 8 (zdp (by kernel_rfl)) 99 rfl
    have d99 := zgD e99
    have e102 : ac.tmps.getD 102 undef = .slice (some ⟨b, off, none⟩) n c := hD 11 (zdp (by kernel_rfl)) 102 rfl
    have d102 := zgD e102
    have e103 : ac.tmps.getD 103 undef = .slice na nn nc := hD 12 (zdp (by kernel_rfl)) 103 rfl
    have d103 := zgD e103
    have e104 : ac.tmps.getD 104 undef = .int .i64 (pb : Int) := hD 13 (zdp (by kernel_rfl)) 104 rfl
    have d104 := zgD e104
    have e106 : ac.tmps.getD 106 undef = .int .i64 ((bn : Int) + 1) := hD 15 (zdp (by kernel_rfl)) 106 rfl
    have d106 := zgD e106
    clear hD hF
    go_simp
    refine (IB6.out w' (btrans hb (btrans zc.out hR))).mono ?_
    rintro e w2 ⟨rfl, hb2⟩
    exact hK _ _ hb2 rfl
   | 17, _ =>
    intro o ho ac w' hR hF hD K hK
    simp only [zqA, zqZ, zqS, zqI] at ho
    subst ho
    have e101 : ac.tmps.getD 101 undef = .string (la ++ (⟨#[32]⟩ : ByteArray) ++ wd ++ (⟨#[32]⟩ : ByteArray)) := hD 10 (zdp (by kernel_rfl)) 101 rfl
    have d101 := zgD e101
    have e107 : ac.tmps.getD 107 undef = .string rb := hD 16 (zdp (by kernel_rfl)) 107 rfl
    have d107 := zgD e107
    clear hD hF
    go_simp
    rw [if_neg (by omega)]
    exact hK _ _ (Below.refl _ _) rfl
   | k + 18, hk => omega
  ·rintro ⟨tm, df⟩ w5 hdf hsz hF hR9 hV
   obtain rfl : df = [] := hdf
   obtain ⟨q, rfl⟩ := frame116 tm hsz
   have k108 : q 108 = .string (la ++ (⟨#[32]⟩ : ByteArray) ++ wd ++ (⟨#[32]⟩ : ByteArray) ++ rb) := hV 17 108 (by decide) rfl
   simp only [k108]
   clear k108
   have kk := zbk hF [0, 1, 2, 3, 4, 5, 6, 7, 8, 9, 10, 11, 12, 13, 14, 15, 16, 17, 18, 19, 20, 21, 22, 23, 24, 25, 26, 27, 28, 29, 30, 31, 32, 33, 34, 35, 36, 37, 38, 39, 40, 41, 42, 43, 44, 45, 46, 47, 48, 49, 50, 51, 52, 53, 54, 55, 56, 57, 58, 59, 60, 61, 62, 63, 64, 65, 66, 67, 68, 69, 70, 71, 72, 73, 74, 75, 76, 77, 78, 79, 80, 81, 82, 83, 84, 85, 86, 87, 88, 89, 90, 109, 110, 111, 112, 113, 114, 115] (by kernel_rfl)
   simp only [Bk, Array.getD_eq_getD_getElem?, zqA, zqS, zqZ, Option.getD_some] at kk
   simp only [kk]
   clear kk
   clear hF hV hsz
   change wpAny _ _ _ _ 1 _ _ _
   refine wpAny_ready (rs := [18]) (by kernel_rfl) (by simp) ?_
   refine AllReady.cons (i := 18) rfl (fun K hK => ?_) AllReady.nil
   go_simp
   refine hK _ _ ?_
   clear hK K
   refine ⟨by kernel_rfl, ?_⟩
   have zz := Lib.hid (btrans zc.out hR9)
   clear hR9 c0 c1 qc zc wrb z1s z2s z3s
   rw [hst2.out]
   by_cases hlt : bn < asks
   ·have hltI : (bn : Int) < (asks : Int) := by omega
    have hr := Lib.hid (F1.out hlt)
    have h40 : ((⟨#[40]⟩ : ByteArray).size : Int) = 1 := rfl
    have h41 : ((⟨#[41]⟩ : ByteArray).size : Int) = 1 := rfl
    have h4q : ((⟨#[40]⟩ ++ st : ByteArray).size : Int) ≤ 481 := by rw [ByteArray.size_append]; have : (⟨#[40]⟩ : ByteArray).size = 1 := rfl; omega
    clear hlt F1 F2
    go_wp2
    go_ret
    exact ⟨by rw [← hr.out]; rfl, zz.out⟩
   ·have hltI : ¬ (bn : Int) < (asks : Int) := by omega
    have hr := Lib.hid (F2.out hlt)
    clear hlt F1 F2
    go_wp2
    go_ret
    exact ⟨by rw [← hr.out]; rfl, zz.out⟩
end Go.Proofs.YtkehfolcfcbplaaGreatDoor
