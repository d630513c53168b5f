/- A formula's text, or why there is none (the program's Text), walked. Conditions: what the listed variables hold; not too many nodes and names, short names. -/
import Derived.Test.YtkehfolcfcbplaaGreatDoorSLtW6
namespace Go.Proofs.YtkehfolcfcbplaaGreatDoor
open Go.RowKit
set_option linter.unusedVariables false
set_option linter.unusedSimpArgs false
def NeI (N : List (List UInt8)) (f : List Nd) (i : Nat) (r : Nat) : Prop := nameErr N (f.drop i) = r
theorem NeI.step {N : List (List UInt8)} {f : List Nd} {i r : Nat} (h : NeI N f i r) (hi : i < f.length) :
  (f[i].1 ≠ 3 → NeI N f (i + 1) r) ∧ (f[i].1 = 3 → (N.length : Int) ≤ f[i].2 → r = 8) ∧ (f[i].1 = 3 → ¬ (N.length : Int) ≤ f[i].2 → mayP N f[i].2.toNat = true → NeI N f (i + 1) r) ∧ (f[i].1 = 3 → ¬ (N.length : Int) ≤ f[i].2 → mayP N f[i].2.toNat = false → r = 6) := by
 unfold NeI at h
 rw [List.drop_eq_getElem_cons hi, nameErr] at h
 refine ⟨fun e => ?_, fun e e2 => ?_, fun e e2 e3 => ?_, fun e e2 e3 => ?_⟩
 ·rw [if_neg e] at h; exact h
 ·rw [if_pos e, if_pos e2] at h; exact h.symm
 ·rw [if_pos e, if_neg e2, if_pos e3] at h; exact h
 ·rw [if_pos e, if_neg e2, if_neg (by rw [e3]; decide)] at h; exact h.symm
theorem NeI.fin {N : List (List UInt8)} {f : List Nd} {i r : Nat} (h : NeI N f i r) (hi : i = f.length) : r = 0 := by
 unfold NeI at h
 rw [hi, List.drop_length] at h
 exact h.symm
theorem wrong_range : ∀ (f : List Nd) (n : Int), wrongG f n = 0 → ∀ x ∈ f, x.1 = 3 → 0 ≤ x.2 ∧ x.2 < 8
 | [], n, h, x, hx, e => by cases hx
 | y :: f, n, h, x, hx, e => by
  rw [wrongG] at h
  split at h
  ·cases h
  ·split at h
   ·cases h
   ·split at h
    ·cases h
    ·rename_i h3
     rcases List.mem_cons.1 hx with rfl | hx
     ·omega
     ·exact wrong_range f _ h x hx e
set_option maxRecDepth 8000 in
set_option maxHeartbeats 8000000 in
theorem text_form (w : World) (hd : Door w) (a : Option Addr) (c : Nat) (f : List Nd) (hf : NdAt w a f) (hfl : f.length ≤ 1000) (na : Option Addr) (nc : Nat) (N : List (List UInt8)) (hN : StrsAt w na N) (hNl : N.length ≤ 1000) (hNc : N.length ≤ nc) (hNs : ∀ x ∈ N, x.length ≤ 281474976710656) :
  Calls Tryz.prog 9 #[.slice a f.length c, .slice na N.length nc] w fun e w' => e = .returned (.tuple #[.string ⟨(textP f N).1.toArray⟩, .int .i64 ((textP f N).2 : Int)]) ∧ Below w.heap.size w w' := by
 have CK := Lib.hid (check_nodes w a c f hf (by omega))
 obtain ⟨rs, hrs⟩ : ∃ rs : ByteArray, rs = ⟨(textP f N).1.toArray⟩ := ⟨_, rfl⟩
 obtain ⟨re, hre⟩ : ∃ re, re = (textP f N).2 := ⟨_, rfl⟩
 rw [← hrs, ← hre]
 by_cases hc : checkP f = 0
 ·have hl : f.length ≤ 24 := by unfold checkP at hc; split at hc; cases hc; omega
  have hwr : wrongP f = 0 := by unfold checkP at hc; rw [if_neg (by omega)] at hc; exact hc
  obtain ⟨t0, ht1, ht2, ht3⟩ := tree_of hwr
  have RNG : Hid (∀ i (hi : i < f.length), f[i].1 = 3 → 0 ≤ f[i].2 ∧ f[i].2 < 8) := fun i hi e => by
   have h1 : wrongG f 0 = 0 := by
    unfold wrongP at hwr
    split at hwr
    ·cases hwr
    ·exact hwr
   exact wrong_range f 0 h1 f[i] (List.getElem_mem hi) e
  have TXP : Hid (∀ r, NeI N f 0 r → (r ≠ 0 → rs = ⟨#[]⟩ ∧ re = r) ∧ (r = 0 → OkN N t0 ∧ rs = ⟨(txt (nmP N) t0).toArray⟩ ∧ re = 0)) := fun r h => by
   have h1 : nameErr N f = r := h
   rw [hrs, hre]
   unfold textP
   rw [if_pos hc, h1]
   refine ⟨fun e => ?_, fun e => ?_⟩
   ·rw [if_neg e]; exact ⟨rfl, rfl⟩
   ·rw [if_pos e, ht3]
    rw [e, ← ht2] at h1
    exact ⟨⟨ht1, goodN_of N t0 h1⟩, rfl, rfl⟩
  have N0 : Hid (NeI N f 0 (nameErr N f)) := rfl
  generalize nameErr N f = r at N0
  obtain ⟨x1, x2⟩ := TXP.out r N0.out
  rw [hc] at CK
  have WR : Hid (OkN N t0 → ∀ v, Below w.heap.size w v → Calls Tryz.prog 13 #[.slice a f.length c, .slice na N.length nc] v fun e w' => e = .returned (.string ⟨(txt (nmP N) t0).toArray⟩) ∧ Below v.heap.size v w') := fun ok v hb => write_any v (hd.below hb) a c f (hf.below hb) na nc N (hN.below hb) hNl t0 ok ht2 hl
  have MY : Hid (∀ v, Below w.heap.size w v → ∀ i, i < N.length → Calls Tryz.prog 21 #[.slice na N.length nc, .int .i64 (i : Int)] v fun e w' => e = .returned (.bool (mayP N i)) ∧ Below v.heap.size v w') := fun v hb i hi => may_any v (hd.below hb) na nc N (hN.below hb) hNl hNc i hi (hNs _ (by
   have : N.getD i [] = N[i] := by simp [List.getD, List.getElem?_eq_getElem hi]
   rw [this]
   exact List.getElem_mem hi))
  have ND : Hid (∀ v, Below w.heap.size w v → NdAt v a f) := fun v hb => hf.below hb
  have B0 : Hid (Below w.heap.size w w) := Below.refl _ _
  obtain ⟨n, hn⟩ : ∃ n, n = f.length := ⟨_, rfl⟩
  obtain ⟨nn, hnn⟩ : ∃ nn, nn = N.length := ⟨_, rfl⟩
  rw [← hn] at CK WR ⊢
  rw [← hnn] at WR MY ⊢
  have hnI : (n : Int) ≤ 24 := by omega
  have hnnI : (nn : Int) ≤ 1000 := by omega
  replace hn := Lib.hid hn
  replace hnn := Lib.hid hnn
  replace x1 := Lib.hid x1
  replace x2 := Lib.hid x2
  clear TXP hrs hre hc hl hwr ht1 ht2 ht3 hd hf hfl hN hNl hNc hNs
  go_enter Tryz.func9, Tryz.ntmps9
  go_wp2_with fail
  refine CK.out.mono ?_
  rintro e w1 ⟨rfl, hb1⟩
  rw [show ((0 : Nat) : Int) = 0 from rfl]
  have z1 := Lib.hid hb1
  clear hb1 CK B0
  go_wp2
  go_loopw [4, 5, 16] (fun sv ev iv wr => ∃ i : Nat, sv = .string ⟨#[]⟩ ∧ ev = .int .i64 0 ∧ iv = .int .i64 (i : Int) ∧ i ≤ n ∧ Hid (NeI N f i r) ∧ Hid (Below w.heap.size w wr)) (fun _ _ iv _ => n - (intOf iv).toNat)
  case atStart => exact ⟨0, rfl, rfl, rfl, Nat.zero_le _, N0, z1⟩
  case round =>
   obtain ⟨i, rfl, rfl, rfl, hi, ne, zr⟩ := hrel
   clear N0 z1
   by_cases hlt : i < n
   ·have hlI : (i : Int) < (n : Int) := by omega
    have hif : i < f.length := by have := hn.out; omega
    obtain ⟨b, off, ea, hc⟩ := (ND.out wr zr.out) (by omega)
    have SGN := NdAt.range (hc i hif)
    subst ea
    obtain ⟨s1, s2, s3, s4⟩ := ne.out.step hif
    have RG := RNG.out i hif
    obtain ⟨xy, hxy⟩ : ∃ xy, xy = f[i] := ⟨_, rfl⟩
    rw [← hxy] at SGN s1 s2 s3 s4 RG
    clear hxy
    obtain ⟨x, y⟩ := xy
    dsimp only at SGN s1 s2 s3 s4 RG
    replace SGN := Lib.hid SGN
    replace s1 := Lib.hid s1
    replace s2 := Lib.hid s2
    replace s3 := Lib.hid s3
    replace s4 := Lib.hid s4
    replace RG := Lib.hid RG
    clear hc hif ne
    go_upto_region 6 with (fail)
    refine wp_region_list ?_
    refine wpList_plain rfl (fun K hK => ?_)
    go_simp
    refine hK _ _ ?_
    clear hK K
    refine wpList_load_mid rfl TNd (.tmp 18) rfl b (off + i * 2) rfl [.int .i64 x, .int .i64 y] _ SGN.out undNd.choose_spec.1 undNd.choose_spec.2 (by kernel_rfl) ?_
    refine wpList_plain rfl (fun K hK => ?_)
    go_simp
    refine hK _ _ ?_
    clear hK K
    obtain ⟨wa, hwa⟩ : ∃ wa, wa = wr.alloc (.cells #[.int .i64 0, .int .i64 0] TNd) := ⟨_, rfl⟩
    obtain ⟨gN, hgN⟩ : ∃ gN, gN = wr.heap.size := ⟨_, rfl⟩
    have ra : RowAt wa gN TNd [.int .i64 0, .int .i64 0] := by rw [hwa]; exact RowAt.new #[.int .i64 0, .int .i64 0] hgN
    have ba : Below wr.heap.size wr wa := by rw [hwa]; exact balloc (Below.refl _ _) _
    rw [← hwa, ← hgN]
    replace hwa := Lib.hid hwa
    replace hgN := Lib.hid hgN
    refine list_store (l := [.int .i64 x, .int .i64 y]) infoNd ra rfl rfl nd_one rfl 8 19 rfl rfl rfl ?_
    intro wb qb kb
    refine wpList_nil ?_
    have bb : Below wr.heap.size wr wb := kb.below ba (fun j hj => by cases hj; rw [hgN.out]; exact Nat.le_refl _)
    replace qb := Lib.hid qb
    replace bb := Lib.hid bb
    clear kb ba ra SGN
    have c0 : wb.cell? ⟨gN, 0, none⟩ = some (.int .i64 x) := qb.out.cell 0
    have c1 : wb.cell? ⟨gN, 1, none⟩ = some (.int .i64 y) := qb.out.cell 1
    have zb := Lib.hid (btrans zr.out bb.out)
    clear bb zr
    by_cases hx3 : x = 3
    ·have hxB : (x == 3) = true := by rw [hx3]; rfl
     obtain ⟨hy0, hy8⟩ := RG.out hx3
     obtain ⟨yn, rfl⟩ : ∃ yn : Nat, y = yn := ⟨y.toNat, by omega⟩
     by_cases hyl : nn ≤ yn
     ·have hylI : (nn : Int) ≤ (yn : Int) := by omega
      have hr := s2.out hx3 (by have := hnn.out; omega)
      obtain ⟨e1, e2⟩ := x1.out (by omega)
      have hf1 := Lib.hid e1
      have hf2 := Lib.hid (e2.trans hr)
      clear e1 e2 hr hx3
      go_wp2
      refine bodyPost_ret (v := .tuple #[.string ⟨#[]⟩, .int .i64 8]) (by simp [results, Tryz.results9]) rfl ⟨by rw [hf1.out, hf2.out]; rfl, zb.out⟩
     ·have hylI : ¬ (nn : Int) ≤ (yn : Int) := by omega
      have M1 := MY.out wb zb.out yn (by have := hnn.out; omega)
      have hyN : ¬ (N.length : Int) ≤ (yn : Int) := by have := hnn.out; omega
      have s3' := s3.out hx3 hyN
      have s4' := s4.out hx3 hyN
      rw [Int.toNat_natCast] at s3' s4'
      generalize mayP N yn = my at M1 s3' s4'
      replace M1 := Lib.hid M1
      cases my with
      | true =>
       have ne2 := Lib.hid (s3' rfl)
       clear s3' s4' hx3 hyN
       go_wp2_with fail
       refine M1.out.mono ?_
       rintro e w2 ⟨rfl, hb2⟩
       have z2 := Lib.hid (btrans zb.out hb2)
       clear hb2 M1 c0 c1 qb zb
       go_wp2
       go_roundw
       case rel => exact ⟨i + 1, rfl, rfl, by go_num, by omega, ne2, z2⟩
       case measure => simp [intOf]; omega
      | false =>
       have hr := s4' rfl
       obtain ⟨e1, e2⟩ := x1.out (by omega)
       have hf1 := Lib.hid e1
       have hf2 := Lib.hid (e2.trans hr)
       clear e1 e2 hr hx3 s3' s4' hyN
       go_wp2_with fail
       refine M1.out.mono ?_
       rintro e w2 ⟨rfl, hb2⟩
       have z2 := Lib.hid (btrans zb.out hb2)
       clear hb2 M1 c0 c1 qb zb
       go_wp2
       refine bodyPost_ret (v := .tuple #[.string ⟨#[]⟩, .int .i64 6]) (by simp [results, Tryz.results9]) rfl ⟨by rw [hf1.out, hf2.out]; rfl, z2.out⟩
    ·have hxB : (x == 3) = false := by rw [beq_eq_false_iff_ne]; exact hx3
     have ne2 := Lib.hid (s1.out hx3)
     clear hx3
     go_wp2
     go_roundw
     case rel => exact ⟨i + 1, rfl, rfl, by go_num, by omega, ne2, zb⟩
     case measure => simp [intOf]; omega
   ·have hlI : ¬ (i : Int) < (n : Int) := by omega
    have hr := ne.out.fin (by have := hn.out; omega)
    obtain ⟨ok, e1, e2⟩ := x2.out hr
    have W1 := Lib.hid (WR.out ok wr zr.out)
    have hf1 := Lib.hid e1
    have hf2 := Lib.hid e2
    clear e1 e2 hr ok ne
    go_wp2_with fail
    refine W1.out.mono ?_
    rintro e w2 ⟨rfl, hb2⟩
    have z2 := Lib.hid (btrans zr.out hb2)
    rw [← hf1.out]
    go_wp2
    refine bodyPost_ret (v := .tuple #[.string rs, .int .i64 0]) (by simp [results, Tryz.results9]) rfl ⟨by rw [hf2.out]; rfl, z2.out⟩
 ·have h1 : rs = ⟨#[]⟩ ∧ re = checkP f := by
   rw [hrs, hre]
   unfold textP
   rw [if_neg hc]
   exact ⟨rfl, rfl⟩
  obtain ⟨e1, e2⟩ := h1
  have hf1 := Lib.hid e1
  have hf2 := Lib.hid e2
  have hcB : ((checkP f : Int) == 0) = false := by rw [beq_eq_false_iff_ne]; omega
  clear e1 e2 hrs hre hc hfl hNl hNc hNs hN hf hd
  generalize checkP f = ck at CK hcB hf2
  go_enter Tryz.func9, Tryz.ntmps9
  go_wp2_with fail
  refine CK.out.mono ?_
  rintro e w1 ⟨rfl, hb1⟩
  replace hb1 := Lib.hid hb1
  go_wp2
  refine bodyPost_ret (v := .tuple #[.string ⟨#[]⟩, .int .i64 (ck : Int)]) (by simp [results, Tryz.results9]) rfl ⟨by rw [hf1.out, hf2.out], hb1.out⟩
end Go.Proofs.YtkehfolcfcbplaaGreatDoor
