/- What is wrong with nodes (the program's Check), walked. Conditions: not too many nodes. -/
import Derived.Test.YtkehfolcfcbplaaGreatDoorSLtW3
namespace Go.Proofs.YtkehfolcfcbplaaGreatDoor
open Go.RowKit
set_option linter.unusedVariables false
set_option linter.unusedSimpArgs false
abbrev TNd : Nat := 32
theorem infoNd : (Tryz.prog.info? TNd).map (·.size) = some 2 := by kernel_rfl
theorem undNd : ∃ d, Tryz.prog.underlying TNd = some d ∧ d.isRow = true := und_row (by kernel_rfl)
theorem nd_one {x y : Int} : ∀ v ∈ ([.int .i64 x, .int .i64 y] : List Value), v.oneCell' = true := by
 intro v hv
 simp only [List.mem_cons, List.not_mem_nil, or_false] at hv
 rcases hv with rfl | rfl <;> rfl
theorem NdAt.range {w : World} {b off : Nat} {x y : Int} {i : Nat} (h : w.cell? ⟨b, off + i * 2, none⟩ = some (.int .i64 x) ∧ w.cell? ⟨b, off + i * 2 + 1, none⟩ = some (.int .i64 y)) : w.rangeAt b (off + i * 2) [.int .i64 x, .int .i64 y] := fun j v hj => by
 match j, hj with
 | 0, hj => cases hj; exact h.1
 | 1, hj => cases hj; exact h.2
 | j + 2, hj => cases hj
structure WkM (B g : Nat) (w : World) (sa : Option Addr) (sn sc : Nat) (xs : List Int) (oa : Option Addr) (on oc : Nat) (cells : List Value) : Prop where
 own : OwnN .i64 w B TInt sa sn sc xs
 bx : RowAt w g TInts [.slice oa on oc]
 out : OwnR w B TInt 1 oa on oc cells
 ap1 : ∀ j, (Value.slice sa sn sc).ownBlock = some j → j ≠ g ∧ (Value.slice oa on oc).ownBlock ≠ some j
 ap2 : ∀ j, (Value.slice oa on oc).ownBlock = some j → j ≠ g
theorem WkM.below {B g : Nat} {w w' : World} {sa : Option Addr} {sn sc : Nat} {xs : List Int} {oa : Option Addr} {on oc : Nat} {cells : List Value} (h : WkM B g w sa sn sc xs oa on oc cells) (hb : Below w.heap.size w w') : WkM B g w' sa sn sc xs oa on oc cells :=
 ⟨OwnR.keeps (S := fun _ => False) h.own (Keeps.of_below hb) (fun _ _ e => e), h.bx.below hb, OwnR.keeps (S := fun _ => False) h.out (Keeps.of_below hb) (fun _ _ e => e), h.ap1, h.ap2⟩
theorem WkM.call {B g : Nat} {w w' : World} {sa : Option Addr} {sn sc : Nat} {xs : List Int} {oa : Option Addr} {on oc : Nat} {cells : List Value} {x : Int} {e : Ending} (h : WkM B g w sa sn sc xs oa on oc cells) (hs : Sp1 B g w oa on oc x e w') (hg : B ≤ g) :
  ∃ oa' oc' cells', WkM B g w' sa sn sc xs oa' (on + 1) oc' cells' ∧ Keeps w w' (fun j => B ≤ j) := by
 obtain ⟨_, oa', oc', cells', h1, h2, h3, h4⟩ := hs
 refine ⟨oa', oc', cells', ⟨OwnR.keeps h.own h3 (fun j hj e => ?_), h1, h2, fun j hj => ⟨(h.ap1 j hj).1, fun e => ?_⟩, fun j hj e => ?_⟩, (Keeps.refl _ _).trans h3 (fun j _ hj => ?_)⟩
 ·rcases e with e | e
  ·exact (h.ap1 j hj).1 e
  ·exact (h.ap1 j hj).2 e
 ·rcases h4 with h4 | ⟨k, h4, h5⟩
  ·exact (h.ap1 j hj).2 (h4.symm.trans e)
  ·rw [h4] at e
   cases e
   have := (OwnR.lt h.own hj).2
   omega
 ·rcases h4 with h4 | ⟨k, h4, h5⟩
  ·exact h.ap2 j (h4.symm.trans hj) e
  ·rw [h4] at hj
   cases hj
   have := h.bx.lt
   omega
 ·rcases hj with rfl | hj
  ·exact hg
  ·exact (OwnR.lt h.out hj).1
theorem OwnN.shrinkA {w : World} {base e n cap m : Nat} {a : Option Addr} {xs : List Int} (h : OwnN .i64 w base e a n cap xs) (hm : m ≤ n) : OwnN .i64 w base e a m cap (xs.take m) := by
 have h1 := OwnR.shrinkA (sz := 1) (cells := xs.map (Value.int .i64)) h hm
 unfold OwnN
 rw [List.map_take, ← Nat.mul_one m]
 rw [Nat.mul_one m] at h1 ⊢
 exact h1
theorem WkM.push {B g : Nat} {w w' : World} {sa : Option Addr} {sn sc m : Nat} {xs ys : List Int} {oa : Option Addr} {on oc : Nat} {cells : List Value} {a' : Option Addr} {n' c' : Nat} (h : WkM B g w sa sn sc xs oa on oc cells)
  (ho : OwnN .i64 w' B TInt a' n' c' ys) (hg : w.grownBy w' (Value.slice sa m sc).ownBlock) (hat : (Value.slice a' n' c').ownBlock = (Value.slice sa m sc).ownBlock ∨ (Value.slice a' n' c').ownBlock = some w.heap.size) : WkM B g w' a' n' c' ys oa on oc cells := by
 have e0 : (Value.slice sa m sc).ownBlock = (Value.slice sa sn sc).ownBlock := own_block_len _ _ _ _
 rw [e0] at hg hat
 refine ⟨ho, h.bx.keep (hg.block g h.bx.lt (fun e => (h.ap1 g e.symm).1 rfl)), OwnR.keeps (S := fun j => (Value.slice sa sn sc).ownBlock = some j) h.out (Keeps.of_grown hg (fun j e => e)) (fun j hj e => (h.ap1 j e).2 hj), fun j hj => ?_, h.ap2⟩
 rcases hat with e | e
 ·exact h.ap1 j (e.symm.trans hj)
 ·rw [e] at hj
  cases hj
  exact ⟨fun e2 => by have := h.bx.lt; omega, fun e2 => by have := (OwnR.lt h.out e2).2; omega⟩
def WorkV (f : List Nd) (e : Ending) : Prop := ∃ (sa : Option Addr) (sc n ec : Nat), e = .returned (.tuple #[.slice sa n sc, .int .i64 (ec : Int)]) ∧ n ≤ 100000 ∧ wrongP f = (if ec = 0 then (if 1 < n then 5 else 0) else ec)
def BoxV (g : Nat) (w : World) : Prop := ∃ (oa : Option Addr) (on oc : Nat), RowAt w g TInts [.slice oa on oc]
set_option maxRecDepth 8000 in
set_option maxHeartbeats 8000000 in
theorem work_any (w0 w : World) (hw0 : Below w0.heap.size w0 w) (a : Option Addr) (c : Nat) (f : List Nd) (hf : NdAt w0 a f) (hne : f ≠ []) (hl : f.length ≤ 1000) (g : Nat) (hg : w0.heap.size ≤ g) (bx : RowAt w g TInts [.slice none 0 0]) :
  Calls Tryz.prog 67 #[.slice a f.length c, .func (.func 68) #[] #[.pointer (some ⟨g, 0, none⟩)]] w fun e w' => WorkV f e ∧ Below w0.heap.size w0 w' ∧ BoxV g w' := by
 obtain ⟨res, hres⟩ : ∃ res, res = wrongP f := ⟨_, rfl⟩
 have hwr : wrongG f 0 = res := by rw [hres]; unfold wrongP; rw [if_neg hne]
 have W0 : Hid (WrI f res 0 0) := ⟨Nat.zero_le _, Int.le_refl _, Int.le_refl _, hwr⟩
 have M0 : Hid (WkM w0.heap.size g w none 0 0 [] none 0 0 []) := ⟨OwnN.nil _ _ _ _, bx, OwnR.nil _ _ _ _, fun j hj => (by cases hj), fun j hj => (by cases hj)⟩
 have ND : Hid (∀ v, Below w0.heap.size w0 v → NdAt v a f) := fun v hb => hf.below hb
 have B0 : Hid (Below w0.heap.size w0 w) := hw0
 have V : Hid (∀ (e : Ending) (sa : Option Addr) (sc n ec : Nat), e = .returned (.tuple #[.slice sa n sc, .int .i64 (ec : Int)]) → n ≤ 100000 → res = (if ec = 0 then (if 1 < n then 5 else 0) else ec) → WorkV f e) := fun e sa sc n ec h1 h2 h3 => ⟨sa, sc, n, ec, h1, h2, by rw [← hres]; exact h3⟩
 have TK := Lib.hid takes_any
 obtain ⟨n, hn⟩ : ∃ n, n = f.length := ⟨_, rfl⟩
 rw [← hn]
 have hnI : (n : Int) ≤ 1000 := by omega
 replace hn := Lib.hid hn
 replace hg := Lib.hid hg
 clear hres hwr hw0 bx hne hl hf
 go_enter Tryz.func67, Tryz.ntmps67
 go_wp2
 go_loopw [4, 5, 6, 14] (fun r4 r5 sv iv wr => ∃ (i : Nat) (sa : Option Addr) (sn sc : Nat) (xs : List Int) (oa : Option Addr) (oc : Nat) (cells : List Value), r4 = .slice none 0 0 ∧ r5 = .int .i64 0 ∧ sv = .slice sa sn sc ∧ iv = .int .i64 (i : Int) ∧ i ≤ n ∧ sn ≤ i ∧ Hid (WrI f res i sn) ∧ Hid (WkM w0.heap.size g wr sa sn sc xs oa i oc cells) ∧ Hid (Below w0.heap.size w0 wr)) (fun _ _ _ iv _ => n - (intOf iv).toNat)
 case atStart => exact ⟨0, none, 0, 0, [], none, 0, [], rfl, rfl, rfl, rfl, Nat.zero_le _, Nat.le_refl _, W0, M0, B0⟩
 case round =>
  obtain ⟨i, sa, sn, sc, xs, oa, oc, cells, rfl, rfl, rfl, rfl, hi, hsi, wi, wm, zr⟩ := hrel
  clear W0 M0 B0
  by_cases hlt : i < n
  ·have hlI : (i : Int) < (n : Int) := by omega
   have hif : i < f.length := by have := hn.out; omega
   obtain ⟨b, off, ea, hc⟩ := (ND.out wr zr.out) (by omega)
   have SGN := NdAt.range (hc i hif)
   subst ea
   obtain ⟨s1, s2, s3, s4⟩ := wi.out.step hif
   have ht := takes_le f[i].1
   obtain ⟨xy, hxy⟩ : ∃ xy, xy = f[i] := ⟨_, rfl⟩
   rw [← hxy] at SGN s1 s2 s3 s4 ht
   clear hxy
   obtain ⟨x, y⟩ := xy
   dsimp only at SGN s1 s2 s3 s4 ht
   have T1 := Lib.hid (fun v => TK.out v x)
   clear hc hif wi
   generalize hk : takesP x = k at s1 s2 s3 s4 T1 ht
   replace SGN := Lib.hid SGN
   replace s1 := Lib.hid s1
   replace s2 := Lib.hid s2
   replace s3 := Lib.hid s3
   replace s4 := Lib.hid s4
   have hsnI : (sn : Int) ≤ 1000 := by omega
   clear hk
   go_upto_region 4 with (fail)
   refine wp_region_list ?_
   refine wpList_plain rfl (fun K hK => ?_)
   go_simp
   refine hK _ _ ?_
   clear hK K
   refine wpList_plain rfl (fun K hK => ?_)
   go_simp
   refine hK _ _ ?_
   clear hK K
   refine wpList_load_mid rfl TNd (.tmp 17) rfl b (off + i * 2) rfl [.int .i64 x, .int .i64 y] _ SGN.out undNd.choose_spec.1 undNd.choose_spec.2 (by kernel_rfl) ?_
   refine wpList_plain rfl (fun K hK => ?_)
   go_simp
   refine hK _ _ ?_
   clear hK K
   obtain ⟨wa, hwa⟩ : ∃ wa, wa = wr.alloc (.cells #[.int .i64 0, .int .i64 0] TNd) := ⟨_, rfl⟩
   obtain ⟨gN, hgN⟩ : ∃ gN, gN = wr.heap.size := ⟨_, rfl⟩
   have ra : RowAt wa gN TNd [.int .i64 0, .int .i64 0] := by rw [hwa]; exact RowAt.new #[.int .i64 0, .int .i64 0] hgN
   have ba : Below wr.heap.size wr wa := by rw [hwa]; exact balloc (Below.refl _ _) _
   rw [← hwa, ← hgN]
   replace hwa := Lib.hid hwa
   replace hgN := Lib.hid hgN
   refine wpList_plain rfl (fun K hK => ?_)
   go_simp
   refine hK _ _ ?_
   clear hK K
   refine list_store (l := [.int .i64 x, .int .i64 y]) infoNd ra rfl rfl nd_one rfl 8 18 rfl rfl rfl ?_
   intro wb qb kb
   refine wpList_nil ?_
   have bb : Below wr.heap.size wr wb := kb.below ba (fun j hj => by cases hj; rw [hgN.out]; exact Nat.le_refl _)
   replace qb := Lib.hid qb
   replace bb := Lib.hid bb
   clear kb ba ra SGN
   have c0 : wb.cell? ⟨gN, 0, none⟩ = some (.int .i64 x) := qb.out.cell 0
   have c1 : wb.cell? ⟨gN, 1, none⟩ = some (.int .i64 y) := qb.out.cell 1
   have zb := Lib.hid (btrans zr.out bb.out)
   have wmb := Lib.hid (wm.out.below bb.out)
   clear bb wm zr
   go_wp2_with fail
   refine (T1.out wb).mono ?_
   rintro e w1 ⟨rfl, rfl⟩
   clear T1
   by_cases hk0 : k < 0
   ·have hr := Lib.hid (s1.out hk0)
    go_wp2
    refine bodyPost_ret (v := .tuple #[.slice none 0 0, .int .i64 3]) (by simp [results, Tryz.results67]) rfl ⟨V.out _ none 0 0 3 rfl (Nat.zero_le _) hr.out, zb.out, _, _, _, wmb.out.bx⟩
   ·by_cases hk1 : (sn : Int) < k
    ·have hr := Lib.hid (s2.out (by omega) hk1)
     go_wp2
     refine bodyPost_ret (v := .tuple #[.slice none 0 0, .int .i64 4]) (by simp [results, Tryz.results67]) rfl ⟨V.out _ none 0 0 4 rfl (Nat.zero_le _) hr.out, zb.out, _, _, _, wmb.out.bx⟩
    ·obtain ⟨kn, rfl⟩ : ∃ kn : Nat, k = kn := ⟨k.toNat, by omega⟩
     have hk2 : kn ≤ sn := by omega
     have hk3 : kn ≤ 2 := by omega
     have TAIL : Hid (WrI f res (i + 1) ((sn : Int) - (kn : Int) + 1)) → Hid (True) := fun _ => trivial
     clear TAIL
     by_cases hx3 : x = 3
     ·have hxB : (x == 3) = true := by rw [hx3]; rfl
      by_cases hy0 : y < 0
      ·have hr := Lib.hid (s3.out (by omega) (by omega) hx3 (.inl hy0))
       clear hx3 s1 s2 s3 s4
       go_wp2
       refine bodyPost_ret (v := .tuple #[.slice none 0 0, .int .i64 10]) (by simp [results, Tryz.results67]) rfl ⟨V.out _ none 0 0 10 rfl (Nat.zero_le _) hr.out, zb.out, _, _, _, wmb.out.bx⟩
      ·by_cases hy8 : 8 ≤ y
       ·have hr := Lib.hid (s3.out (by omega) (by omega) hx3 (.inr hy8))
        clear hx3 s1 s2 s3 s4
        go_wp2
        refine bodyPost_ret (v := .tuple #[.slice none 0 0, .int .i64 10]) (by simp [results, Tryz.results67]) rfl ⟨V.out _ none 0 0 10 rfl (Nat.zero_le _) hr.out, zb.out, _, _, _, wmb.out.bx⟩
       ·have hr := Lib.hid (s4.out (by omega) (by omega) (fun e => by omega))
        clear hx3 s1 s2 s3 s4
        obtain ⟨l, hl⟩ : ∃ l, l = sn - kn := ⟨_, rfl⟩
        have hlI2 : (sn : Int) - (kn : Int) = (l : Int) := by omega
        have RC := fun v => run_cut_l (P := Tryz.prog) (kl := .i64) (L := (l : Int)) Tryz.underlying77 Tryz.sizeInt sa sn sc l rfl (by omega) v
        have RH := fun v => run_cut_h (P := Tryz.prog) (kh := .i64) (H := (l : Int)) Tryz.underlying77 Tryz.sizeInt sa sn sc l rfl (by have := (OwnN.caps wmb.out.own).1; omega) v
        have hxl : xs.length = sn := owns_len wmb.out.own
        have hcap := (OwnN.caps wmb.out.own).1
        have NP := Lib.hid ((NumsAt.of_owns wmb.out.own).cut (l := l) (cap := sc) (by omega))
        obtain ⟨pa, hpa⟩ : ∃ pa, pa = cutA sa sc l 1 := ⟨_, rfl⟩
        rw [← hpa] at RC NP
        have hdl : sn - l = (xs.drop l).length := by rw [List.length_drop]; omega
        have CL := Lib.hid (clone_ints wb pa (sn - l) (sc - l) (xs.drop l) NP.out hdl (by omega))
        have hpl : (xs.drop l).length ≤ 100000 := by omega
        generalize xs.drop l = P at CL hpl hdl
        replace hl := Lib.hid hl
        replace hdl := Lib.hid hdl
        replace hxl := Lib.hid hxl
        clear NP hpa hcap
        go_wp2_with fail
        refine CL.out.mono ?_
        rintro e w2 ⟨qa, qc, rfl, hq, hb2⟩
        have wm2 := Lib.hid (wmb.out.below hb2)
        have z2 := Lib.hid (btrans zb.out hb2)
        have SP := Lib.hid (span1_any w2 w0.heap.size (i : Int) qa qc P hq hpl g oa i oc cells wm2.out.bx wm2.out.out (by omega) z2.out.size wm2.out.ap2)
        generalize P.length = pl at SP
        clear hq hb2 CL wmb zb hpl
        go_wp2_with fail
        refine SP.out.mono ?_
        rintro e w3 ⟨rx, hs⟩
        obtain rfl := hs.1
        obtain ⟨oa3, oc3, cells3, wm3, k3⟩ := wm2.out.call hs hg.out
        have z3 := Lib.hid (k3.below z2.out (fun j h => h))
        replace wm3 := Lib.hid wm3
        clear hs k3 SP wm2 z2
        go_upto_region 14 with (fail)
        refine wp_region_list ?_
        refine wpList_plain rfl (fun K hK => ?_)
        go_simp
        refine hK _ _ ?_
        clear hK K
        refine wpList_plain rfl (fun K hK => ?_)
        go_simp
        refine hK _ _ ?_
        clear hK K
        refine wpList_plain rfl (fun K hK => ?_)
        go_simp
        refine hK _ _ ?_
        clear hK K
        refine wpList_plain rfl (fun K hK => ?_)
        go_simp
        refine hK _ _ ?_
        clear hK K
        refine wpList_plain rfl (fun K hK => ?_)
        go_simp
        refine hK _ _ ?_
        clear hK K
        obtain ⟨w7, hw7⟩ : ∃ w7, w7 = w3.alloc (.cells #[.int .i64 rx] TInt) := ⟨_, rfl⟩
        obtain ⟨g7, hg7⟩ : ∃ g7, g7 = w3.heap.size := ⟨_, rfl⟩
        have r7 : RowAt w7 g7 TInt [.int .i64 rx] := by rw [hw7]; exact RowAt.new #[.int .i64 rx] hg7
        have b67 : Below w3.heap.size w3 w7 := by rw [hw7]; exact balloc (Below.refl _ _) _
        rw [← hw7, ← hg7]
        have wm7 := wm3.out.below b67
        have z7 := Lib.hid (btrans z3.out b67)
        have own7 := OwnN.shrinkA wm7.own (m := l) (by omega)
        replace hw7 := Lib.hid hw7
        replace hg7 := Lib.hid hg7
        refine wp_appR rfl (.tmp 57) (.tmp 59) 77 TInt (.int .i64 0) 1 8 rfl Tryz.underlying77 infoI3 rfl (by decide) w0.heap.size sa l sc ((xs.take l).map (Value.int .i64)) rfl own7 g7 1 [.int .i64 rx] rfl rfl (fun j u hj => by
         have := r7.cell j
         rw [hj] at this
         rw [add_off, Nat.zero_add]
         exact this) (fun u hu => by rw [List.mem_singleton] at hu; subst hu; rfl) (by unfold maxLen; omega) (by omega) z7.out.size ?_
        intro sa8 sc8 w8 own8 hg8 hat8
        have own9 : OwnN .i64 w8 w0.heap.size TInt sa8 (l + 1) sc8 (xs.take l ++ [rx]) := by
         unfold OwnN
         rw [List.map_append]
         exact own8
        have wm8 := Lib.hid (wm7.push (m := l) own9 hg8 hat8)
        have z8 := Lib.hid (bgrown z7.out hg8 (fun j hj => (OwnR.lt own7 hj).1))
        clear own8 own9 hg8 hat8 own7 wm7 r7 b67 wm3 z3 z7
        refine wpList_plain rfl (fun K hK => ?_)
        go_simp
        refine hK _ _ ?_
        clear hK K
        refine wpList_nil ?_
        have hr9 : Hid (WrI f res (i + 1) ((l + 1 : Nat) : Int)) := by
         show WrI _ _ _ _
         have h1 := hr.out
         have h2 : (sn : Int) - (kn : Int) + 1 = ((l + 1 : Nat) : Int) := by omega
         rw [h2] at h1
         exact h1
        clear hr RC RH
        go_wp2
        go_roundw
        case rel => exact ⟨i + 1, sa8, l + 1, sc8, xs.take l ++ [rx], oa3, oc3, cells3, rfl, rfl, rfl, by go_num, by omega, by omega, hr9, wm8, z8⟩
        case measure => simp [intOf]; omega
     ·have hxB : (x == 3) = false := by rw [beq_eq_false_iff_ne]; exact hx3
      have hr := Lib.hid (s4.out (by omega) (by omega) (fun e => hx3 e.1))
      clear hx3 s1 s2 s3 s4
      obtain ⟨l, hl⟩ : ∃ l, l = sn - kn := ⟨_, rfl⟩
      have hlI2 : (sn : Int) - (kn : Int) = (l : Int) := by omega
      have RC := fun v => run_cut_l (P := Tryz.prog) (kl := .i64) (L := (l : Int)) Tryz.underlying77 Tryz.sizeInt sa sn sc l rfl (by omega) v
      have RH := fun v => run_cut_h (P := Tryz.prog) (kh := .i64) (H := (l : Int)) Tryz.underlying77 Tryz.sizeInt sa sn sc l rfl (by have := (OwnN.caps wmb.out.own).1; omega) v
      have hxl : xs.length = sn := owns_len wmb.out.own
      have hcap := (OwnN.caps wmb.out.own).1
      have NP := Lib.hid ((NumsAt.of_owns wmb.out.own).cut (l := l) (cap := sc) (by omega))
      obtain ⟨pa, hpa⟩ : ∃ pa, pa = cutA sa sc l 1 := ⟨_, rfl⟩
      rw [← hpa] at RC NP
      have hdl : sn - l = (xs.drop l).length := by rw [List.length_drop]; omega
      have CL := Lib.hid (clone_ints wb pa (sn - l) (sc - l) (xs.drop l) NP.out hdl (by omega))
      have hpl : (xs.drop l).length ≤ 100000 := by omega
      generalize xs.drop l = P at CL hpl hdl
      replace hl := Lib.hid hl
      replace hdl := Lib.hid hdl
      replace hxl := Lib.hid hxl
      clear NP hpa hcap
      go_wp2_with fail
      refine CL.out.mono ?_
      rintro e w2 ⟨qa, qc, rfl, hq, hb2⟩
      have wm2 := Lib.hid (wmb.out.below hb2)
      have z2 := Lib.hid (btrans zb.out hb2)
      have SP := Lib.hid (span1_any w2 w0.heap.size (i : Int) qa qc P hq hpl g oa i oc cells wm2.out.bx wm2.out.out (by omega) z2.out.size wm2.out.ap2)
      generalize P.length = pl at SP
      clear hq hb2 CL wmb zb hpl
      go_wp2_with fail
      refine SP.out.mono ?_
      rintro e w3 ⟨rx, hs⟩
      obtain rfl := hs.1
      obtain ⟨oa3, oc3, cells3, wm3, k3⟩ := wm2.out.call hs hg.out
      have z3 := Lib.hid (k3.below z2.out (fun j h => h))
      replace wm3 := Lib.hid wm3
      clear hs k3 SP wm2 z2
      go_upto_region 14 with (fail)
      refine wp_region_list ?_
      refine wpList_plain rfl (fun K hK => ?_)
      go_simp
      refine hK _ _ ?_
      clear hK K
      refine wpList_plain rfl (fun K hK => ?_)
      go_simp
      refine hK _ _ ?_
      clear hK K
      refine wpList_plain rfl (fun K hK => ?_)
      go_simp
      refine hK _ _ ?_
      clear hK K
      refine wpList_plain rfl (fun K hK => ?_)
      go_simp
      refine hK _ _ ?_
      clear hK K
      refine wpList_plain rfl (fun K hK => ?_)
      go_simp
      refine hK _ _ ?_
      clear hK K
      obtain ⟨w7, hw7⟩ : ∃ w7, w7 = w3.alloc (.cells #[.int .i64 rx] TInt) := ⟨_, rfl⟩
      obtain ⟨g7, hg7⟩ : ∃ g7, g7 = w3.heap.size := ⟨_, rfl⟩
      have r7 : RowAt w7 g7 TInt [.int .i64 rx] := by rw [hw7]; exact RowAt.new #[.int .i64 rx] hg7
      have b67 : Below w3.heap.size w3 w7 := by rw [hw7]; exact balloc (Below.refl _ _) _
      rw [← hw7, ← hg7]
      have wm7 := wm3.out.below b67
      have z7 := Lib.hid (btrans z3.out b67)
      have own7 := OwnN.shrinkA wm7.own (m := l) (by omega)
      replace hw7 := Lib.hid hw7
      replace hg7 := Lib.hid hg7
      refine wp_appR rfl (.tmp 57) (.tmp 59) 77 TInt (.int .i64 0) 1 8 rfl Tryz.underlying77 infoI3 rfl (by decide) w0.heap.size sa l sc ((xs.take l).map (Value.int .i64)) rfl own7 g7 1 [.int .i64 rx] rfl rfl (fun j u hj => by
       have := r7.cell j
       rw [hj] at this
       rw [add_off, Nat.zero_add]
       exact this) (fun u hu => by rw [List.mem_singleton] at hu; subst hu; rfl) (by unfold maxLen; omega) (by omega) z7.out.size ?_
      intro sa8 sc8 w8 own8 hg8 hat8
      have own9 : OwnN .i64 w8 w0.heap.size TInt sa8 (l + 1) sc8 (xs.take l ++ [rx]) := by
       unfold OwnN
       rw [List.map_append]
       exact own8
      have wm8 := Lib.hid (wm7.push (m := l) own9 hg8 hat8)
      have z8 := Lib.hid (bgrown z7.out hg8 (fun j hj => (OwnR.lt own7 hj).1))
      clear own8 own9 hg8 hat8 own7 wm7 r7 b67 wm3 z3 z7
      refine wpList_plain rfl (fun K hK => ?_)
      go_simp
      refine hK _ _ ?_
      clear hK K
      refine wpList_nil ?_
      have hr9 : Hid (WrI f res (i + 1) ((l + 1 : Nat) : Int)) := by
       show WrI _ _ _ _
       have h1 := hr.out
       have h2 : (sn : Int) - (kn : Int) + 1 = ((l + 1 : Nat) : Int) := by omega
       rw [h2] at h1
       exact h1
      clear hr RC RH
      go_wp2
      go_roundw
      case rel => exact ⟨i + 1, sa8, l + 1, sc8, xs.take l ++ [rx], oa3, oc3, cells3, rfl, rfl, rfl, by go_num, by omega, by omega, hr9, wm8, z8⟩
      case measure => simp [intOf]; omega
  ·have hlI : ¬ (i : Int) < (n : Int) := by omega
   have hr := Lib.hid (wi.out.fin (by have := hn.out; omega))
   have hsn6 : sn ≤ 100000 := by have := hnI; omega
   go_wp2
   refine bodyPost_ret (v := .tuple #[.slice sa sn sc, .int .i64 0]) (by simp [results, Tryz.results67]) rfl ⟨V.out _ sa sc sn 0 rfl hsn6 ?_, zr.out, _, _, _, wm.out.bx⟩
   rw [hr.out]
   by_cases h1 : 1 < sn
   ·rw [if_pos (by omega), if_pos rfl, if_pos h1]
   ·rw [if_neg (by omega), if_pos rfl, if_neg h1]
set_option maxRecDepth 8000 in
set_option maxHeartbeats 4000000 in
theorem spans_any (w : World) (a : Option Addr) (c : Nat) (f : List Nd) (hf : NdAt w a f) (hl : f.length ≤ 1000) :
  Calls Tryz.prog 43 #[.slice a f.length c] w fun e w' => (∃ v, e = .returned (.tuple #[v, .int .i64 (wrongP f : Int)])) ∧ Below w.heap.size w w' := by
 by_cases h0 : f = []
 ·subst h0
  clear hf hl
  show Calls _ _ #[.slice a 0 c] _ _
  go_enter Tryz.func43, Tryz.ntmps43
  go_wp2
  refine bodyPost_ret (v := .tuple #[.slice none 0 0, .int .i64 4]) (by simp [results, Tryz.results43]) rfl ⟨⟨_, rfl⟩, Below.refl _ _⟩
 ·have hpos : 0 < f.length := List.length_pos_iff.2 h0
  obtain ⟨w1, hw1⟩ : ∃ w1, w1 = w.alloc (.cells #[.slice none 0 0] TInts) := ⟨_, rfl⟩
  obtain ⟨g, hg⟩ : ∃ g, g = w.heap.size := ⟨_, rfl⟩
  have bx : RowAt w1 g TInts [.slice none 0 0] := by rw [hw1]; exact RowAt.new #[.slice none 0 0] hg
  have b1 : Below w.heap.size w w1 := by rw [hw1]; exact balloc (Below.refl _ _) _
  have WK := Lib.hid (work_any w w1 b1 a c f hf h0 hl g (by omega) bx)
  obtain ⟨n, hn⟩ : ∃ n, n = f.length := ⟨_, rfl⟩
  rw [← hn] at WK ⊢
  have hnB : ((n : Int) == 0) = false := by rw [beq_eq_false_iff_ne]; omega
  replace hw1 := Lib.hid hw1
  replace hg := Lib.hid hg
  clear hn bx b1 hpos h0 hl hf
  go_enter Tryz.func43, Tryz.ntmps43
  go_upto_region 4 with (fail)
  rw [← hw1.out, ← hg.out]
  go_wp2_with fail
  refine WK.out.mono ?_
  rintro e w2 ⟨⟨sa, sc, m, ec, rfl, hm, hr⟩, hb, oa, on, oc, bx2⟩
  have c2 : w2.cell? ⟨g, 0, none⟩ = some (.slice oa on oc) := bx2.cell 0
  have hmI : (m : Int) ≤ 100000 := by omega
  replace hb := Lib.hid hb
  clear bx2 WK hm
  by_cases he : ec = 0
  ·rw [if_pos he] at hr
   subst he
   rw [show ((0 : Nat) : Int) = 0 from rfl]
   by_cases h1 : 1 < m
   ·rw [if_pos h1] at hr
    have h1I : (1 : Int) < (m : Int) := by omega
    replace hr := Lib.hid hr
    clear h1
    go_wp2
    refine bodyPost_ret (v := .tuple #[.slice none 0 0, .int .i64 5]) (by simp [results, Tryz.results43]) rfl ⟨⟨.slice none 0 0, by rw [hr.out]; rfl⟩, hb.out⟩
   ·rw [if_neg h1] at hr
    have h1I : ¬ (1 : Int) < (m : Int) := by omega
    replace hr := Lib.hid hr
    clear h1
    go_wp2
    refine bodyPost_ret (v := .tuple #[.slice oa on oc, .int .i64 0]) (by simp [results, Tryz.results43]) rfl ⟨⟨.slice oa on oc, by rw [hr.out]; rfl⟩, hb.out⟩
  ·rw [if_neg he] at hr
   have heB : ((ec : Int) == 0) = false := by rw [beq_eq_false_iff_ne]; omega
   replace hr := Lib.hid hr
   clear he
   go_wp2
   refine bodyPost_ret (v := .tuple #[.slice none 0 0, .int .i64 (ec : Int)]) (by simp [results, Tryz.results43]) rfl ⟨⟨.slice none 0 0, by rw [hr.out]⟩, hb.out⟩
theorem check_nodes (w : World) (a : Option Addr) (c : Nat) (f : List Nd) (hf : NdAt w a f) (hl : f.length ≤ 100000) :
  Calls Tryz.prog 20 #[.slice a f.length c] w fun e w' => e = .returned (.int .i64 (checkP f : Int)) ∧ Below w.heap.size w w' := by
 obtain ⟨res, hres⟩ : ∃ res, res = checkP f := ⟨_, rfl⟩
 rw [← hres]
 unfold checkP at hres
 by_cases h : 24 < f.length
 ·rw [if_pos h] at hres
  have hI : (24 : Int) < (f.length : Int) := by omega
  subst hres
  clear h hf hl
  go_enter Tryz.func20, Tryz.ntmps20
  go_wp2
  go_ret
  exact ⟨rfl, Below.refl _ _⟩
 ·rw [if_neg h] at hres
  have C := Lib.hid (spans_any w a c f hf (by omega))
  generalize wrongP f = wr at C hres
  have hI : ¬ (24 : Int) < (f.length : Int) := by omega
  subst hres
  clear h hf hl
  go_enter Tryz.func20, Tryz.ntmps20
  go_wp2_with fail
  refine C.out.mono ?_
  rintro e w1 ⟨⟨v, rfl⟩, hb⟩
  replace hb := Lib.hid hb
  go_wp2
  go_ret
  exact ⟨rfl, hb.out⟩
end Go.Proofs.YtkehfolcfcbplaaGreatDoor
