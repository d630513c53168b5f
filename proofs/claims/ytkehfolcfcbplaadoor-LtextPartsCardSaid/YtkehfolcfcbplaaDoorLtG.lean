/- The walk of 'LtextParts'. Conditions: what the listed variables hold. -/
import Derived.Test.YtkehfolcfcbplaaDoorLtE
namespace Go.Proofs.YtkehfolcfcbplaaDoor
open Go.RowKit Go.ChangeShapes Go.WideShapes Go.ChangeAt
set_option linter.unusedVariables false
set_option linter.unusedSimpArgs false

theorem frame78 (arr : Array Value) (h : arr.size = 78) : ∃ q : Nat → Value, arr = #[q 0, q 1, q 2, q 3, q 4, q 5, q 6, q 7, q 8, q 9, q 10, q 11, q 12, q 13, q 14, q 15, q 16, q 17, q 18, q 19, q 20, q 21, q 22, q 23, q 24, q 25, q 26, q 27, q 28, q 29, q 30, q 31, q 32, q 33, q 34, q 35, q 36, q 37, q 38, q 39, q 40, q 41, q 42, q 43, q 44, q 45, q 46, q 47, q 48, q 49, q 50, q 51, q 52, q 53, q 54, q 55, q 56, q 57, q 58, q 59, q 60, q 61, q 62, q 63, q 64, q 65, q 66, q 67, q 68, q 69, q 70, q 71, q 72, q 73, q 74, q 75, q 76, q 77] := by
  refine ⟨fun i => arr.toList.getD i undef, ?_⟩
  have h1 := list_getN (l := arr.toList) (n := 78) (by simpa using h)
  apply Array.ext'
  exact h1

/-- append to an empty row: memory only grows -/
theorem run_appNone {w : World} (g0 : Nat) (ad : Option Addr) (m c : Nat) (f : List Nd) (hm : m = f.length) (h0 : 0 < m) (hl : m ≤ 1000) (hf : NdAt w ad f) (base : Nat) (hb : base ≤ w.heap.size) (h1 : RowAt w g0 TNd []) (hg : base ≤ g0) (ty : Nat) :
    ∃ a' cap' w', (Builtin.append_ #[22, 22] ty #[.slice (some ⟨g0, 0, none⟩) 0 0, .slice ad m c]).run Tryd.prog w = .ok (.slice a' m cap') w' ∧ OwnR w' base TNd 2 a' m cap' (pcells f) ∧ Below w.heap.size w w' := by
  obtain ⟨b, off, e, hc⟩ := hf (by omega)
  subst e
  obtain ⟨i, k1, k2, k3, k4⟩ := info_parts infoNd3
  have hcell : ∀ j u, (pcells f)[j]? = some u → w.cell? ⟨b, off + j, none⟩ = some u := fun j u hj => by
    have hjl := (List.getElem?_eq_some_iff.1 hj).1
    rw [pcells_len] at hjl
    obtain ⟨p1, p2⟩ := pcells_at f (j / 2) (by omega)
    obtain ⟨q1, q2⟩ := hc (j / 2) (by omega)
    rcases Nat.mod_two_eq_zero_or_one j with hj2 | hj2
    · have ej : j / 2 * 2 = j := by omega
      rw [ej] at p1 q1
      rw [q1, ← p1, hj]
    · have ej : j / 2 * 2 + 1 = j := by omega
      rw [ej] at p2
      rw [Nat.add_assoc, ej] at q2
      rw [q2, ← p2, hj]
  have hsrc : SrcAt w (some ⟨b, off, none⟩) (pcells f) := .inr ⟨b, off, rfl, hcell⟩
  have hone : ∀ u ∈ pcells f, u.oneCell' = true := by
    intro u hu
    obtain ⟨x, _, hx⟩ := List.mem_flatMap.1 hu
    exact nd_one u hx
  have own0 : OwnR w base TNd 2 (some ⟨g0, 0, none⟩) 0 0 [] := by
    unfold OwnR
    refine ⟨rfl, .inr ⟨g0, 0, #[], rfl, hg, h1, Nat.le_refl _, Nat.zero_le _, rfl, rfl⟩⟩
  obtain ⟨a', cap', w', hr, hown', hgr, hat⟩ := run_appG (P := Tryd.prog) (w := w) 22 ty TNd (.agg #[.int .i64 0, .int .i64 0]) 2 16 Tryd.underlying22 infoNd3 rfl (by decide) base _ 0 0 [] own0 (some ⟨b, off, none⟩) m c (pcells f) (by rw [pcells_len, hm]) hsrc hone (by unfold maxLen; omega) (by omega) hb
  rw [Nat.zero_add] at hr hown'
  rw [List.nil_append] at hown'
  refine ⟨a', cap', w', hr, hown', ?_⟩
  have hg2 := run_append_grow_src (P := Tryd.prog) (w := w) 22 22 ty TNd i _ Tryd.underlying22 k1 k2 (some ⟨g0, 0, none⟩) 0 0 [] (run_firstCells_some w.drew i.size 0 ⟨g0, 0, none⟩ 0 0 [] (by simp) (fun j u hj => by simp at hj)) (.slice (some ⟨b, off, none⟩) m c) m (pcells f) (Src.ofSlice w Tryd.underlying22 ⟨b, off, none⟩ m c (pcells f) (by rw [pcells_len, k3, hm]) (fun j u hj => by rw [add_off]; exact hcell j u hj) hone) (by omega) (by omega) (by unfold Builtin.nextslicecap; rw [if_pos (by omega), k4]; omega)
  rw [hr] at hg2
  injection hg2 with _ e2
  rw [e2]
  exact balloc (bdrewN (n := 1) (Below.refl w.heap.size w)) _
def opsP : List Int := [4, 8, 11, 12]
def headsP : List (List UInt8) := [[33], [88, 32], [70, 32], [71, 32]]
theorem heads_of (r : Nat) (hr : r < 4) : ∃ x hb, opsP[r]? = some x ∧ headsP[r]? = some hb ∧ takesP x = 1 ∧ wordP x ++ (if x = 4 then [] else [32]) = hb ∧ hb.length ≤ 2 := by
  match r, hr with
  | 0, _ => exact ⟨_, _, rfl, rfl, by decide, by decide, by decide⟩
  | 1, _ => exact ⟨_, _, rfl, rfl, by decide, by decide, by decide⟩
  | 2, _ => exact ⟨_, _, rfl, rfl, by decide, by decide, by decide⟩
  | 3, _ => exact ⟨_, _, rfl, rfl, by decide, by decide, by decide⟩
/-- a pointer to a number of a row of numbers -/
def Kp.at (T r : Nat) (l : List Value) : Kp := ⟨fun v w => ∃ g, v = .pointer (some ⟨g, r, none⟩) ∧ RowAt w g T l, fun v w w' h hb => by
  obtain ⟨g, h1, h3⟩ := h
  exact ⟨g, h1, h3.below hb⟩⟩
/-- a slice of nodes -/
def Kp.nds (base n : Nat) (f : List Nd) : Kp := ⟨fun v w => ∃ a c, v = .slice a n c ∧ OwnR w base TNd 2 a n c (pcells f), fun v w w' h hb => by
  obtain ⟨a, c, h1, h3⟩ := h
  exact ⟨a, c, h1, OwnR.keeps (S := fun _ => False) h3 (Keeps.of_below hb) (fun _ _ e => e)⟩⟩
abbrev opsV : List Value := opsP.map (Value.int .i64)
theorem ops_cell {w : World} {g T r : Nat} {x : Int} (h : RowAt w g T opsV) (ho : opsP[r]? = some x) : w.cell? ⟨g, r, none⟩ = some (.int .i64 x) := by
  rw [h.cell r, List.getElem?_map, ho]
  rfl
theorem step_appNone {w : World} {ops : Array Oper} {o : Oper} {act : Act} {Q : Exit → Act → World → Prop} {K : Act → World → Prop} {E : Prop} (hgd : o.guard = none) (s x : Operand)
    (ho : o.op = .call { callee := .builtin .append, args := #[s, x], argTypes := #[22, 22] }) (g0 : Nat) (ad : Option Addr) (m c : Nat) (hs : act.eval s = .slice (some ⟨g0, 0, none⟩) 0 0) (hx : act.eval x = .slice ad m c) (f : List Nd) (hm : m = f.length) (h0 : 0 < m) (hl : m ≤ 1000) (hf : NdAt w ad f) (base : Nat) (hb : base ≤ w.heap.size) (h1 : RowAt w g0 TNd []) (hg : base ≤ g0)
    (h : ∀ a' cap' w', OwnR w' base TNd 2 a' m cap' (pcells f) → Below w.heap.size w w' → K (act.put o.dst (.slice a' m cap')) w') :
    if Region.wanted o (yielded ops act.tmps) = true then Oper.wp Tryd.prog o act w K Q else E := by
  have hw : Region.wanted o (yielded ops act.tmps) = true := by simp [Region.wanted, hgd]
  rw [if_pos hw]
  obtain ⟨a', cap', w', hr, hown', hbl⟩ := run_appNone (w := w) g0 ad m c f hm h0 hl hf base hb h1 hg o.type
  unfold Oper.wp execOp
  simp only [ho, resolve, invoke, builtin, Sem.run_bind, Sem.run_pure, Result.andThen_ok, List.map_toArray, List.map_cons, List.map_nil, hs, hx, hr]
  exact h a' cap' w' hown' hbl
set_option maxRecDepth 12000 in
set_option maxHeartbeats 16000000 in
theorem ltextParts_walk (W : World) (hd : Door W) (v0 : Value) (f : List Nd) (r0 : rSl 2 16 rNd W [v0] f) (v1 : Value) (N : List (List UInt8)) (r1 : rSl 1 16 rNm W [v1] N) (x0 : Int) (hx0 : 0 ≤ x0 ∧ x0 ≤ 255) : Calls Tryd.prog 6 #[v0, v1, .int .u8 x0] W fun e w' => e = .returned (.bool true) ∧ Below W.heap.size W w' := by
  have AW := Lib.hid (fun v (hb : Below W.heap.size W v) => awake_true v (hd.below hb))
  obtain ⟨a, c, rfl, hf, hfl, _, _⟩ := nds_at r0
  obtain ⟨na, nc, rfl, hN, hNl, hNc⟩ := nms_at r1
  have HV := heavy_any W a f.length c na nc N hN hNl hfl
  cases hh : heavyP f.length N with
  | true =>
    rw [hh] at HV
    replace HV := Lib.hid HV
    generalize f.length = n at *
    generalize N.length = m at *
    clear hd r0 r1 hf hfl hN hNl hNc hh hx0
    go_enter Tryd.func6, Tryd.ntmps6
    go_wp2_with fail
    refine HV.out.mono ?_
    rintro e w1 ⟨rfl, rfl⟩
    clear HV
    go_wp2_with fail
    refine (AW.out W (Below.refl _ _)).mono ?_
    rintro e w2 ⟨rfl, hb2⟩
    replace hb2 := Lib.hid hb2
    clear AW
    go_wp2
    go_ret
    exact ⟨rfl, hb2.out⟩
  | false =>
    rw [hh] at HV
    by_cases h24 : f.length < 24
    · have h24I : ¬ (24 : Int) ≤ (f.length : Int) := by omega
      have h24B : decide (24 ≤ f.length) = false := decide_eq_false (by omega)
      obtain ⟨n40, n60, n20⟩ := heavy_not hh
      have hNs : ∀ x ∈ N, x.length ≤ 281474976710656 := fun x hx => by have := n40 x hx; omega
      have TX := fun v (hb : Below W.heap.size W v) => text_form v (hd.below hb) a c f (hf.below hb) (by omega) na nc N (hN.below hb) (by omega) hNc hNs
      by_cases hx : (textP f N).2 = 0
      · have hf0 : 0 < f.length := by
          obtain ⟨t, ht, hp, _⟩ := textP_ok hx
          rw [← hp]
          exact Fm.post_pos t
        obtain ⟨hne, h480⟩ := text_ne hx
        obtain ⟨r, hr4, hr⟩ : ∃ r : Nat, r < 4 ∧ x0 % 4 = (r : Int) := ⟨(x0 % 4).toNat, by omega, by omega⟩
        obtain ⟨x, hb, ho1, ho2, htk, hwd, hbl⟩ := heads_of r hr4
        have hTM := text_more hx (x := (x, 0)) htk h24
        dsimp only at hTM
        rw [hwd] at hTM
        have htm : Int.tmod x0 4 = (r : Int) := by rw [Int.tmod_eq_emod_of_nonneg hx0.1]; exact hr
        have hwr : IntKind.u8.wrap (r : Int) = (r : Int) := IntWalk.u8_in _ (by omega)
        have hrI : (r : Int) < 4 := by omega
        have TXM : Hid (∀ v oa oc, Below W.heap.size W v → OwnR v W.heap.size TNd 2 oa (f.length + 1) oc (pcells f ++ [.int .i64 x, .int .i64 0]) → Calls Tryd.prog 9 #[.slice oa (f.length + 1) oc, .slice na N.length nc] v fun e w' => e = .returned (.tuple #[.string ⟨(textP (f ++ [(x, 0)]) N).1.toArray⟩, .int .i64 ((textP (f ++ [(x, 0)]) N).2 : Int)]) ∧ Below v.heap.size v w') := fun v oa oc hv hw => by
          have hln : (f ++ [((x, 0) : Nd)]).length = f.length + 1 := by rw [List.length_append]; rfl
          have hw2 : OwnR v W.heap.size TNd 2 oa (f ++ [((x, 0) : Nd)]).length oc (pcells (f ++ [((x, 0) : Nd)])) := by rw [hln, pcells_snoc]; exact hw
          have h := text_form v (hd.below hv) oa oc (f ++ [(x, 0)]) (NdAt.of_own hw2) (by rw [hln]; omega) na nc N (hN.below hv) (by omega) hNc hNs
          rw [hln] at h
          exact h
        have ND : Hid (∀ v, Below W.heap.size W v → NdAt v a f) := fun v hv => hf.below hv
        obtain ⟨hbB, hhb⟩ : ∃ hbB : ByteArray, hbB = ⟨hb.toArray⟩ := ⟨_, rfl⟩
        obtain ⟨u, hu⟩ : ∃ u : ByteArray, u = ⟨(textP f N).1.toArray⟩ := ⟨_, rfl⟩
        have hus : (u.size : Int) ≤ 480 := by rw [hu, str_sz]; omega
        have hbs : (hbB.size : Int) ≤ 2 := by rw [hhb, str_sz]; omega
        obtain ⟨ub, hub⟩ : ∃ ub : ByteArray, ub = ⟨(textP (f ++ [(x, 0)]) N).1.toArray⟩ := ⟨_, rfl⟩
        have hCS : (textP (f ++ [(x, 0)]) N).2 = 0 ∧ (ub = hbB ++ u ∨ ub = hbB ++ ⟨#[40]⟩ ++ u ++ ⟨#[41]⟩) := by
          rw [hub, hhb, hu]
          rcases hTM with h | h
          · rw [h]
            exact ⟨rfl, .inl (str_app _ _).symm⟩
          · rw [h]
            refine ⟨rfl, .inr ?_⟩
            have e1 : (⟨#[40]⟩ : ByteArray) = ⟨([40] : List UInt8).toArray⟩ := rfl
            have e2 : (⟨#[41]⟩ : ByteArray) = ⟨([41] : List UInt8).toArray⟩ := rfl
            rw [e1, e2, str_app, str_app, str_app]
            simp
        rw [hx, ← hu] at TX
        rw [← hub, hCS.1] at TXM
        rw [show ((0 : Nat) : Int) = 0 from rfl] at TX TXM
        obtain ⟨n, hn⟩ : ∃ n, n = f.length := ⟨_, rfl⟩
        have hn24 : (n : Int) ≤ 24 := by omega
        have hn0 := Lib.hid hf0
        rw [← hn] at TX TXM HV h24I h24B hn0 ⊢
        obtain ⟨m, hm⟩ : ∃ m, m = N.length := ⟨_, rfl⟩
        rw [← hm] at TX TXM HV ⊢
        replace HV := Lib.hid HV
        replace TX := Lib.hid TX
        have hCS2 := Lib.hid hCS.2
        replace hn := Lib.hid hn
        replace hm := Lib.hid hm
        replace hr4 := Lib.hid hr4
        replace ho1 := Lib.hid ho1
        replace ho2 := Lib.hid ho2
        replace hhb := Lib.hid hhb
        clear hd r0 r1 hf hfl hN hNl hNc hh n40 n60 n20 hNs h24 hx hf0 hne h480 hr htk hwd hbl hTM hx0 hu hub hCS
        go_enter Tryd.func6, Tryd.ntmps6
        go_wp2_with fail
        refine HV.out.mono ?_
        rintro e w1 ⟨rfl, rfl⟩
        clear HV
        go_wp2_with fail
        refine (TX.out W (Below.refl _ _)).mono ?_
        rintro e w2 ⟨rfl, hb2⟩
        have z2 := Lib.hid hb2
        clear hb2 TX
        go_upto_region 6 with (fail)
        refine wp_region_list ?_
        refine wpList_plain rfl (fun K hK => ?_)
        go_simp
        refine hK _ _ ?_
        clear hK K
        obtain ⟨w3, hw3⟩ : ∃ w3, w3 = w2.alloc (.cells #[.string ⟨#[33]⟩, .string ⟨#[88, 32]⟩, .string ⟨#[70, 32]⟩, .string ⟨#[71, 32]⟩] 9) := ⟨_, rfl⟩
        obtain ⟨g3, hg3⟩ : ∃ g3, g3 = w2.heap.size := ⟨_, rfl⟩
        have r3 : RowAt w3 g3 9 [.string ⟨#[33]⟩, .string ⟨#[88, 32]⟩, .string ⟨#[70, 32]⟩, .string ⟨#[71, 32]⟩] := by rw [hw3]; exact RowAt.new #[.string ⟨#[33]⟩, .string ⟨#[88, 32]⟩, .string ⟨#[70, 32]⟩, .string ⟨#[71, 32]⟩] hg3
        have b3 : Below w2.heap.size w2 w3 := by rw [hw3]; exact balloc (Below.refl _ _) _
        rw [← hw3, ← hg3]
        have z3 := Lib.hid (btrans z2.out b3)
        have c3 : w3.cell? ⟨g3, r, none⟩ = some (.string hbB) := by
          rw [r3.cell r, hhb.out]
          have h1 := ho2.out
          have h4 := hr4.out
          match r, h4, h1 with
          | 0, _, h1 => cases h1; rfl
          | 1, _, h1 => cases h1; rfl
          | 2, _, h1 => cases h1; rfl
          | 3, _, h1 => cases h1; rfl
        clear b3 r3
        replace hw3 := Lib.hid hw3
        replace hg3 := Lib.hid hg3
        refine wpList_plain rfl (fun K hK => ?_)
        go_simp
        refine hK _ _ ?_
        clear hK K
        refine wpList_plain rfl (fun K hK => ?_)
        go_simp
        refine hK _ _ ?_
        clear hK K
        refine wpList_plain rfl (fun K hK => ?_)
        go_simp
        refine hK _ _ ?_
        clear hK K
        refine wpList_plain rfl (fun K hK => ?_)
        go_simp
        refine hK _ _ ?_
        clear hK K
        refine wpList_plain rfl (fun K hK => ?_)
        go_simp
        refine hK _ _ ?_
        clear hK K
        refine wpList_nil ?_
        clear c3
        go_upto_region 7 with (fail)
        refine wp_region_kp (by kernel_rfl) 10 [Kp.row W.heap.size TNd 0 [], .fix (.slice a n c), Kp.nds W.heap.size n f, Kp.row W.heap.size 3 4 opsV, .fix (.int .u8 x0), .fix (.int .u8 (r : Int)), Kp.at 3 r opsV, .fix (.int .i64 x), .fix (.agg #[.int .i64 x, .int .i64 0]), Kp.row W.heap.size TNd 1 [.int .i64 x, .int .i64 0]] (by kernel_rfl) (by kernel_rfl) (by kernel_rfl) ?_ ?_
        · intro i hi
          match i, hi with
          | 0, _ =>
            intro o ho ac w' hR hF hD K hK
            simp only [List.getElem?_toArray, List.getElem?_cons_zero, Option.some.injEq] at ho
            subst ho
            clear hD hF
            go_simp
            exact hK _ _ (balloc (Below.refl _ _) _) ⟨_, rfl, Nat.le_trans z3.out.size hR.size, RowAt.new #[] rfl⟩
          | 1, _ =>
            intro o ho ac w' hR hF hD K hK
            simp only [List.getElem?_toArray, List.getElem?_cons_zero, List.getElem?_cons_succ, Option.some.injEq] at ho
            subst ho
            have e0 : ac.tmps.getD 0 undef = .slice a n c := hF 0 (notDst_spec (by kernel_rfl))
            have d0 := (Array.getD_eq_getD_getElem? (xs := ac.tmps) (i := 0) (d := undef)).symm.trans e0
            clear hD hF
            go_simp
            exact hK _ _ (Below.refl _ _) rfl
          | 2, _ =>
            intro o ho ac w' hR hF hD K hK
            simp only [List.getElem?_toArray, List.getElem?_cons_zero, List.getElem?_cons_succ, Option.some.injEq] at ho
            subst ho
            have y40 := hD 0 (dep_spec (by kernel_rfl)) 40 rfl
            obtain ⟨g0, e40, hg0, rg0⟩ := y40
            have d40 := (Array.getD_eq_getD_getElem? (xs := ac.tmps) (i := 40) (d := undef)).symm.trans e40
            have e41 : ac.tmps.getD 41 undef = .slice a n c := hD 1 (dep_spec (by kernel_rfl)) 41 rfl
            have d41 := (Array.getD_eq_getD_getElem? (xs := ac.tmps) (i := 41) (d := undef)).symm.trans e41
            clear hD hF
            refine step_appNone rfl _ _ rfl g0 a n c e40 e41 f hn.out hn0.out (by omega) (ND.out _ (btrans z3.out hR)) W.heap.size (Nat.le_trans z3.out.size hR.size) rg0 hg0 ?_
            intro a' c' w2' ho hbl
            exact hK _ _ hbl ⟨a', c', rfl, ho⟩
          | 3, _ =>
            intro o ho ac w' hR hF hD K hK
            simp only [List.getElem?_toArray, List.getElem?_cons_zero, List.getElem?_cons_succ, Option.some.injEq] at ho
            subst ho
            clear hD hF
            go_simp
            exact hK _ _ (balloc (Below.refl _ _) _) ⟨_, rfl, Nat.le_trans z3.out.size hR.size, RowAt.new #[.int .i64 4, .int .i64 8, .int .i64 11, .int .i64 12] rfl⟩
          | 4, _ =>
            intro o ho ac w' hR hF hD K hK
            simp only [List.getElem?_toArray, List.getElem?_cons_zero, List.getElem?_cons_succ, Option.some.injEq] at ho
            subst ho
            have e2 : ac.tmps.getD 2 undef = .int .u8 x0 := hF 2 (notDst_spec (by kernel_rfl))
            have d2 := (Array.getD_eq_getD_getElem? (xs := ac.tmps) (i := 2) (d := undef)).symm.trans e2
            clear hD hF
            go_simp
            exact hK _ _ (Below.refl _ _) rfl
          | 5, _ =>
            intro o ho ac w' hR hF hD K hK
            simp only [List.getElem?_toArray, List.getElem?_cons_zero, List.getElem?_cons_succ, Option.some.injEq] at ho
            subst ho
            have e44 : ac.tmps.getD 44 undef = .int .u8 x0 := hD 4 (dep_spec (by kernel_rfl)) 44 rfl
            have d44 := (Array.getD_eq_getD_getElem? (xs := ac.tmps) (i := 44) (d := undef)).symm.trans e44
            clear hD hF
            go_simp
            exact hK _ _ (Below.refl _ _) rfl
          | 6, _ =>
            intro o ho ac w' hR hF hD K hK
            simp only [List.getElem?_toArray, List.getElem?_cons_zero, List.getElem?_cons_succ, Option.some.injEq] at ho
            subst ho
            have y43 := hD 3 (dep_spec (by kernel_rfl)) 43 rfl
            obtain ⟨g4, e43, hg4, rg4⟩ := y43
            have d43 := (Array.getD_eq_getD_getElem? (xs := ac.tmps) (i := 43) (d := undef)).symm.trans e43
            have e45 : ac.tmps.getD 45 undef = .int .u8 (r : Int) := hD 5 (dep_spec (by kernel_rfl)) 45 rfl
            have d45 := (Array.getD_eq_getD_getElem? (xs := ac.tmps) (i := 45) (d := undef)).symm.trans e45
            clear hD hF
            go_simp
            exact hK _ _ (Below.refl _ _) ⟨g4, rfl, rg4⟩
          | 7, _ =>
            intro o ho ac w' hR hF hD K hK
            simp only [List.getElem?_toArray, List.getElem?_cons_zero, List.getElem?_cons_succ, Option.some.injEq] at ho
            subst ho
            have y46 := hD 6 (dep_spec (by kernel_rfl)) 46 rfl
            obtain ⟨g6, e46, rg6⟩ := y46
            have d46 := (Array.getD_eq_getD_getElem? (xs := ac.tmps) (i := 46) (d := undef)).symm.trans e46
            clear hD hF
            have c6 := ops_cell rg6 ho1.out
            go_simp
            exact hK _ _ (Below.refl _ _) rfl
          | 8, _ =>
            intro o ho ac w' hR hF hD K hK
            simp only [List.getElem?_toArray, List.getElem?_cons_zero, List.getElem?_cons_succ, Option.some.injEq] at ho
            subst ho
            have e47 : ac.tmps.getD 47 undef = .int .i64 x := hD 7 (dep_spec (by kernel_rfl)) 47 rfl
            have d47 := (Array.getD_eq_getD_getElem? (xs := ac.tmps) (i := 47) (d := undef)).symm.trans e47
            clear hD hF
            go_simp
            exact hK _ _ (Below.refl _ _) rfl
          | 9, _ =>
            intro o ho ac w' hR hF hD K hK
            simp only [List.getElem?_toArray, List.getElem?_cons_zero, List.getElem?_cons_succ, Option.some.injEq] at ho
            subst ho
            have e48 : ac.tmps.getD 48 undef = .agg #[.int .i64 x, .int .i64 0] := hD 8 (dep_spec (by kernel_rfl)) 48 rfl
            have d48 := (Array.getD_eq_getD_getElem? (xs := ac.tmps) (i := 48) (d := undef)).symm.trans e48
            clear hD hF
            go_simp
            exact hK _ _ (balloc (Below.refl _ _) _) ⟨_, rfl, Nat.le_trans z3.out.size hR.size, RowAt.new #[.int .i64 x, .int .i64 0] rfl⟩
          | k + 10, hk => omega
        · rintro ⟨tm, df⟩ w5 hdf hsz hF hR9 hV
          obtain rfl : df = [] := hdf
          obtain ⟨q, rfl⟩ := frame78 tm hsz
          have h2 := hV 2 42 (by decide) rfl
          obtain ⟨a5, c5, e5, ow5⟩ : ∃ a' c', q 42 = .slice a' n c' ∧ OwnR w5 W.heap.size TNd 2 a' n c' (pcells f) := h2
          simp only [e5]
          clear e5
          have h9 := hV 9 49 (by decide) rfl
          obtain ⟨g9, e9, _, rg9⟩ : ∃ g, q 49 = .slice (some ⟨g, 0, none⟩) 1 1 ∧ W.heap.size ≤ g ∧ RowAt w5 g TNd [.int .i64 x, .int .i64 0] := h9
          simp only [e9]
          clear e9
          have z5 := Lib.hid (btrans z3.out hR9)
          have k0 := hF 0 (notDst_spec (by kernel_rfl))
          have k1 := hF 1 (notDst_spec (by kernel_rfl))
          have k2 := hF 2 (notDst_spec (by kernel_rfl))
          have k3 := hF 3 (notDst_spec (by kernel_rfl))
          have k4 := hF 4 (notDst_spec (by kernel_rfl))
          have k5 := hF 5 (notDst_spec (by kernel_rfl))
          have k6 := hF 6 (notDst_spec (by kernel_rfl))
          have k7 := hF 7 (notDst_spec (by kernel_rfl))
          have k8 := hF 8 (notDst_spec (by kernel_rfl))
          have k9 := hF 9 (notDst_spec (by kernel_rfl))
          have k10 := hF 10 (notDst_spec (by kernel_rfl))
          have k11 := hF 11 (notDst_spec (by kernel_rfl))
          have k12 := hF 12 (notDst_spec (by kernel_rfl))
          have k13 := hF 13 (notDst_spec (by kernel_rfl))
          have k14 := hF 14 (notDst_spec (by kernel_rfl))
          have k15 := hF 15 (notDst_spec (by kernel_rfl))
          have k16 := hF 16 (notDst_spec (by kernel_rfl))
          have k17 := hF 17 (notDst_spec (by kernel_rfl))
          have k18 := hF 18 (notDst_spec (by kernel_rfl))
          have k19 := hF 19 (notDst_spec (by kernel_rfl))
          have k20 := hF 20 (notDst_spec (by kernel_rfl))
          have k21 := hF 21 (notDst_spec (by kernel_rfl))
          have k22 := hF 22 (notDst_spec (by kernel_rfl))
          have k23 := hF 23 (notDst_spec (by kernel_rfl))
          have k24 := hF 24 (notDst_spec (by kernel_rfl))
          have k25 := hF 25 (notDst_spec (by kernel_rfl))
          have k26 := hF 26 (notDst_spec (by kernel_rfl))
          have k27 := hF 27 (notDst_spec (by kernel_rfl))
          have k28 := hF 28 (notDst_spec (by kernel_rfl))
          have k29 := hF 29 (notDst_spec (by kernel_rfl))
          have k30 := hF 30 (notDst_spec (by kernel_rfl))
          have k31 := hF 31 (notDst_spec (by kernel_rfl))
          have k32 := hF 32 (notDst_spec (by kernel_rfl))
          have k33 := hF 33 (notDst_spec (by kernel_rfl))
          have k34 := hF 34 (notDst_spec (by kernel_rfl))
          have k35 := hF 35 (notDst_spec (by kernel_rfl))
          have k36 := hF 36 (notDst_spec (by kernel_rfl))
          have k37 := hF 37 (notDst_spec (by kernel_rfl))
          have k38 := hF 38 (notDst_spec (by kernel_rfl))
          have k39 := hF 39 (notDst_spec (by kernel_rfl))
          have k50 := hF 50 (notDst_spec (by kernel_rfl))
          have k51 := hF 51 (notDst_spec (by kernel_rfl))
          have k52 := hF 52 (notDst_spec (by kernel_rfl))
          have k53 := hF 53 (notDst_spec (by kernel_rfl))
          have k54 := hF 54 (notDst_spec (by kernel_rfl))
          have k55 := hF 55 (notDst_spec (by kernel_rfl))
          have k56 := hF 56 (notDst_spec (by kernel_rfl))
          have k57 := hF 57 (notDst_spec (by kernel_rfl))
          have k58 := hF 58 (notDst_spec (by kernel_rfl))
          have k59 := hF 59 (notDst_spec (by kernel_rfl))
          have k60 := hF 60 (notDst_spec (by kernel_rfl))
          have k61 := hF 61 (notDst_spec (by kernel_rfl))
          have k62 := hF 62 (notDst_spec (by kernel_rfl))
          have k63 := hF 63 (notDst_spec (by kernel_rfl))
          have k64 := hF 64 (notDst_spec (by kernel_rfl))
          have k65 := hF 65 (notDst_spec (by kernel_rfl))
          have k66 := hF 66 (notDst_spec (by kernel_rfl))
          have k67 := hF 67 (notDst_spec (by kernel_rfl))
          have k68 := hF 68 (notDst_spec (by kernel_rfl))
          have k69 := hF 69 (notDst_spec (by kernel_rfl))
          have k70 := hF 70 (notDst_spec (by kernel_rfl))
          have k71 := hF 71 (notDst_spec (by kernel_rfl))
          have k72 := hF 72 (notDst_spec (by kernel_rfl))
          have k73 := hF 73 (notDst_spec (by kernel_rfl))
          have k74 := hF 74 (notDst_spec (by kernel_rfl))
          have k75 := hF 75 (notDst_spec (by kernel_rfl))
          have k76 := hF 76 (notDst_spec (by kernel_rfl))
          have k77 := hF 77 (notDst_spec (by kernel_rfl))
          simp only [Array.getD_eq_getD_getElem?, List.getElem?_toArray, List.getElem?_cons_succ, List.getElem?_cons_zero, Option.getD_some] at k0 k1 k2 k3 k4 k5 k6 k7 k8 k9 k10 k11 k12 k13 k14 k15 k16 k17 k18 k19 k20 k21 k22 k23 k24 k25 k26 k27 k28 k29 k30 k31 k32 k33 k34 k35 k36 k37 k38 k39 k50 k51 k52 k53 k54 k55 k56 k57 k58 k59 k60 k61 k62 k63 k64 k65 k66 k67 k68 k69 k70 k71 k72 k73 k74 k75 k76 k77
          simp only [k0, k1, k2, k3, k4, k5, k6, k7, k8, k9, k10, k11, k12, k13, k14, k15, k16, k17, k18, k19, k20, k21, k22, k23, k24, k25, k26, k27, k28, k29, k30, k31, k32, k33, k34, k35, k36, k37, k38, k39, k50, k51, k52, k53, k54, k55, k56, k57, k58, k59, k60, k61, k62, k63, k64, k65, k66, k67, k68, k69, k70, k71, k72, k73, k74, k75, k76, k77]
          clear k0 k1 k2 k3 k4 k5 k6 k7 k8 k9 k10 k11 k12 k13 k14 k15 k16 k17 k18 k19 k20 k21 k22 k23 k24 k25 k26 k27 k28 k29 k30 k31 k32 k33 k34 k35 k36 k37 k38 k39 k50 k51 k52 k53 k54 k55 k56 k57 k58 k59 k60 k61 k62 k63 k64 k65 k66 k67 k68 k69 k70 k71 k72 k73 k74 k75 k76 k77
          clear hF hV hsz
          change wpAny _ _ _ _ 2 _ _ _
          refine wpAny_ready (rs := [10]) (by kernel_rfl) (by simp) ?_
          refine AllReady.cons (i := 10) rfl (fun K hK => ?_) AllReady.nil
          refine step_appG rfl _ _ 22 TNd (.agg #[.int .i64 0, .int .i64 0]) 2 16 rfl Tryd.underlying22 infoNd3 rfl (by decide) W.heap.size a5 n c5 (pcells f) rfl ow5 (some ⟨g9, 0, none⟩) 1 1 [.int .i64 x, .int .i64 0] rfl rfl (SrcAt.row rg9) nd_one (by unfold maxLen; omega) (by omega) z5.out.size ?_
          intro a6 c6 w6 ow6 hg6 _
          have z6 := Lib.hid (bgrown z5.out hg6 (fun j hj => (OwnR.lt ow5 hj).1))
          refine hK _ _ ?_
          clear hK K hg6 ow5 rg9 z5
          refine wpAny_ready (rs := [11]) (by kernel_rfl) (by simp) ?_
          refine AllReady.cons (i := 11) rfl (fun K hK => ?_) AllReady.nil
          go_simp
          refine hK _ _ ?_
          clear hK K
          refine ⟨by kernel_rfl, ?_⟩
          have T6 := Lib.hid (TXM.out w6 a6 c6 z6.out ow6)
          clear TXM ow6 ND
          go_wp2_with fail
          refine T6.out.mono ?_
          rintro e w7 ⟨rfl, hb7⟩
          have z7 := Lib.hid (btrans z6.out hb7)
          clear hb7 T6 z6 z3 z2
          rcases hCS2.out with rfl | rfl
          · clear hCS2
            have A7 := Lib.hid (AW.out w7 z7.out)
            clear AW
            go_wp2_with fail
            refine A7.out.mono ?_
            rintro e w8 ⟨rfl, hb8⟩
            have z8 := Lib.hid (btrans z7.out hb8)
            clear hb8 A7
            go_wp2
            go_ret
            exact ⟨rfl, z8.out⟩
          · clear hCS2
            have hne : ¬ (hbB ++ ⟨#[40]⟩ ++ u ++ ⟨#[41]⟩ : ByteArray) = hbB ++ u := fun e => by
              have h1 := congrArg ByteArray.size e
              simp only [ByteArray.size_append] at h1
              have h2 : (⟨#[40]⟩ : ByteArray).size = 1 := rfl
              have h3 : (⟨#[41]⟩ : ByteArray).size = 1 := rfl
              omega
            have hneB := str_no hne
            have hneP : ¬ (hbB ++ ⟨#[40]⟩ ++ u ++ ⟨#[41]⟩ : ByteArray).toList = (hbB ++ u).toList := fun e => by
              rw [e, beq_self_eq_true] at hneB
              cases hneB
            clear hne
            have k1 : ¬ 9223372036854775807 < hbB.size + 1 := by omega
            have k2 : ¬ 9223372036854775807 < hbB.size + 1 + u.size := by omega
            have k3 : ¬ 9223372036854775807 < hbB.size + 1 + u.size + 1 := by omega
            have k4 : ¬ 9223372036854775807 < hbB.size + u.size := by omega
            have A7 := Lib.hid (AW.out w7 z7.out)
            clear AW
            go_wp2_with fail
            refine A7.out.mono ?_
            rintro e w8 ⟨rfl, hb8⟩
            have z8 := Lib.hid (btrans z7.out hb8)
            clear hb8 A7
            go_wp2
            go_ret
            exact ⟨rfl, z8.out⟩
      · have hs0 := textP_no hx
        rw [hs0] at TX
        obtain ⟨y, hy⟩ : ∃ y, y = (textP f N).2 := ⟨_, rfl⟩
        rw [← hy] at TX hx
        have hyB : ((y : Int) != 0) = true := by rw [bne_iff_ne]; omega
        have hyN : (y != 0) = true := by rw [bne_iff_ne]; exact hx
        replace HV := Lib.hid HV
        replace TX := Lib.hid TX
        generalize f.length = n at *
        generalize N.length = m at *
        clear hd r0 r1 hf hfl hN hNl hNc hh n40 n60 n20 hNs h24 hx hs0 hy hx0
        go_enter Tryd.func6, Tryd.ntmps6
        go_wp2_with fail
        refine HV.out.mono ?_
        rintro e w1 ⟨rfl, rfl⟩
        clear HV
        go_wp2_with fail
        refine (TX.out W (Below.refl _ _)).mono ?_
        rintro e w2 ⟨rfl, hb2⟩
        have A2 := Lib.hid (AW.out w2 hb2)
        have z2 := Lib.hid hb2
        clear hb2 TX AW
        go_wp2_with fail
        refine A2.out.mono ?_
        rintro e w3 ⟨rfl, hb3⟩
        have z3 := Lib.hid (btrans z2.out hb3)
        clear hb3 A2
        go_wp2
        go_ret
        exact ⟨rfl, z3.out⟩
    · have h24I : (24 : Int) ≤ (f.length : Int) := by omega
      have h24B : decide (24 ≤ f.length) = true := decide_eq_true (by omega)
      replace HV := Lib.hid HV
      generalize f.length = n at *
      generalize N.length = m at *
      clear hd r0 r1 hf hfl hN hNl hNc hh h24 hx0
      go_enter Tryd.func6, Tryd.ntmps6
      go_wp2_with fail
      refine HV.out.mono ?_
      rintro e w1 ⟨rfl, rfl⟩
      clear HV
      go_wp2_with fail
      refine (AW.out W (Below.refl _ _)).mono ?_
      rintro e w2 ⟨rfl, hb2⟩
      replace hb2 := Lib.hid hb2
      clear AW
      go_wp2
      go_ret
      exact ⟨rfl, hb2.out⟩
end Go.Proofs.YtkehfolcfcbplaaDoor
