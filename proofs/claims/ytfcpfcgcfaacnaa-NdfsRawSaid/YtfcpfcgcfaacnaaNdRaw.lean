/- The walk of 'NdfsRaw', its main case. No conditions but the form's reach. -/
import Derived.Test.YtfcpfcgcfaacnaaNdRawD
import Derived.Test.YtfcpfcgcfaacnaaEqInts
import Derived.BigRegion
namespace Go.Proofs.Ytfcpfcgcfaacnaa
open Go.RowKit

set_option linter.unusedVariables false
set_option maxRecDepth 20000 in
set_option maxHeartbeats 16000000 in
theorem raw_light (W : World) (X : RX) (G : GR) (sets : List (List Bool)) (A : AU) (b1 b2 : Int) (h : LawIn W X G sets A) (k9 y9 n9 e9 d9 : Int) (sa la : Option Addr) (sc lc : Nat) (stem loop : List PP) (ps : PpsAt W sa stem) (pl : PpsAt W la loop) (hl : lightK G sets A = true) (hs : stem.length ≤ 20) (hl2 : loop.length ≤ 20) :
    Calls Try.prog 8 #[.agg (tcells X G sets A).toArray, .agg #[.int .i64 k9, .int .i64 y9, .int .i64 n9, .int .i64 e9, .int .i64 d9, .slice sa stem.length sc, .slice la loop.length lc], .agg #[.int .i64 b1, .int .i64 b2]] W fun e w' => e = .returned (.bool true) ∧ Below W.heap.size W w' := by
  obtain ⟨ai, ae, al, as_, bi, bn, ci, ce, cl, cs, di, dn⟩ := X
  dsimp only [tcells]
  have lt := lightK_lt hl
  have GRC : Hid (∀ w, Below W.heap.size W w → Calls Try.prog 13 #[.agg #[.slice ai G.init.length ci, .slice ae G.edges.length ce, .slice al G.labels.length cl], .slice as_ sets.length cs] w (SrcMade G sets w)) := fun w hb => graph_any w ai ae al as_ ci ce cl cs G sets (h.g.below hb) h.ok (h.s.below hb)
  have NVC : Hid (∀ w, Below W.heap.size W w → ∀ v, SrcV w G sets v → Calls Try.prog 12 #[v, .agg #[.int .i64 A.sets, .slice bi A.init.length di, .slice bn A.nodes.length dn]] w (NewMade G sets A w)) := fun w hb v hv => new_v w bi bn di dn G sets A v hv h.ok (h.au.below hb) h.aok
  have RN := Lib.hid (fun w (hb : Below W.heap.size W w) => rnew_any w ⟨ai, ae, al, as_, bi, bn, ci, ce, cl, cs, di, dn⟩ G sets A (h.g.below hb) h.ok (h.s.below hb) (h.au.below hb) h.aok)
  have RPA : Hid (newB G sets A = true → ∀ w, Below W.heap.size W w → RpA w ⟨ai, ae, al, as_, bi, bn, ci, ce, cl, cs, di, dn⟩ G sets A) := fun hn => by
    obtain ⟨hs, hc⟩ := newB_split hn
    exact fun w hb => ⟨h.g.below hb, h.s.below hb, h.au.below hb, hs, hc, h.ok, h.aok, lt⟩
  have PLS0 := Lib.hid (fun w (hb : Below W.heap.size W w) => plain_any w sa sc stem (ps.below hb) (by omega))
  have PLL0 := Lib.hid (fun w (hb : Below W.heap.size W w) => plain_any w la lc loop (pl.below hb) (by omega))
  have LAS0 := Lib.hid (fun w (hb : Below W.heap.size W w) => lassoV_any w k9 y9 n9 e9 d9 sa la sc lc stem loop (ps.below hb) (pl.below hb) (by omega) (by omega))
  have ACT0 := Lib.hid (fun w (hb : Below W.heap.size W w) v (hv : NewV w G sets A v) => acts_nv w v G sets A hv lt k9 y9 n9 e9 d9 sa la sc lc stem loop (ps.below hb) (pl.below hb) (by omega) (by omega))
  obtain ⟨n1, hn1⟩ : ∃ n, n = stem.length := ⟨_, rfl⟩
  obtain ⟨n2, hn2⟩ : ∃ n, n = loop.length := ⟨_, rfl⟩
  have B0 := BoxR.start W ⟨ai, ae, al, as_, bi, bn, ci, ce, cl, cs, di, dn⟩ G sets A #[.int .i64 k9, .int .i64 y9, .int .i64 n9, .int .i64 e9, .int .i64 d9, .slice sa stem.length sc, .slice la loop.length lc] b1 b2
  rw [← hn1, ← hn2] at B0 ⊢
  obtain ⟨w2, hw2⟩ : ∃ w2, w2 = ((W.alloc (.cells #[.slice ai G.init.length ci, .slice ae G.edges.length ce, .slice al G.labels.length cl, .slice as_ sets.length cs, .int .i64 A.sets, .slice bi A.init.length di, .slice bn A.nodes.length dn] TTk)).alloc (.cells #[.int .i64 k9, .int .i64 y9, .int .i64 n9, .int .i64 e9, .int .i64 d9, .slice sa n1 sc, .slice la n2 lc] TFd)).alloc (.cells #[.int .i64 b1, .int .i64 b2] TBu) := ⟨_, rfl⟩
  replace B0 : BoxR W ⟨ai, ae, al, as_, bi, bn, ci, ce, cl, cs, di, dn⟩ G sets A [.int .i64 k9, .int .i64 y9, .int .i64 n9, .int .i64 e9, .int .i64 d9, .slice sa n1 sc, .slice la n2 lc] b1 b2 w2 := by rw [hw2]; exact B0
  have HV : Hid (∀ w, Below W.heap.size W w → Calls Try.prog 9 #[.agg #[.slice ai G.init.length ci, .slice ae G.edges.length ce, .slice al G.labels.length cl, .slice as_ sets.length cs, .int .i64 A.sets, .slice bi A.init.length di, .slice bn A.nodes.length dn]] w fun e w' => e = .returned (.int .i64 0) ∧ Below w.heap.size w w') := fun w hb => by
    have := heavy_any w ⟨ai, ae, al, as_, bi, bn, ci, ce, cl, cs, di, dn⟩ G sets A (h.below hb)
    rw [heavyN_0 hl] at this
    exact this
  have hb0 := Lib.hid B0.below
  replace B0 := Lib.hid B0
  have t0 : w2.cell? ⟨W.heap.size, 0, none⟩ = some (.slice ai G.init.length ci) := B0.out.rt.cell 0
  have t1 : w2.cell? ⟨W.heap.size, 1, none⟩ = some (.slice ae G.edges.length ce) := B0.out.rt.cell 1
  have t2 : w2.cell? ⟨W.heap.size, 2, none⟩ = some (.slice al G.labels.length cl) := B0.out.rt.cell 2
  have t3 : w2.cell? ⟨W.heap.size, 3, none⟩ = some (.slice as_ sets.length cs) := B0.out.rt.cell 3
  have t4 : w2.cell? ⟨W.heap.size, 4, none⟩ = some (.int .i64 A.sets) := B0.out.rt.cell 4
  have t5 : w2.cell? ⟨W.heap.size, 5, none⟩ = some (.slice bi A.init.length di) := B0.out.rt.cell 5
  have t6 : w2.cell? ⟨W.heap.size, 6, none⟩ = some (.slice bn A.nodes.length dn) := B0.out.rt.cell 6
  replace hw2 := Lib.hid hw2
  replace hn1 := Lib.hid hn1.symm
  replace hn2 := Lib.hid hn2.symm
  go_enter Try.func8, Try.ntmps8
  go_upto_region 1 with (fail)
  rw [← hw2.out]
  clear hw2
  go_wp2_with fail
  refine (HV.out _ hb0.out).mono ?_
  rintro e w3 ⟨rfl, hb3⟩
  have BT := B0.out.next hb3
  have f5 : w3.cell? ⟨W.heap.size + 1, 5, none⟩ = some (.slice sa n1 sc) := BT.rf.cell 5
  have f6 : w3.cell? ⟨W.heap.size + 1, 6, none⟩ = some (.slice la n2 lc) := BT.rf.cell 6
  clear t0 t1 t2 t3 t4 t5 t6
  have h20 : (n1 : Int) ≤ 20 := by have := hn1.out; omega
  have h21 : (n2 : Int) ≤ 20 := by have := hn2.out; omega
  rw [hn1.out] at hs
  rw [hn2.out] at hl2
  have PLS : Hid (∀ w, Below W.heap.size W w → Calls Try.prog 22 #[.slice sa n1 sc] w fun e w' => ∃ a c, e = .returned (.slice a n1 c) ∧ OwnR w' w.heap.size TRq 3 a n1 c (qcells stem) ∧ Below w.heap.size w w') := fun w hb => by
    have := PLS0.out w hb
    unfold OwnQ at this
    rw [hn1.out] at this
    exact this
  have PLL : Hid (∀ w, Below W.heap.size W w → Calls Try.prog 22 #[.slice la n2 lc] w fun e w' => ∃ a c, e = .returned (.slice a n2 c) ∧ OwnR w' w.heap.size TRq 3 a n2 c (qcells loop) ∧ Below w.heap.size w w') := fun w hb => by
    have := PLL0.out w hb
    unfold OwnQ at this
    rw [hn2.out] at this
    exact this
  have LAS : Hid (∀ w, Below W.heap.size W w → Calls Try.prog 16 #[.agg #[.int .i64 k9, .int .i64 y9, .int .i64 n9, .int .i64 e9, .int .i64 d9, .slice sa n1 sc, .slice la n2 lc]] w fun e w' => ∃ a c a2 c2, e = .returned (.agg #[.slice a n1 c, .slice a2 n2 c2]) ∧ NumsNew w.heap.size w' a (stem.map PP.node) ∧ NumsNew w.heap.size w' a2 (loop.map PP.node) ∧ Below w.heap.size w w') := fun w hb => by
    have := LAS0.out w hb
    rw [hn1.out, hn2.out] at this
    refine this.mono fun e w' ⟨v', e1, e2, a, c, a2, c2, e3, e4, e5⟩ => ⟨a, c, a2, c2, ?_, e4, e5, e2⟩
    rw [e1, e3, List.length_map, List.length_map, hn1.out, hn2.out]
  have ACT : Hid (∀ w, Below W.heap.size W w → ∀ v, NewV w G sets A v → Calls Try.prog 18 #[v, .agg #[.int .i64 k9, .int .i64 y9, .int .i64 n9, .int .i64 e9, .int .i64 d9, .slice sa n1 sc, .slice la n2 lc]] w fun e w' => Below w.heap.size w w' ∧ TwoAt w' e (actsP G sets A stem loop)) := fun w hb v hv => by
    have := ACT0.out w hb v hv
    rw [hn1.out, hn2.out] at this
    exact this
  clear PLS0 PLL0 LAS0 ACT0 h ps pl
  have b0 : w3.cell? ⟨W.heap.size + 2, 0, none⟩ = some (.int .i64 b1) := BT.rb.cell 0
  have b1' : w3.cell? ⟨W.heap.size + 2, 1, none⟩ = some (.int .i64 b2) := BT.rb.cell 1
  clear B0 HV hb0 hl hb3
  go_wp2_with fail
  refine (search_nil w3 b1 b2).mono ?_
  rintro e w4 ⟨v, rfl, hb4, hv⟩
  obtain ⟨sa1, sc1, la1, lc1, rfl, _, _⟩ := hv
  rw [show (Value.agg (fcells ⟨1, 0, 0, 0, 0, [], []⟩ sa1 sc1 la1 lc1).toArray) = .agg #[.int .i64 1, .int .i64 0, .int .i64 0, .int .i64 0, .int .i64 0, .slice sa1 0 sc1, .slice la1 0 lc1] from rfl]
  obtain ⟨w5, hw5⟩ : ∃ w5, w5 = w4.alloc (.cells #[.int .i64 1, .int .i64 0, .int .i64 0, .int .i64 0, .int .i64 0, .slice sa1 0 sc1, .slice la1 0 lc1] TFd) := ⟨_, rfl⟩
  have hb45 : Below w4.heap.size w4 w5 := by rw [hw5]; exact balloc (Below.refl _ _) _
  have r5 : RowAt w5 w4.heap.size TFd [.int .i64 1, .int .i64 0, .int .i64 0, .int .i64 0, .int .i64 0, .slice sa1 0 sc1, .slice la1 0 lc1] := by rw [hw5]; exact RowAt.new #[.int .i64 1, .int .i64 0, .int .i64 0, .int .i64 0, .int .i64 0, .slice sa1 0 sc1, .slice la1 0 lc1] rfl
  have BT5 := (BT.next hb4).next hb45
  replace hw5 := Lib.hid hw5
  clear b0 b1' f5 f6 BT hb4 hb45
  go_upto_region 4 with (fail)
  rw [← hw5.out]
  clear hw5
  have x0 : w5.cell? ⟨w4.heap.size, 0, none⟩ = some (.int .i64 1) := r5.cell 0
  have x1 : w5.cell? ⟨w4.heap.size, 1, none⟩ = some (.int .i64 0) := r5.cell 1
  have x2 : w5.cell? ⟨w4.heap.size, 2, none⟩ = some (.int .i64 0) := r5.cell 2
  have x3 : w5.cell? ⟨w4.heap.size, 3, none⟩ = some (.int .i64 0) := r5.cell 3
  have x4 : w5.cell? ⟨w4.heap.size, 4, none⟩ = some (.int .i64 0) := r5.cell 4
  have x5 : w5.cell? ⟨w4.heap.size, 5, none⟩ = some (.slice sa1 0 sc1) := r5.cell 5
  have x6 : w5.cell? ⟨w4.heap.size, 6, none⟩ = some (.slice la1 0 lc1) := r5.cell 6
  have rt4 := Lib.hid BT5.rt
  have rf4 := Lib.hid BT5.rf
  have hbw4 := Lib.hid BT5.below
  clear r5 BT5
  go_upto_region 6 with (fail)
  clear x0 x1 x2 x3 x4 x5 x6
  refine wp_region_dyn (by kernel_rfl) 8 (fun w' => Below w5.heap.size w5 w') (fun i => ([some (.pointer (some ⟨W.heap.size + 1, 5, none⟩)), some (.slice sa n1 sc), none, some (.pointer (some ⟨W.heap.size + 1, 6, none⟩)), some (.slice la n2 lc), none, none, none] : List (Option Value)).getD i none) (fun i => ([false, false, true, false, false, true, true, true] : List Bool).getD i false) (RawD w5.heap.size n1 n2 stem loop) (by kernel_rfl) (by kernel_rfl) (by kernel_rfl) (Below.refl _ _).drew (fun rho => RawD.start) ?_ ?_ ?_
  · intro i hi hdy
    match i, hi, hdy with
    | 0, _, _ =>
      refine ⟨_, rfl, fun L rho w h => h.pass (by decide) (by decide) (by decide) (by decide), ?_⟩
      intro o ho ac w' hR hF hX
      simp only [List.getElem?_toArray, List.getElem?_cons_zero, Option.some.injEq] at ho
      subst ho
      refine ⟨fun h => (by cases h), fun K hK => ?_⟩
      have e4 : ac.tmps.getD 4 undef = .pointer (some ⟨W.heap.size + 1, 0, none⟩) := hF 4 (notDst_spec (by kernel_rfl))
      have d4 := (Array.getD_eq_getD_getElem? (xs := ac.tmps) (i := 4) (d := undef)).symm.trans e4
      clear hX hF
      go_simp
      exact hK
    | 1, _, _ =>
      refine ⟨_, rfl, fun L rho w h => h.pass (by decide) (by decide) (by decide) (by decide), ?_⟩
      intro o ho ac w' hR hF hX
      simp only [List.getElem?_toArray, List.getElem?_cons_zero, List.getElem?_cons_succ, Option.some.injEq] at ho
      subst ho
      refine ⟨fun h => (by cases h), fun K hK => ?_⟩
      have e54 : ac.tmps.getD 54 undef = .pointer (some ⟨W.heap.size + 1, 5, none⟩) := hX 0 (dep_spec (by kernel_rfl)) _ rfl
      have d54 := (Array.getD_eq_getD_getElem? (xs := ac.tmps) (i := 54) (d := undef)).symm.trans e54
      have c0 : w'.cell? ⟨W.heap.size + 1, 5, none⟩ = some (.slice sa n1 sc) := (rf4.out.below hR).cell 5
      clear hX hF
      go_simp
      exact hK
    | 2, _, hdy => exact absurd (show true = false from hdy) (by decide)
    | 3, _, _ =>
      refine ⟨_, rfl, fun L rho w h => h.pass (by decide) (by decide) (by decide) (by decide), ?_⟩
      intro o ho ac w' hR hF hX
      simp only [List.getElem?_toArray, List.getElem?_cons_zero, List.getElem?_cons_succ, Option.some.injEq] at ho
      subst ho
      refine ⟨fun h => (by cases h), fun K hK => ?_⟩
      have e4 : ac.tmps.getD 4 undef = .pointer (some ⟨W.heap.size + 1, 0, none⟩) := hF 4 (notDst_spec (by kernel_rfl))
      have d4 := (Array.getD_eq_getD_getElem? (xs := ac.tmps) (i := 4) (d := undef)).symm.trans e4
      clear hX hF
      go_simp
      exact hK
    | 4, _, _ =>
      refine ⟨_, rfl, fun L rho w h => h.pass (by decide) (by decide) (by decide) (by decide), ?_⟩
      intro o ho ac w' hR hF hX
      simp only [List.getElem?_toArray, List.getElem?_cons_zero, List.getElem?_cons_succ, Option.some.injEq] at ho
      subst ho
      refine ⟨fun h => (by cases h), fun K hK => ?_⟩
      have e57 : ac.tmps.getD 57 undef = .pointer (some ⟨W.heap.size + 1, 6, none⟩) := hX 3 (dep_spec (by kernel_rfl)) _ rfl
      have d57 := (Array.getD_eq_getD_getElem? (xs := ac.tmps) (i := 57) (d := undef)).symm.trans e57
      have c0 : w'.cell? ⟨W.heap.size + 1, 6, none⟩ = some (.slice la n2 lc) := (rf4.out.below hR).cell 6
      clear hX hF
      go_simp
      exact hK
    | 5, _, hdy => exact absurd (show true = false from hdy) (by decide)
    | 6, _, hdy => exact absurd (show true = false from hdy) (by decide)
    | 7, _, hdy => exact absurd (show true = false from hdy) (by decide)
    | k + 8, hk, _ => omega
  · intro i hi hdy
    match i, hi, hdy with
    | 0, _, hdy => exact absurd (show false = true from hdy) (by decide)
    | 1, _, hdy => exact absurd (show false = true from hdy) (by decide)
    | 2, _, _ =>
      intro o ho ac w' L rho hR hD hl hc hdep hX hF K hK
      simp only [List.getElem?_toArray, List.getElem?_cons_zero, List.getElem?_cons_succ, Option.some.injEq] at ho
      subst ho
      have e55 : ac.tmps.getD 55 undef = .slice sa n1 sc := hX 1 (dep_spec (by kernel_rfl)) _ rfl
      have d55 := (Array.getD_eq_getD_getElem? (xs := ac.tmps) (i := 55) (d := undef)).symm.trans e55
      go_simp
      refine (PLS.out w' (btrans hbw4.out hR)).mono ?_
      rintro e w6 ⟨a, c, rfl, ho, hb6⟩
      exact hK _ _ (btrans hR hb6) (fun h => by cases h) (fun u h => by cases h) (hD.stem_ (fun h => hc 6 h 2 (dep_spec (by kernel_rfl))) hl hb6 hR.size ho)
    | 3, _, hdy => exact absurd (show false = true from hdy) (by decide)
    | 4, _, hdy => exact absurd (show false = true from hdy) (by decide)
    | 5, _, _ =>
      intro o ho ac w' L rho hR hD hl hc hdep hX hF K hK
      simp only [List.getElem?_toArray, List.getElem?_cons_zero, List.getElem?_cons_succ, Option.some.injEq] at ho
      subst ho
      have r56 : ac.tmps.getD 56 undef = rho 2 := (hdep 2 (dep_spec (by kernel_rfl))).2
      have e58 : ac.tmps.getD 58 undef = .slice la n2 lc := hX 4 (dep_spec (by kernel_rfl)) _ rfl
      have d58 := (Array.getD_eq_getD_getElem? (xs := ac.tmps) (i := 58) (d := undef)).symm.trans e58
      go_simp
      refine (PLL.out w' (btrans hbw4.out hR)).mono ?_
      rintro e w6 ⟨a, c, rfl, ho, hb6⟩
      exact hK _ _ (btrans hR hb6) (fun h => by cases h) (fun u h => by cases h) (hD.loop_ (fun h => hc 6 h 5 (dep_spec (by kernel_rfl))) hl hb6 hR.size ho)
    | 6, _, _ =>
      intro o ho ac w' L rho hR hD hl hc hdep hX hF K hK
      simp only [List.getElem?_toArray, List.getElem?_cons_zero, List.getElem?_cons_succ, Option.some.injEq] at ho
      subst ho
      have r56 : ac.tmps.getD 56 undef = rho 2 := (hdep 2 (dep_spec (by kernel_rfl))).2
      have r59 : ac.tmps.getD 59 undef = rho 5 := (hdep 5 (dep_spec (by kernel_rfl))).2
      obtain ⟨a8, c8, e1, _, _⟩ := hD.s (hdep 2 (dep_spec (by kernel_rfl))).1
      obtain ⟨a7, c7, e2, _, _⟩ := hD.l (hdep 5 (dep_spec (by kernel_rfl))).1
      have x1 := r56.trans e1
      have x2 := r59.trans e2
      have y1 := (Array.getD_eq_getD_getElem? (xs := ac.tmps) (i := 56) (d := undef)).symm.trans x1
      have y2 := (Array.getD_eq_getD_getElem? (xs := ac.tmps) (i := 59) (d := undef)).symm.trans x2
      have hp := Lib.hid hD.pair_
      rw [e1, e2] at hp
      clear r56 r59 e1 e2 hD hdep hX hF hc
      go_simp
      exact hK _ _ hR (fun h => by cases h) (fun u h => by cases h) hp.out
    | 7, _, _ =>
      intro o ho ac w' L rho hR hD hl hc hdep hX hF K hK
      simp only [List.getElem?_toArray, List.getElem?_cons_zero, List.getElem?_cons_succ, Option.some.injEq] at ho
      subst ho
      go_simp
      exact hK _ _ (balloc hR _) (fun h => by cases h) (fun u h => by cases h) (hD.box_ hR.size)
    | k + 8, hk, _ => omega
  · rintro ⟨tm, df⟩ w rho hdf hsz hF hR hX hV hD
    obtain rfl : df = [] := hdf
    obtain ⟨q, rfl⟩ := frame130 tm hsz
    have hD' := hD (fun i => decide (i < 8)) (fun i hi => decide_eq_true hi) (fun i hi => decide_eq_false (by omega))
    obtain ⟨a1, c1, e1, o1, ap1⟩ := hD'.s rfl
    obtain ⟨a2, c2, e2, o2, ap2⟩ := hD'.l rfl
    obtain ⟨gx, e3, hgx, rgx⟩ := hD'.b rfl
    have e4 := hD'.c rfl
    rw [e1, e2] at e4
    have k8 : q 8 = _ := (hV 7 (by decide)).trans e3
    have k60 : q 60 = _ := (hV 6 (by decide)).trans e4
    rw [k8, k60]
    clear k8 k60
    have k0 := hF 0 (notDst_spec (by kernel_rfl))
    have k1 := hF 1 (notDst_spec (by kernel_rfl))
    have k2 := hF 2 (notDst_spec (by kernel_rfl))
    have k3 := hF 3 (notDst_spec (by kernel_rfl))
    have k4 := hF 4 (notDst_spec (by kernel_rfl))
    have k5 := hF 5 (notDst_spec (by kernel_rfl))
    have k6 := hF 6 (notDst_spec (by kernel_rfl))
    have k7 := hF 7 (notDst_spec (by kernel_rfl))
    have k9 := hF 9 (notDst_spec (by kernel_rfl))
    have k10 := hF 10 (notDst_spec (by kernel_rfl))
    have k11 := hF 11 (notDst_spec (by kernel_rfl))
    have k12 := hF 12 (notDst_spec (by kernel_rfl))
    have k13 := hF 13 (notDst_spec (by kernel_rfl))
    have k14 := hF 14 (notDst_spec (by kernel_rfl))
    have k15 := hF 15 (notDst_spec (by kernel_rfl))
    have k16 := hF 16 (notDst_spec (by kernel_rfl))
    have k17 := hF 17 (notDst_spec (by kernel_rfl))
    have k18 := hF 18 (notDst_spec (by kernel_rfl))
    have k19 := hF 19 (notDst_spec (by kernel_rfl))
    have k20 := hF 20 (notDst_spec (by kernel_rfl))
    have k21 := hF 21 (notDst_spec (by kernel_rfl))
    have k22 := hF 22 (notDst_spec (by kernel_rfl))
    have k23 := hF 23 (notDst_spec (by kernel_rfl))
    have k24 := hF 24 (notDst_spec (by kernel_rfl))
    have k25 := hF 25 (notDst_spec (by kernel_rfl))
    have k26 := hF 26 (notDst_spec (by kernel_rfl))
    have k27 := hF 27 (notDst_spec (by kernel_rfl))
    have k28 := hF 28 (notDst_spec (by kernel_rfl))
    have k29 := hF 29 (notDst_spec (by kernel_rfl))
    have k30 := hF 30 (notDst_spec (by kernel_rfl))
    have k31 := hF 31 (notDst_spec (by kernel_rfl))
    have k32 := hF 32 (notDst_spec (by kernel_rfl))
    have k33 := hF 33 (notDst_spec (by kernel_rfl))
    have k34 := hF 34 (notDst_spec (by kernel_rfl))
    have k35 := hF 35 (notDst_spec (by kernel_rfl))
    have k36 := hF 36 (notDst_spec (by kernel_rfl))
    have k37 := hF 37 (notDst_spec (by kernel_rfl))
    have k38 := hF 38 (notDst_spec (by kernel_rfl))
    have k39 := hF 39 (notDst_spec (by kernel_rfl))
    have k40 := hF 40 (notDst_spec (by kernel_rfl))
    have k41 := hF 41 (notDst_spec (by kernel_rfl))
    have k42 := hF 42 (notDst_spec (by kernel_rfl))
    have k43 := hF 43 (notDst_spec (by kernel_rfl))
    have k44 := hF 44 (notDst_spec (by kernel_rfl))
    have k45 := hF 45 (notDst_spec (by kernel_rfl))
    have k46 := hF 46 (notDst_spec (by kernel_rfl))
    have k47 := hF 47 (notDst_spec (by kernel_rfl))
    have k48 := hF 48 (notDst_spec (by kernel_rfl))
    have k49 := hF 49 (notDst_spec (by kernel_rfl))
    have k50 := hF 50 (notDst_spec (by kernel_rfl))
    have k51 := hF 51 (notDst_spec (by kernel_rfl))
    have k52 := hF 52 (notDst_spec (by kernel_rfl))
    have k53 := hF 53 (notDst_spec (by kernel_rfl))
    have k61 := hF 61 (notDst_spec (by kernel_rfl))
    have k62 := hF 62 (notDst_spec (by kernel_rfl))
    have k63 := hF 63 (notDst_spec (by kernel_rfl))
    have k64 := hF 64 (notDst_spec (by kernel_rfl))
    have k65 := hF 65 (notDst_spec (by kernel_rfl))
    have k66 := hF 66 (notDst_spec (by kernel_rfl))
    have k67 := hF 67 (notDst_spec (by kernel_rfl))
    have k68 := hF 68 (notDst_spec (by kernel_rfl))
    have k69 := hF 69 (notDst_spec (by kernel_rfl))
    have k70 := hF 70 (notDst_spec (by kernel_rfl))
    have k71 := hF 71 (notDst_spec (by kernel_rfl))
    have k72 := hF 72 (notDst_spec (by kernel_rfl))
    have k73 := hF 73 (notDst_spec (by kernel_rfl))
    have k74 := hF 74 (notDst_spec (by kernel_rfl))
    have k75 := hF 75 (notDst_spec (by kernel_rfl))
    have k76 := hF 76 (notDst_spec (by kernel_rfl))
    have k77 := hF 77 (notDst_spec (by kernel_rfl))
    have k78 := hF 78 (notDst_spec (by kernel_rfl))
    have k79 := hF 79 (notDst_spec (by kernel_rfl))
    have k80 := hF 80 (notDst_spec (by kernel_rfl))
    have k81 := hF 81 (notDst_spec (by kernel_rfl))
    have k82 := hF 82 (notDst_spec (by kernel_rfl))
    have k83 := hF 83 (notDst_spec (by kernel_rfl))
    have k84 := hF 84 (notDst_spec (by kernel_rfl))
    have k85 := hF 85 (notDst_spec (by kernel_rfl))
    have k86 := hF 86 (notDst_spec (by kernel_rfl))
    have k87 := hF 87 (notDst_spec (by kernel_rfl))
    have k88 := hF 88 (notDst_spec (by kernel_rfl))
    have k89 := hF 89 (notDst_spec (by kernel_rfl))
    have k90 := hF 90 (notDst_spec (by kernel_rfl))
    have k91 := hF 91 (notDst_spec (by kernel_rfl))
    have k92 := hF 92 (notDst_spec (by kernel_rfl))
    have k93 := hF 93 (notDst_spec (by kernel_rfl))
    have k94 := hF 94 (notDst_spec (by kernel_rfl))
    have k95 := hF 95 (notDst_spec (by kernel_rfl))
    have k96 := hF 96 (notDst_spec (by kernel_rfl))
    have k97 := hF 97 (notDst_spec (by kernel_rfl))
    have k98 := hF 98 (notDst_spec (by kernel_rfl))
    have k99 := hF 99 (notDst_spec (by kernel_rfl))
    have k100 := hF 100 (notDst_spec (by kernel_rfl))
    have k101 := hF 101 (notDst_spec (by kernel_rfl))
    have k102 := hF 102 (notDst_spec (by kernel_rfl))
    have k103 := hF 103 (notDst_spec (by kernel_rfl))
    have k104 := hF 104 (notDst_spec (by kernel_rfl))
    have k105 := hF 105 (notDst_spec (by kernel_rfl))
    have k106 := hF 106 (notDst_spec (by kernel_rfl))
    have k107 := hF 107 (notDst_spec (by kernel_rfl))
    have k108 := hF 108 (notDst_spec (by kernel_rfl))
    have k109 := hF 109 (notDst_spec (by kernel_rfl))
    have k110 := hF 110 (notDst_spec (by kernel_rfl))
    have k111 := hF 111 (notDst_spec (by kernel_rfl))
    have k112 := hF 112 (notDst_spec (by kernel_rfl))
    have k113 := hF 113 (notDst_spec (by kernel_rfl))
    have k114 := hF 114 (notDst_spec (by kernel_rfl))
    have k115 := hF 115 (notDst_spec (by kernel_rfl))
    have k116 := hF 116 (notDst_spec (by kernel_rfl))
    have k117 := hF 117 (notDst_spec (by kernel_rfl))
    have k118 := hF 118 (notDst_spec (by kernel_rfl))
    have k119 := hF 119 (notDst_spec (by kernel_rfl))
    have k120 := hF 120 (notDst_spec (by kernel_rfl))
    have k121 := hF 121 (notDst_spec (by kernel_rfl))
    have k122 := hF 122 (notDst_spec (by kernel_rfl))
    have k123 := hF 123 (notDst_spec (by kernel_rfl))
    have k124 := hF 124 (notDst_spec (by kernel_rfl))
    have k125 := hF 125 (notDst_spec (by kernel_rfl))
    have k126 := hF 126 (notDst_spec (by kernel_rfl))
    have k127 := hF 127 (notDst_spec (by kernel_rfl))
    have k128 := hF 128 (notDst_spec (by kernel_rfl))
    have k129 := hF 129 (notDst_spec (by kernel_rfl))
    simp only [Array.getD_eq_getD_getElem?, List.getElem?_toArray, List.getElem?_cons_succ, List.getElem?_cons_zero, Option.getD_some] at k0 k1 k2 k3 k4 k5 k6 k7 k9 k10 k11 k12 k13 k14 k15 k16 k17 k18 k19 k20 k21 k22 k23 k24 k25 k26 k27 k28 k29 k30 k31 k32 k33 k34 k35 k36 k37 k38 k39 k40 k41 k42 k43 k44 k45 k46 k47 k48 k49 k50 k51 k52 k53 k61 k62 k63 k64 k65 k66 k67 k68 k69 k70 k71 k72 k73 k74 k75 k76 k77 k78 k79 k80 k81 k82 k83 k84 k85 k86 k87 k88 k89 k90 k91 k92 k93 k94 k95 k96 k97 k98 k99 k100 k101 k102 k103 k104 k105 k106 k107 k108 k109 k110 k111 k112 k113 k114 k115 k116 k117 k118 k119 k120 k121 k122 k123 k124 k125 k126 k127 k128 k129
    simp only [k0, k1, k2, k3, k4, k5, k6, k7, k9, k10, k11, k12, k13, k14, k15, k16, k17, k18, k19, k20, k21, k22, k23, k24, k25, k26, k27, k28, k29, k30, k31, k32, k33, k34, k35, k36, k37, k38, k39, k40, k41, k42, k43, k44, k45, k46, k47, k48, k49, k50, k51, k52, k53, k61, k62, k63, k64, k65, k66, k67, k68, k69, k70, k71, k72, k73, k74, k75, k76, k77, k78, k79, k80, k81, k82, k83, k84, k85, k86, k87, k88, k89, k90, k91, k92, k93, k94, k95, k96, k97, k98, k99, k100, k101, k102, k103, k104, k105, k106, k107, k108, k109, k110, k111, k112, k113, k114, k115, k116, k117, k118, k119, k120, k121, k122, k123, k124, k125, k126, k127, k128, k129]
    clear k0 k1 k2 k3 k4 k5 k6 k7 k9 k10 k11 k12 k13 k14 k15 k16 k17 k18 k19 k20 k21 k22 k23 k24 k25 k26 k27 k28 k29 k30 k31 k32 k33 k34 k35 k36 k37 k38 k39 k40 k41 k42 k43 k44 k45 k46 k47 k48 k49 k50 k51 k52 k53 k61 k62 k63 k64 k65 k66 k67 k68 k69 k70 k71 k72 k73 k74 k75 k76 k77 k78 k79 k80 k81 k82 k83 k84 k85 k86 k87 k88 k89 k90 k91 k92 k93 k94 k95 k96 k97 k98 k99 k100 k101 k102 k103 k104 k105 k106 k107 k108 k109 k110 k111 k112 k113 k114 k115 k116 k117 k118 k119 k120 k121 k122 k123 k124 k125 k126 k127 k128 k129
    have ap1' := ap1 rfl gx e3
    have ap2' := ap2 rfl gx e3
    clear hF hX hV hD hsz hD' e1 e2 e3 e4 ap1 ap2
    change wpAny _ _ _ _ 1 _ _ _
    have f0 := rgx.free 0
    have c0' := rgx.cell 0
    have f1 := rgx.free 1
    have c1' := rgx.cell 1
    have f2 := rgx.free 2
    have c2' := rgx.cell 2
    have f3 := rgx.free 3
    have c3' := rgx.cell 3
    have f4 := rgx.free 4
    have c4' := rgx.cell 4
    have f5 := rgx.free 5
    have c5' := rgx.cell 5
    have f6 := rgx.free 6
    have c6' := rgx.cell 6
    simp only [List.getElem?_cons_zero, List.getElem?_cons_succ] at c0' c1' c2' c3' c4' c5' c6'
    have r7 := ((((((rgx.set 0 (.int .i64 0)).set 1 (.int .i64 0)).set 2 (.int .i64 0)).set 3 (.int .i64 0)).set 4 (.int .i64 0)).set 5 (.slice a1 n1 c1)).set 6 (.slice a2 n2 c2)
    have K7 := keep7 w gx (.int .i64 0) (.int .i64 0) (.int .i64 0) (.int .i64 0) (.int .i64 0) (.slice a1 n1 c1) (.slice a2 n2 c2)
    refine wpAny_ready (rs := [8]) (by kernel_rfl) (by simp) ?_
    refine AllReady.cons (i := 8) rfl (fun K hK => ?_) AllReady.nil
    go_simp
    refine hK _ _ ?_
    refine ⟨by kernel_rfl, ?_⟩
    clear hK K f0 c0' f1 c1' f2 c2' f3 c3' f4 c4' f5 c5' f6 c6'
    generalize (((((((w.setCell _ _).setCell _ _).setCell _ _).setCell _ _).setCell _ _).setCell _ _).setCell _ _) = wz at r7 K7 ⊢
    have hbz : Below w5.heap.size w5 wz := K7.below hR (fun j e => by rw [e]; exact hgx)
    have P1 : PpsAt wz a1 stem := by
      refine PpsAt.of_own (base := w5.heap.size) (e := TRq) (cap := c1) ?_
      unfold OwnQ
      rw [hn1.out]
      exact OwnR.keeps o1 K7 (fun j hj e => ap1' (by rw [hj, e]))
    have P2 : PpsAt wz a2 loop := by
      refine PpsAt.of_own (base := w5.heap.size) (e := TRq) (cap := c2) ?_
      unfold OwnQ
      rw [hn2.out]
      exact OwnR.keeps o2 K7 (fun j hj e => ap2' (by rw [hj, e]))
    have rx := Lib.hid (show RowAt wz gx TRF [.int .i64 0, .int .i64 0, .int .i64 0, .int .i64 0, .int .i64 0, .slice a1 n1 c1, .slice a2 n2 c2] from r7)
    have rt5 := Lib.hid (rt4.out.below hbz)
    have rf5 := Lib.hid (rf4.out.below hbz)
    have hbw5 := Lib.hid (btrans hbw4.out hbz)
    have RLA : Hid (∀ w, Below wz.heap.size wz w → Calls Try.prog 17 #[.agg #[.int .i64 0, .int .i64 0, .int .i64 0, .int .i64 0, .int .i64 0, .slice a1 n1 c1, .slice a2 n2 c2]] w fun e w' => ∃ a c a2 c2, e = .returned (.agg #[.slice a n1 c, .slice a2 n2 c2]) ∧ NumsNew w.heap.size w' a (stem.map PP.node) ∧ NumsNew w.heap.size w' a2 (loop.map PP.node) ∧ Below w.heap.size w w') := fun w hb => by
      have := rlassoV_any w 0 0 0 0 0 a1 a2 c1 c2 stem loop (P1.below hb) (P2.below hb) (by have := hn1.out; omega) (by have := hn2.out; omega)
      rw [hn1.out, hn2.out] at this
      refine this.mono fun e w' ⟨v', e1, e2, a, c, a2, c2, e3, e4, e5⟩ => ⟨a, c, a2, c2, ?_, e4, e5, e2⟩
      rw [e1, e3, List.length_map, List.length_map, hn1.out, hn2.out]
    have RAC : Hid (newB G sets A = true → ∀ w, Below wz.heap.size wz w → Calls Try.prog 19 #[.agg #[.slice ai G.init.length ci, .slice ae G.edges.length ce, .slice al G.labels.length cl, .slice as_ sets.length cs, .int .i64 A.sets, .slice bi A.init.length di, .slice bn A.nodes.length dn], .agg #[.int .i64 0, .int .i64 0, .int .i64 0, .int .i64 0, .int .i64 0, .slice a1 n1 c1, .slice a2 n2 c2]] w fun e w' => Below w.heap.size w w' ∧ TwoAt w' e (actsP G sets A stem loop)) := fun hn w hb => by
      have := racts_any w ⟨ai, ae, al, as_, bi, bn, ci, ce, cl, cs, di, dn⟩ G sets A (RPA.out hn w (btrans hbw5.out hb)) 0 0 0 0 0 a1 a2 c1 c2 stem loop (P1.below hb) (P2.below hb) (by have := hn1.out; omega) (by have := hn2.out; omega)
      rw [hn1.out, hn2.out] at this
      unfold actsP
      rw [if_pos hn]
      exact this
    have hl1 : Hid ((stem.map PP.node).length = n1) := by show _ = _; rw [List.length_map]; exact hn1.out
    have hl2' : Hid ((loop.map PP.node).length = n2) := by show _ = _; rw [List.length_map]; exact hn2.out
    clear r7 K7 hbz P1 P2 rt4 rf4 hbw4 o1 o2 ap1' ap2' hgx rgx hR RPA PLS PLL
    go_upto_region 7 with (fail)
    refine wp_region_dyn (by kernel_rfl) 6 (fun w' => Below wz.heap.size wz w') (fun i => ([some (.agg #[.int .i64 k9, .int .i64 y9, .int .i64 n9, .int .i64 e9, .int .i64 d9, .slice sa n1 sc, .slice la n2 lc]), none, some (.agg #[.int .i64 0, .int .i64 0, .int .i64 0, .int .i64 0, .int .i64 0, .slice a1 n1 c1, .slice a2 n2 c2]), none, none, none] : List (Option Value)).getD i none) (fun i => ([false, true, false, true, true, true] : List Bool).getD i false) (LasD wz.heap.size n1 n2 (stem.map PP.node) (loop.map PP.node)) (by kernel_rfl) (by kernel_rfl) (by kernel_rfl) (Below.refl _ _).drew (fun rho => LasD.start) ?_ ?_ ?_
    · intro i hi hdy
      match i, hi, hdy with
      | 0, _, _ =>
        refine ⟨_, rfl, fun L rho w h => h.pass (by decide) (by decide) (by decide) (by decide), ?_⟩
        intro o ho ac w' hR hF hX
        simp only [List.getElem?_toArray, List.getElem?_cons_zero, Option.some.injEq] at ho
        subst ho
        refine ⟨fun h => (by cases h), fun K hK => ?_⟩
        have e4 : ac.tmps.getD 4 undef = .pointer (some ⟨W.heap.size + 1, 0, none⟩) := hF 4 (notDst_spec (by kernel_rfl))
        have d4 := (Array.getD_eq_getD_getElem? (xs := ac.tmps) (i := 4) (d := undef)).symm.trans e4
        have q0 : w'.cell? ⟨W.heap.size + 1, 0, none⟩ = some (.int .i64 k9) := (rf5.out.below hR).cell 0
        have q1 : w'.cell? ⟨W.heap.size + 1, 1, none⟩ = some (.int .i64 y9) := (rf5.out.below hR).cell 1
        have q2 : w'.cell? ⟨W.heap.size + 1, 2, none⟩ = some (.int .i64 n9) := (rf5.out.below hR).cell 2
        have q3 : w'.cell? ⟨W.heap.size + 1, 3, none⟩ = some (.int .i64 e9) := (rf5.out.below hR).cell 3
        have q4 : w'.cell? ⟨W.heap.size + 1, 4, none⟩ = some (.int .i64 d9) := (rf5.out.below hR).cell 4
        have q5 : w'.cell? ⟨W.heap.size + 1, 5, none⟩ = some (.slice sa n1 sc) := (rf5.out.below hR).cell 5
        have q6 : w'.cell? ⟨W.heap.size + 1, 6, none⟩ = some (.slice la n2 lc) := (rf5.out.below hR).cell 6
        clear hX hF
        go_simp
        exact hK
      | 1, _, hdy => exact absurd (show true = false from hdy) (by decide)
      | 2, _, _ =>
        refine ⟨_, rfl, fun L rho w h => h.pass (by decide) (by decide) (by decide) (by decide), ?_⟩
        intro o ho ac w' hR hF hX
        simp only [List.getElem?_toArray, List.getElem?_cons_zero, List.getElem?_cons_succ, Option.some.injEq] at ho
        subst ho
        refine ⟨fun h => (by cases h), fun K hK => ?_⟩
        have e8 : ac.tmps.getD 8 undef = .pointer (some ⟨gx, 0, none⟩) := hF 8 (notDst_spec (by kernel_rfl))
        have d8 := (Array.getD_eq_getD_getElem? (xs := ac.tmps) (i := 8) (d := undef)).symm.trans e8
        have q0 : w'.cell? ⟨gx, 0, none⟩ = some (.int .i64 0) := (rx.out.below hR).cell 0
        have q1 : w'.cell? ⟨gx, 1, none⟩ = some (.int .i64 0) := (rx.out.below hR).cell 1
        have q2 : w'.cell? ⟨gx, 2, none⟩ = some (.int .i64 0) := (rx.out.below hR).cell 2
        have q3 : w'.cell? ⟨gx, 3, none⟩ = some (.int .i64 0) := (rx.out.below hR).cell 3
        have q4 : w'.cell? ⟨gx, 4, none⟩ = some (.int .i64 0) := (rx.out.below hR).cell 4
        have q5 : w'.cell? ⟨gx, 5, none⟩ = some (.slice a1 n1 c1) := (rx.out.below hR).cell 5
        have q6 : w'.cell? ⟨gx, 6, none⟩ = some (.slice a2 n2 c2) := (rx.out.below hR).cell 6
        clear hX hF
        go_simp
        exact hK
      | 3, _, hdy => exact absurd (show true = false from hdy) (by decide)
      | 4, _, hdy => exact absurd (show true = false from hdy) (by decide)
      | 5, _, hdy => exact absurd (show true = false from hdy) (by decide)
      | k + 6, hk, _ => omega
    · intro i hi hdy
      match i, hi, hdy with
      | 0, _, hdy => exact absurd (show false = true from hdy) (by decide)
      | 1, _, _ =>
        intro o ho ac w' L rho hR hD hl hc hdep hX hF K hK
        simp only [List.getElem?_toArray, List.getElem?_cons_zero, List.getElem?_cons_succ, Option.some.injEq] at ho
        subst ho
        have e61 : ac.tmps.getD 61 undef = .agg #[.int .i64 k9, .int .i64 y9, .int .i64 n9, .int .i64 e9, .int .i64 d9, .slice sa n1 sc, .slice la n2 lc] := hX 0 (dep_spec (by kernel_rfl)) _ rfl
        have d61 := (Array.getD_eq_getD_getElem? (xs := ac.tmps) (i := 61) (d := undef)).symm.trans e61
        go_simp
        refine (LAS.out w' (btrans hbw5.out hR)).mono ?_
        rintro e w6 ⟨a, c, a2, c2, rfl, h1, h2, hb6⟩
        exact hK _ _ (btrans hR hb6) (fun h => by cases h) (fun u h => by cases h) (hD.call_ (by decide) hb6 hR.size hl1.out hl2'.out h1 h2)
      | 2, _, hdy => exact absurd (show false = true from hdy) (by decide)
      | 3, _, _ =>
        intro o ho ac w' L rho hR hD hl hc hdep hX hF K hK
        simp only [List.getElem?_toArray, List.getElem?_cons_zero, List.getElem?_cons_succ, Option.some.injEq] at ho
        subst ho
        have r62 : ac.tmps.getD 62 undef = rho 1 := (hdep 1 (dep_spec (by kernel_rfl))).2
        have e63 : ac.tmps.getD 63 undef = .agg #[.int .i64 0, .int .i64 0, .int .i64 0, .int .i64 0, .int .i64 0, .slice a1 n1 c1, .slice a2 n2 c2] := hX 2 (dep_spec (by kernel_rfl)) _ rfl
        have d63 := (Array.getD_eq_getD_getElem? (xs := ac.tmps) (i := 63) (d := undef)).symm.trans e63
        go_simp
        refine (RLA.out w' hR).mono ?_
        rintro e w6 ⟨a, c, a2, c2, rfl, h1, h2, hb6⟩
        exact hK _ _ (btrans hR hb6) (fun h => by cases h) (fun u h => by cases h) (hD.call_ (by decide) hb6 hR.size hl1.out hl2'.out h1 h2)
      | 4, _, _ =>
        intro o ho ac w' L rho hR hD hl hc hdep hX hF K hK
        simp only [List.getElem?_toArray, List.getElem?_cons_zero, List.getElem?_cons_succ, Option.some.injEq] at ho
        subst ho
        go_simp
        exact hK _ _ (balloc hR _) (fun h => by cases h) (fun u h => by cases h) (hD.box_ (by decide) hR.size hl1.out hl2'.out)
      | 5, _, _ =>
        intro o ho ac w' L rho hR hD hl hc hdep hX hF K hK
        simp only [List.getElem?_toArray, List.getElem?_cons_zero, List.getElem?_cons_succ, Option.some.injEq] at ho
        subst ho
        go_simp
        exact hK _ _ (balloc hR _) (fun h => by cases h) (fun u h => by cases h) (hD.box_ (by decide) hR.size hl1.out hl2'.out)
      | k + 6, hk, _ => omega
    · rintro ⟨tm, df⟩ w7 rho hdf hsz hF hR hX hV hD
      obtain rfl : df = [] := hdf
      obtain ⟨q, rfl⟩ := frame130 tm hsz
      have hD' := hD (fun i => decide (i < 6)) (fun i hi => decide_eq_true hi) (fun i hi => decide_eq_false (by omega))
      obtain ⟨p1, d1, p2, d2, e1, m1, m2, ap1⟩ := hD'.p 1 (.inl rfl) rfl
      obtain ⟨p3, d3, p4, d4, e2, m3, m4, ap2⟩ := hD'.p 3 (.inr rfl) rfl
      obtain ⟨g9, e3, hg9, r9⟩ := hD'.b 4 (.inl rfl) rfl
      obtain ⟨g10, e4, hg10, r10⟩ := hD'.b 5 (.inr rfl) rfl
      have hne : g9 ≠ g10 := fun e => hD'.d rfl rfl (by rw [e3, e4, e])
      obtain ⟨x11, x12⟩ := ap1 4 (.inl rfl) rfl g9 e3
      obtain ⟨x13, x14⟩ := ap1 5 (.inr rfl) rfl g10 e4
      obtain ⟨x21, x22⟩ := ap2 4 (.inl rfl) rfl g9 e3
      obtain ⟨x23, x24⟩ := ap2 5 (.inr rfl) rfl g10 e4
      have k9 : q 9 = _ := (hV 4 (by decide)).trans e3
      have k10 : q 10 = _ := (hV 5 (by decide)).trans e4
      have k62 : q 62 = _ := (hV 1 (by decide)).trans e1
      have k64 : q 64 = _ := (hV 3 (by decide)).trans e2
      rw [k9, k10, k62, k64]
      clear k9 k10 k62 k64
      have k0 := hF 0 (notDst_spec (by kernel_rfl))
      have k1 := hF 1 (notDst_spec (by kernel_rfl))
      have k2 := hF 2 (notDst_spec (by kernel_rfl))
      have k3 := hF 3 (notDst_spec (by kernel_rfl))
      have k4 := hF 4 (notDst_spec (by kernel_rfl))
      have k5 := hF 5 (notDst_spec (by kernel_rfl))
      have k6 := hF 6 (notDst_spec (by kernel_rfl))
      have k7 := hF 7 (notDst_spec (by kernel_rfl))
      have k8 := hF 8 (notDst_spec (by kernel_rfl))
      have k11 := hF 11 (notDst_spec (by kernel_rfl))
      have k12 := hF 12 (notDst_spec (by kernel_rfl))
      have k13 := hF 13 (notDst_spec (by kernel_rfl))
      have k14 := hF 14 (notDst_spec (by kernel_rfl))
      have k15 := hF 15 (notDst_spec (by kernel_rfl))
      have k16 := hF 16 (notDst_spec (by kernel_rfl))
      have k17 := hF 17 (notDst_spec (by kernel_rfl))
      have k18 := hF 18 (notDst_spec (by kernel_rfl))
      have k19 := hF 19 (notDst_spec (by kernel_rfl))
      have k20 := hF 20 (notDst_spec (by kernel_rfl))
      have k21 := hF 21 (notDst_spec (by kernel_rfl))
      have k22 := hF 22 (notDst_spec (by kernel_rfl))
      have k23 := hF 23 (notDst_spec (by kernel_rfl))
      have k24 := hF 24 (notDst_spec (by kernel_rfl))
      have k25 := hF 25 (notDst_spec (by kernel_rfl))
      have k26 := hF 26 (notDst_spec (by kernel_rfl))
      have k27 := hF 27 (notDst_spec (by kernel_rfl))
      have k28 := hF 28 (notDst_spec (by kernel_rfl))
      have k29 := hF 29 (notDst_spec (by kernel_rfl))
      have k30 := hF 30 (notDst_spec (by kernel_rfl))
      have k31 := hF 31 (notDst_spec (by kernel_rfl))
      have k32 := hF 32 (notDst_spec (by kernel_rfl))
      have k33 := hF 33 (notDst_spec (by kernel_rfl))
      have k34 := hF 34 (notDst_spec (by kernel_rfl))
      have k35 := hF 35 (notDst_spec (by kernel_rfl))
      have k36 := hF 36 (notDst_spec (by kernel_rfl))
      have k37 := hF 37 (notDst_spec (by kernel_rfl))
      have k38 := hF 38 (notDst_spec (by kernel_rfl))
      have k39 := hF 39 (notDst_spec (by kernel_rfl))
      have k40 := hF 40 (notDst_spec (by kernel_rfl))
      have k41 := hF 41 (notDst_spec (by kernel_rfl))
      have k42 := hF 42 (notDst_spec (by kernel_rfl))
      have k43 := hF 43 (notDst_spec (by kernel_rfl))
      have k44 := hF 44 (notDst_spec (by kernel_rfl))
      have k45 := hF 45 (notDst_spec (by kernel_rfl))
      have k46 := hF 46 (notDst_spec (by kernel_rfl))
      have k47 := hF 47 (notDst_spec (by kernel_rfl))
      have k48 := hF 48 (notDst_spec (by kernel_rfl))
      have k49 := hF 49 (notDst_spec (by kernel_rfl))
      have k50 := hF 50 (notDst_spec (by kernel_rfl))
      have k51 := hF 51 (notDst_spec (by kernel_rfl))
      have k52 := hF 52 (notDst_spec (by kernel_rfl))
      have k53 := hF 53 (notDst_spec (by kernel_rfl))
      have k54 := hF 54 (notDst_spec (by kernel_rfl))
      have k55 := hF 55 (notDst_spec (by kernel_rfl))
      have k56 := hF 56 (notDst_spec (by kernel_rfl))
      have k57 := hF 57 (notDst_spec (by kernel_rfl))
      have k58 := hF 58 (notDst_spec (by kernel_rfl))
      have k59 := hF 59 (notDst_spec (by kernel_rfl))
      have k60 := hF 60 (notDst_spec (by kernel_rfl))
      have k65 := hF 65 (notDst_spec (by kernel_rfl))
      have k66 := hF 66 (notDst_spec (by kernel_rfl))
      have k67 := hF 67 (notDst_spec (by kernel_rfl))
      have k68 := hF 68 (notDst_spec (by kernel_rfl))
      have k69 := hF 69 (notDst_spec (by kernel_rfl))
      have k70 := hF 70 (notDst_spec (by kernel_rfl))
      have k71 := hF 71 (notDst_spec (by kernel_rfl))
      have k72 := hF 72 (notDst_spec (by kernel_rfl))
      have k73 := hF 73 (notDst_spec (by kernel_rfl))
      have k74 := hF 74 (notDst_spec (by kernel_rfl))
      have k75 := hF 75 (notDst_spec (by kernel_rfl))
      have k76 := hF 76 (notDst_spec (by kernel_rfl))
      have k77 := hF 77 (notDst_spec (by kernel_rfl))
      have k78 := hF 78 (notDst_spec (by kernel_rfl))
      have k79 := hF 79 (notDst_spec (by kernel_rfl))
      have k80 := hF 80 (notDst_spec (by kernel_rfl))
      have k81 := hF 81 (notDst_spec (by kernel_rfl))
      have k82 := hF 82 (notDst_spec (by kernel_rfl))
      have k83 := hF 83 (notDst_spec (by kernel_rfl))
      have k84 := hF 84 (notDst_spec (by kernel_rfl))
      have k85 := hF 85 (notDst_spec (by kernel_rfl))
      have k86 := hF 86 (notDst_spec (by kernel_rfl))
      have k87 := hF 87 (notDst_spec (by kernel_rfl))
      have k88 := hF 88 (notDst_spec (by kernel_rfl))
      have k89 := hF 89 (notDst_spec (by kernel_rfl))
      have k90 := hF 90 (notDst_spec (by kernel_rfl))
      have k91 := hF 91 (notDst_spec (by kernel_rfl))
      have k92 := hF 92 (notDst_spec (by kernel_rfl))
      have k93 := hF 93 (notDst_spec (by kernel_rfl))
      have k94 := hF 94 (notDst_spec (by kernel_rfl))
      have k95 := hF 95 (notDst_spec (by kernel_rfl))
      have k96 := hF 96 (notDst_spec (by kernel_rfl))
      have k97 := hF 97 (notDst_spec (by kernel_rfl))
      have k98 := hF 98 (notDst_spec (by kernel_rfl))
      have k99 := hF 99 (notDst_spec (by kernel_rfl))
      have k100 := hF 100 (notDst_spec (by kernel_rfl))
      have k101 := hF 101 (notDst_spec (by kernel_rfl))
      have k102 := hF 102 (notDst_spec (by kernel_rfl))
      have k103 := hF 103 (notDst_spec (by kernel_rfl))
      have k104 := hF 104 (notDst_spec (by kernel_rfl))
      have k105 := hF 105 (notDst_spec (by kernel_rfl))
      have k106 := hF 106 (notDst_spec (by kernel_rfl))
      have k107 := hF 107 (notDst_spec (by kernel_rfl))
      have k108 := hF 108 (notDst_spec (by kernel_rfl))
      have k109 := hF 109 (notDst_spec (by kernel_rfl))
      have k110 := hF 110 (notDst_spec (by kernel_rfl))
      have k111 := hF 111 (notDst_spec (by kernel_rfl))
      have k112 := hF 112 (notDst_spec (by kernel_rfl))
      have k113 := hF 113 (notDst_spec (by kernel_rfl))
      have k114 := hF 114 (notDst_spec (by kernel_rfl))
      have k115 := hF 115 (notDst_spec (by kernel_rfl))
      have k116 := hF 116 (notDst_spec (by kernel_rfl))
      have k117 := hF 117 (notDst_spec (by kernel_rfl))
      have k118 := hF 118 (notDst_spec (by kernel_rfl))
      have k119 := hF 119 (notDst_spec (by kernel_rfl))
      have k120 := hF 120 (notDst_spec (by kernel_rfl))
      have k121 := hF 121 (notDst_spec (by kernel_rfl))
      have k122 := hF 122 (notDst_spec (by kernel_rfl))
      have k123 := hF 123 (notDst_spec (by kernel_rfl))
      have k124 := hF 124 (notDst_spec (by kernel_rfl))
      have k125 := hF 125 (notDst_spec (by kernel_rfl))
      have k126 := hF 126 (notDst_spec (by kernel_rfl))
      have k127 := hF 127 (notDst_spec (by kernel_rfl))
      have k128 := hF 128 (notDst_spec (by kernel_rfl))
      have k129 := hF 129 (notDst_spec (by kernel_rfl))
      simp only [Array.getD_eq_getD_getElem?, List.getElem?_toArray, List.getElem?_cons_succ, List.getElem?_cons_zero, Option.getD_some] at k0 k1 k2 k3 k4 k5 k6 k7 k8 k11 k12 k13 k14 k15 k16 k17 k18 k19 k20 k21 k22 k23 k24 k25 k26 k27 k28 k29 k30 k31 k32 k33 k34 k35 k36 k37 k38 k39 k40 k41 k42 k43 k44 k45 k46 k47 k48 k49 k50 k51 k52 k53 k54 k55 k56 k57 k58 k59 k60 k65 k66 k67 k68 k69 k70 k71 k72 k73 k74 k75 k76 k77 k78 k79 k80 k81 k82 k83 k84 k85 k86 k87 k88 k89 k90 k91 k92 k93 k94 k95 k96 k97 k98 k99 k100 k101 k102 k103 k104 k105 k106 k107 k108 k109 k110 k111 k112 k113 k114 k115 k116 k117 k118 k119 k120 k121 k122 k123 k124 k125 k126 k127 k128 k129
      simp only [k0, k1, k2, k3, k4, k5, k6, k7, k8, k11, k12, k13, k14, k15, k16, k17, k18, k19, k20, k21, k22, k23, k24, k25, k26, k27, k28, k29, k30, k31, k32, k33, k34, k35, k36, k37, k38, k39, k40, k41, k42, k43, k44, k45, k46, k47, k48, k49, k50, k51, k52, k53, k54, k55, k56, k57, k58, k59, k60, k65, k66, k67, k68, k69, k70, k71, k72, k73, k74, k75, k76, k77, k78, k79, k80, k81, k82, k83, k84, k85, k86, k87, k88, k89, k90, k91, k92, k93, k94, k95, k96, k97, k98, k99, k100, k101, k102, k103, k104, k105, k106, k107, k108, k109, k110, k111, k112, k113, k114, k115, k116, k117, k118, k119, k120, k121, k122, k123, k124, k125, k126, k127, k128, k129]
      clear k0 k1 k2 k3 k4 k5 k6 k7 k8 k11 k12 k13 k14 k15 k16 k17 k18 k19 k20 k21 k22 k23 k24 k25 k26 k27 k28 k29 k30 k31 k32 k33 k34 k35 k36 k37 k38 k39 k40 k41 k42 k43 k44 k45 k46 k47 k48 k49 k50 k51 k52 k53 k54 k55 k56 k57 k58 k59 k60 k65 k66 k67 k68 k69 k70 k71 k72 k73 k74 k75 k76 k77 k78 k79 k80 k81 k82 k83 k84 k85 k86 k87 k88 k89 k90 k91 k92 k93 k94 k95 k96 k97 k98 k99 k100 k101 k102 k103 k104 k105 k106 k107 k108 k109 k110 k111 k112 k113 k114 k115 k116 k117 k118 k119 k120 k121 k122 k123 k124 k125 k126 k127 k128 k129
      clear hF hX hV hD hsz hD' e1 e2 e3 e4 ap1 ap2
      change wpAny _ _ _ _ 2 _ _ _
      have f0 := r9.free 0
      have f1 := r9.free 1
      have c0 : w7.cell? ⟨g9, 0, none⟩ = some (.slice none 0 0) := r9.cell 0
      have c1' : w7.cell? ⟨g9, 1, none⟩ = some (.slice none 0 0) := r9.cell 1
      refine wpAny_ready (rs := [6]) (by kernel_rfl) (by simp) ?_
      refine AllReady.cons (i := 6) rfl (fun K hK => ?_) AllReady.nil
      go_simp
      refine hK _ _ ?_
      clear hK K f0 f1 c0 c1'
      have s9 := (r9.set 0 (.slice p1 n1 d1)).set 1 (.slice p2 n2 d2)
      have K9 : Keeps w7 ((w7.setCell ⟨g9, 0, none⟩ (.slice p1 n1 d1)).setCell ⟨g9, 1, none⟩ (.slice p2 n2 d2)) (fun j => j = g9) := (Keeps.set (S := fun j => j = g9) w7 g9 0 _ rfl).trans (Keeps.set (S := fun j => j = g9) _ g9 1 _ rfl) (fun _ _ h => h)
      generalize (w7.setCell ⟨g9, 0, none⟩ _).setCell ⟨g9, 1, none⟩ _ = w8 at s9 K9 ⊢
      replace r10 := r10.keeps K9 (fun e => hne e.symm)
      have f0 := r10.free 0
      have f1 := r10.free 1
      have c0 : w8.cell? ⟨g10, 0, none⟩ = some (.slice none 0 0) := r10.cell 0
      have c1' : w8.cell? ⟨g10, 1, none⟩ = some (.slice none 0 0) := r10.cell 1
      refine wpAny_ready (rs := [7]) (by kernel_rfl) (by simp) ?_
      refine AllReady.cons (i := 7) rfl (fun K hK => ?_) AllReady.nil
      go_simp
      refine hK _ _ ?_
      clear hK K f0 f1 c0 c1'
      have s10 := (r10.set 0 (.slice p3 n1 d3)).set 1 (.slice p4 n2 d4)
      have K10 : Keeps w8 ((w8.setCell ⟨g10, 0, none⟩ (.slice p3 n1 d3)).setCell ⟨g10, 1, none⟩ (.slice p4 n2 d4)) (fun j => j = g10) := (Keeps.set (S := fun j => j = g10) w8 g10 0 _ rfl).trans (Keeps.set (S := fun j => j = g10) _ g10 1 _ rfl) (fun _ _ h => h)
      generalize (w8.setCell ⟨g10, 0, none⟩ _).setCell ⟨g10, 1, none⟩ _ = w9 at s10 K10 ⊢
      refine ⟨by kernel_rfl, ?_⟩
      have s9' := s9.keeps K10 hne
      have hb9 : Below wz.heap.size wz w9 := K10.below (K9.below hR (fun j e => by rw [e]; exact hg9)) (fun j e => by rw [e]; exact hg10)
      have ee1 := hl1.out
      have ee2 := hl2'.out
      have A1 := (m1.1.apart K9 (by rw [ee1]; exact x11)).apart K10 (by rw [ee1]; exact x13)
      have A2 := (m2.1.apart K9 (by rw [ee2]; exact x12)).apart K10 (by rw [ee2]; exact x14)
      have A3 := (m3.1.apart K9 (by rw [ee1]; exact x21)).apart K10 (by rw [ee1]; exact x23)
      have A4 := (m4.1.apart K9 (by rw [ee2]; exact x22)).apart K10 (by rw [ee2]; exact x24)
      have S0 : Hid (∀ v, Below w9.heap.size w9 v → v.cell? ⟨g9, 0, none⟩ = some (.slice p1 n1 d1) ∧ v.cell? ⟨g9, 1, none⟩ = some (.slice p2 n2 d2) ∧ v.cell? ⟨g10, 0, none⟩ = some (.slice p3 n1 d3) ∧ v.cell? ⟨g10, 1, none⟩ = some (.slice p4 n2 d4)) := fun v hb => ⟨(s9'.below hb).cell 0, (s9'.below hb).cell 1, (s10.below hb).cell 0, (s10.below hb).cell 1⟩
      have E1 : Hid (∀ v, Below w9.heap.size w9 v → Calls Try.prog 21 #[.slice p1 n1 d1, .slice p3 n1 d3] v fun e w' => e = .returned (.bool true) ∧ Quiet v w') := fun v hb => by
        have := eq_ints v p1 p3 n1 d1 n1 d3 _ _ (A1.below hb) (A3.below hb) ee1.symm ee1.symm (by omega) (by omega)
        rw [decide_eq_true rfl] at this
        exact this
      have E2 : Hid (∀ v, Below w9.heap.size w9 v → Calls Try.prog 21 #[.slice p2 n2 d2, .slice p4 n2 d4] v fun e w' => e = .returned (.bool true) ∧ Quiet v w') := fun v hb => by
        have := eq_ints v p2 p4 n2 d2 n2 d4 _ _ (A2.below hb) (A4.below hb) ee2.symm ee2.symm (by omega) (by omega)
        rw [decide_eq_true rfl] at this
        exact this
      have rt9 := Lib.hid (rt5.out.below hb9)
      have rf9 := Lib.hid (rf5.out.below hb9)
      have rx9 := Lib.hid (rx.out.below hb9)
      have hbw9 := Lib.hid (btrans hbw5.out hb9)
      have hbz9 := Lib.hid hb9
      obtain ⟨y0, y1, y2, y3⟩ := S0.out w9 (Below.refl _ _)
      clear s9 s10 s9' K9 K10 r9 r10 m1 m2 m3 m4 A1 A2 A3 A4 x11 x12 x13 x14 x21 x22 x23 x24 hR hb9 rt5 rf5 rx hg9 hg10 ee1 ee2 hbw5 LAS RLA
      go_wp2_with fail
      refine (E1.out w9 (Below.refl _ _)).mono ?_
      rintro e wa ⟨rfl, hqa⟩
      have ka := Lib.hid (hqa.below w9.heap.size)
      obtain ⟨y0', y1', y2', y3'⟩ := S0.out wa ka.out
      clear y0 y1 y2 y3 hqa
      go_wp2_with fail
      refine (E2.out wa ka.out).mono ?_
      rintro e wb ⟨rfl, hqb⟩
      have kb := Lib.hid (btrans ka.out (hqb.below wa.heap.size))
      clear y0' y1' y2' y3' hqb E1 E2 S0 ka
      have rtb := rt9.out.below kb.out
      have hbwb := Lib.hid (btrans hbw9.out kb.out)
      have hbzb := Lib.hid (btrans hbz9.out kb.out)
      have rfb := Lib.hid (rf9.out.below kb.out)
      have rxb := Lib.hid (rx9.out.below kb.out)
      cases hnb : newB G sets A with
      | false =>
        have u0 : wb.cell? ⟨W.heap.size, 0, none⟩ = some (.slice ai G.init.length ci) := rtb.cell 0
        have u1 : wb.cell? ⟨W.heap.size, 1, none⟩ = some (.slice ae G.edges.length ce) := rtb.cell 1
        have u2 : wb.cell? ⟨W.heap.size, 2, none⟩ = some (.slice al G.labels.length cl) := rtb.cell 2
        have u3 : wb.cell? ⟨W.heap.size, 3, none⟩ = some (.slice as_ sets.length cs) := rtb.cell 3
        have u4 : wb.cell? ⟨W.heap.size, 4, none⟩ = some (.int .i64 A.sets) := rtb.cell 4
        have u5 : wb.cell? ⟨W.heap.size, 5, none⟩ = some (.slice bi A.init.length di) := rtb.cell 5
        have u6 : wb.cell? ⟨W.heap.size, 6, none⟩ = some (.slice bn A.nodes.length dn) := rtb.cell 6
        have rtb' := Lib.hid rtb
        have RN2 : Hid (∀ w, Below W.heap.size W w → Calls Try.prog 11 #[.agg #[.slice ai G.init.length ci, .slice ae G.edges.length ce, .slice al G.labels.length cl], .slice as_ sets.length cs, .agg #[.int .i64 A.sets, .slice bi A.init.length di, .slice bn A.nodes.length dn]] w fun e w' => e = .returned (.tuple #[.agg #[.slice none 0 0, .slice none 0 0, .slice none 0 0, .slice none 0 0, .int .i64 0, .slice none 0 0, .slice none 0 0], .bool false]) ∧ Below w.heap.size w w') := fun w hb => by
          have := RN.out w hb
          rw [hnb] at this
          exact this
        have NB : Hid (false = newB G sets A) := hnb.symm
        clear RN hnb rtb
        go_wp2_with fail
        refine (RN2.out wb hbwb.out).mono ?_
        rintro e wc ⟨rfl, hbc⟩
        obtain ⟨wd, hwd⟩ : ∃ wd, wd = wc.alloc (.cells #[.slice none 0 0, .slice none 0 0, .slice none 0 0, .slice none 0 0, .int .i64 0, .slice none 0 0, .slice none 0 0] TRP) := ⟨_, rfl⟩
        obtain ⟨pb, hpb⟩ : ∃ pb, pb = wc.heap.size := ⟨_, rfl⟩
        have rpd : RowAt wd pb TRP [.slice none 0 0, .slice none 0 0, .slice none 0 0, .slice none 0 0, .int .i64 0, .slice none 0 0, .slice none 0 0] := by rw [hwd]; exact RowAt.new #[.slice none 0 0, .slice none 0 0, .slice none 0 0, .slice none 0 0, .int .i64 0, .slice none 0 0, .slice none 0 0] hpb
        have hbd : Below wb.heap.size wb wd := by rw [hwd]; exact balloc hbc _
        replace hwd := Lib.hid hwd
        replace hpb := Lib.hid hpb
        have rtd := Lib.hid (rtb'.out.below hbd)
        have rfd := Lib.hid (rfb.out.below hbd)
        have rxd := Lib.hid (rxb.out.below hbd)
        have hbwd := Lib.hid (btrans hbwb.out hbd)
        have hbzd := Lib.hid (btrans hbzb.out hbd)
        replace rpd := Lib.hid rpd
        clear u0 u1 u2 u3 u4 u5 u6 rtb' rfb rxb hbwb hbzb hbc hbd RN2 rt9 rf9 rx9 hbw9 hbz9 kb
        go_upto_region 11 with (fail)
        rw [← hwd.out, ← hpb.out]
        clear hwd hpb
        refine wp_region_kp (by kernel_rfl) 15 [.fix (.pointer (some ⟨W.heap.size, 0, none⟩)), .fix (.agg #[.slice ai G.init.length ci, .slice ae G.edges.length ce, .slice al G.labels.length cl]), .fix (.pointer (some ⟨W.heap.size, 3, none⟩)), .fix (.slice as_ sets.length cs), Kp.src G sets, .fix (.pointer (some ⟨W.heap.size, 4, none⟩)), .fix (.agg #[.int .i64 A.sets, .slice bi A.init.length di, .slice bn A.nodes.length dn]), Kp.new G sets A, .fix (.agg #[.int .i64 k9, .int .i64 y9, .int .i64 n9, .int .i64 e9, .int .i64 d9, .slice sa n1 sc, .slice la n2 lc]), Kp.two (actsP G sets A stem loop), Kp.two (actsP G sets A stem loop), Kp.nums (actsP G sets A stem loop).1, Kp.nums (actsP G sets A stem loop).2, Kp.nums (actsP G sets A stem loop).1, Kp.nums (actsP G sets A stem loop).2] (by kernel_rfl) (by kernel_rfl) (by kernel_rfl) ?_ ?_
        · intro i hi
          match i, hi with
          | 0, _ =>
            intro o ho ac w' hR hF hD K hK
            simp only [List.getElem?_toArray, List.getElem?_cons_zero, Option.some.injEq] at ho
            subst ho
            have e3 : ac.tmps.getD 3 undef = .pointer (some ⟨W.heap.size, 0, none⟩) := hF 3 (notDst_spec (by kernel_rfl))
            have d3 := (Array.getD_eq_getD_getElem? (xs := ac.tmps) (i := 3) (d := undef)).symm.trans e3
            clear hD hF
            go_simp
            exact hK _ _ (Below.refl _ _) rfl
          | 1, _ =>
            intro o ho ac w' hR hF hD K hK
            simp only [List.getElem?_toArray, List.getElem?_cons_zero, List.getElem?_cons_succ, Option.some.injEq] at ho
            subst ho
            have e90 : ac.tmps.getD 90 undef = .pointer (some ⟨W.heap.size, 0, none⟩) := hD 0 (dep_spec (by kernel_rfl)) 90 rfl
            have d90 := (Array.getD_eq_getD_getElem? (xs := ac.tmps) (i := 90) (d := undef)).symm.trans e90
            clear hD hF
            have q0 : w'.cell? ⟨W.heap.size, 0, none⟩ = some (.slice ai G.init.length ci) := (rtd.out.below hR).cell 0
            have q1 : w'.cell? ⟨W.heap.size, 1, none⟩ = some (.slice ae G.edges.length ce) := (rtd.out.below hR).cell 1
            have q2 : w'.cell? ⟨W.heap.size, 2, none⟩ = some (.slice al G.labels.length cl) := (rtd.out.below hR).cell 2
            go_simp
            exact hK _ _ (Below.refl _ _) rfl
          | 2, _ =>
            intro o ho ac w' hR hF hD K hK
            simp only [List.getElem?_toArray, List.getElem?_cons_zero, List.getElem?_cons_succ, Option.some.injEq] at ho
            subst ho
            have e3 : ac.tmps.getD 3 undef = .pointer (some ⟨W.heap.size, 0, none⟩) := hF 3 (notDst_spec (by kernel_rfl))
            have d3 := (Array.getD_eq_getD_getElem? (xs := ac.tmps) (i := 3) (d := undef)).symm.trans e3
            clear hD hF
            go_simp
            exact hK _ _ (Below.refl _ _) rfl
          | 3, _ =>
            intro o ho ac w' hR hF hD K hK
            simp only [List.getElem?_toArray, List.getElem?_cons_zero, List.getElem?_cons_succ, Option.some.injEq] at ho
            subst ho
            have e92 : ac.tmps.getD 92 undef = .pointer (some ⟨W.heap.size, 3, none⟩) := hD 2 (dep_spec (by kernel_rfl)) 92 rfl
            have d92 := (Array.getD_eq_getD_getElem? (xs := ac.tmps) (i := 92) (d := undef)).symm.trans e92
            clear hD hF
            have q3 : w'.cell? ⟨W.heap.size, 3, none⟩ = some (.slice as_ sets.length cs) := (rtd.out.below hR).cell 3
            go_simp
            exact hK _ _ (Below.refl _ _) rfl
          | 4, _ =>
            intro o ho ac w' hR hF hD K hK
            simp only [List.getElem?_toArray, List.getElem?_cons_zero, List.getElem?_cons_succ, Option.some.injEq] at ho
            subst ho
            have e91 : ac.tmps.getD 91 undef = .agg #[.slice ai G.init.length ci, .slice ae G.edges.length ce, .slice al G.labels.length cl] := hD 1 (dep_spec (by kernel_rfl)) 91 rfl
            have d91 := (Array.getD_eq_getD_getElem? (xs := ac.tmps) (i := 91) (d := undef)).symm.trans e91
            have e93 : ac.tmps.getD 93 undef = .slice as_ sets.length cs := hD 3 (dep_spec (by kernel_rfl)) 93 rfl
            have d93 := (Array.getD_eq_getD_getElem? (xs := ac.tmps) (i := 93) (d := undef)).symm.trans e93
            clear hD hF
            go_simp
            refine (GRC.out w' (btrans hbwd.out hR)).mono ?_
            rintro e w6 h6
            have hb6 := h6.1
            obtain ⟨v, rfl, hv⟩ := h6.v
            exact hK _ _ hb6 hv
          | 5, _ =>
            intro o ho ac w' hR hF hD K hK
            simp only [List.getElem?_toArray, List.getElem?_cons_zero, List.getElem?_cons_succ, Option.some.injEq] at ho
            subst ho
            have e3 : ac.tmps.getD 3 undef = .pointer (some ⟨W.heap.size, 0, none⟩) := hF 3 (notDst_spec (by kernel_rfl))
            have d3 := (Array.getD_eq_getD_getElem? (xs := ac.tmps) (i := 3) (d := undef)).symm.trans e3
            clear hD hF
            go_simp
            exact hK _ _ (Below.refl _ _) rfl
          | 6, _ =>
            intro o ho ac w' hR hF hD K hK
            simp only [List.getElem?_toArray, List.getElem?_cons_zero, List.getElem?_cons_succ, Option.some.injEq] at ho
            subst ho
            have e95 : ac.tmps.getD 95 undef = .pointer (some ⟨W.heap.size, 4, none⟩) := hD 5 (dep_spec (by kernel_rfl)) 95 rfl
            have d95 := (Array.getD_eq_getD_getElem? (xs := ac.tmps) (i := 95) (d := undef)).symm.trans e95
            clear hD hF
            have q4 : w'.cell? ⟨W.heap.size, 4, none⟩ = some (.int .i64 A.sets) := (rtd.out.below hR).cell 4
            have q5 : w'.cell? ⟨W.heap.size, 5, none⟩ = some (.slice bi A.init.length di) := (rtd.out.below hR).cell 5
            have q6 : w'.cell? ⟨W.heap.size, 6, none⟩ = some (.slice bn A.nodes.length dn) := (rtd.out.below hR).cell 6
            go_simp
            exact hK _ _ (Below.refl _ _) rfl
          | 7, _ =>
            intro o ho ac w' hR hF hD K hK
            simp only [List.getElem?_toArray, List.getElem?_cons_zero, List.getElem?_cons_succ, Option.some.injEq] at ho
            subst ho
            have y94 := hD 4 (dep_spec (by kernel_rfl)) 94 rfl
            obtain ⟨xv, hxv⟩ : ∃ xv, xv = ac.tmps.getD 94 undef := ⟨_, rfl⟩
            have sv : SrcV w' G sets xv := by rw [hxv]; exact y94
            have e94 := hxv.symm
            have d94 := (Array.getD_eq_getD_getElem? (xs := ac.tmps) (i := 94) (d := undef)).symm.trans e94
            clear y94 hxv
            have e96 : ac.tmps.getD 96 undef = .agg #[.int .i64 A.sets, .slice bi A.init.length di, .slice bn A.nodes.length dn] := hD 6 (dep_spec (by kernel_rfl)) 96 rfl
            have d96 := (Array.getD_eq_getD_getElem? (xs := ac.tmps) (i := 96) (d := undef)).symm.trans e96
            clear hD hF
            go_simp
            refine (NVC.out w' (btrans hbwd.out hR) _ sv).mono ?_
            rintro e w6 h6
            have hb6 := h6.1
            obtain ⟨v, rfl, hv⟩ := h6.v
            exact hK _ _ hb6 hv
          | 8, _ =>
            intro o ho ac w' hR hF hD K hK
            simp only [List.getElem?_toArray, List.getElem?_cons_zero, List.getElem?_cons_succ, Option.some.injEq] at ho
            subst ho
            have e4 : ac.tmps.getD 4 undef = .pointer (some ⟨W.heap.size + 1, 0, none⟩) := hF 4 (notDst_spec (by kernel_rfl))
            have d4 := (Array.getD_eq_getD_getElem? (xs := ac.tmps) (i := 4) (d := undef)).symm.trans e4
            clear hD hF
            have q0 : w'.cell? ⟨W.heap.size + 1, 0, none⟩ = some (.int .i64 k9) := (rfd.out.below hR).cell 0
            have q1 : w'.cell? ⟨W.heap.size + 1, 1, none⟩ = some (.int .i64 y9) := (rfd.out.below hR).cell 1
            have q2 : w'.cell? ⟨W.heap.size + 1, 2, none⟩ = some (.int .i64 n9) := (rfd.out.below hR).cell 2
            have q3 : w'.cell? ⟨W.heap.size + 1, 3, none⟩ = some (.int .i64 e9) := (rfd.out.below hR).cell 3
            have q4 : w'.cell? ⟨W.heap.size + 1, 4, none⟩ = some (.int .i64 d9) := (rfd.out.below hR).cell 4
            have q5 : w'.cell? ⟨W.heap.size + 1, 5, none⟩ = some (.slice sa n1 sc) := (rfd.out.below hR).cell 5
            have q6 : w'.cell? ⟨W.heap.size + 1, 6, none⟩ = some (.slice la n2 lc) := (rfd.out.below hR).cell 6
            go_simp
            exact hK _ _ (Below.refl _ _) rfl
          | 9, _ =>
            intro o ho ac w' hR hF hD K hK
            simp only [List.getElem?_toArray, List.getElem?_cons_zero, List.getElem?_cons_succ, Option.some.injEq] at ho
            subst ho
            have y97 := hD 7 (dep_spec (by kernel_rfl)) 97 rfl
            obtain ⟨xv, hxv⟩ : ∃ xv, xv = ac.tmps.getD 97 undef := ⟨_, rfl⟩
            have sv : NewV w' G sets A xv := by rw [hxv]; exact y97
            have e97 := hxv.symm
            have d97 := (Array.getD_eq_getD_getElem? (xs := ac.tmps) (i := 97) (d := undef)).symm.trans e97
            clear y97 hxv
            have e98 : ac.tmps.getD 98 undef = .agg #[.int .i64 k9, .int .i64 y9, .int .i64 n9, .int .i64 e9, .int .i64 d9, .slice sa n1 sc, .slice la n2 lc] := hD 8 (dep_spec (by kernel_rfl)) 98 rfl
            have d98 := (Array.getD_eq_getD_getElem? (xs := ac.tmps) (i := 98) (d := undef)).symm.trans e98
            clear hD hF
            go_simp
            refine (ACT.out w' (btrans hbwd.out hR) _ sv).mono ?_
            rintro e w6 ⟨hb6, a, c, a2, c2, rfl, h1, h2⟩
            exact hK _ _ hb6 ⟨a, c, a2, c2, rfl, h1, h2⟩
          | 10, _ =>
            intro o ho ac w' hR hF hD K hK
            simp only [List.getElem?_toArray, List.getElem?_cons_zero, List.getElem?_cons_succ, Option.some.injEq] at ho
            subst ho
            have y99 := hD 9 (dep_spec (by kernel_rfl)) 99 rfl
            obtain ⟨a, c, a2, c2, e99, h1, h2⟩ := y99
            have d99 := (Array.getD_eq_getD_getElem? (xs := ac.tmps) (i := 99) (d := undef)).symm.trans e99
            clear hD hF
            go_simp
            exact hK _ _ (Below.refl _ _) ⟨a, c, a2, c2, rfl, h1, h2⟩
          | 11, _ =>
            intro o ho ac w' hR hF hD K hK
            simp only [List.getElem?_toArray, List.getElem?_cons_zero, List.getElem?_cons_succ, Option.some.injEq] at ho
            subst ho
            have y89 := hD 10 (dep_spec (by kernel_rfl)) 89 rfl
            obtain ⟨a, c, a2, c2, e89, h1, h2⟩ := y89
            have d89 := (Array.getD_eq_getD_getElem? (xs := ac.tmps) (i := 89) (d := undef)).symm.trans e89
            clear hD hF
            go_simp
            exact hK _ _ (Below.refl _ _) ⟨a, c, rfl, h1⟩
          | 12, _ =>
            intro o ho ac w' hR hF hD K hK
            simp only [List.getElem?_toArray, List.getElem?_cons_zero, List.getElem?_cons_succ, Option.some.injEq] at ho
            subst ho
            have y89 := hD 10 (dep_spec (by kernel_rfl)) 89 rfl
            obtain ⟨a, c, a2, c2, e89, h1, h2⟩ := y89
            have d89 := (Array.getD_eq_getD_getElem? (xs := ac.tmps) (i := 89) (d := undef)).symm.trans e89
            clear hD hF
            go_simp
            exact hK _ _ (Below.refl _ _) ⟨a2, c2, rfl, h2⟩
          | 13, _ =>
            intro o ho ac w' hR hF hD K hK
            simp only [List.getElem?_toArray, List.getElem?_cons_zero, List.getElem?_cons_succ, Option.some.injEq] at ho
            subst ho
            have y89 := hD 10 (dep_spec (by kernel_rfl)) 89 rfl
            obtain ⟨a, c, a2, c2, e89, h1, h2⟩ := y89
            have d89 := (Array.getD_eq_getD_getElem? (xs := ac.tmps) (i := 89) (d := undef)).symm.trans e89
            have e90 : ac.tmps.getD 90 undef = .pointer (some ⟨W.heap.size, 0, none⟩) := hD 0 (dep_spec (by kernel_rfl)) 90 rfl
            have d90 := (Array.getD_eq_getD_getElem? (xs := ac.tmps) (i := 90) (d := undef)).symm.trans e90
            have e91 : ac.tmps.getD 91 undef = .agg #[.slice ai G.init.length ci, .slice ae G.edges.length ce, .slice al G.labels.length cl] := hD 1 (dep_spec (by kernel_rfl)) 91 rfl
            have d91 := (Array.getD_eq_getD_getElem? (xs := ac.tmps) (i := 91) (d := undef)).symm.trans e91
            have e92 : ac.tmps.getD 92 undef = .pointer (some ⟨W.heap.size, 3, none⟩) := hD 2 (dep_spec (by kernel_rfl)) 92 rfl
            have d92 := (Array.getD_eq_getD_getElem? (xs := ac.tmps) (i := 92) (d := undef)).symm.trans e92
            have e93 : ac.tmps.getD 93 undef = .slice as_ sets.length cs := hD 3 (dep_spec (by kernel_rfl)) 93 rfl
            have d93 := (Array.getD_eq_getD_getElem? (xs := ac.tmps) (i := 93) (d := undef)).symm.trans e93
            have y94 := hD 4 (dep_spec (by kernel_rfl)) 94 rfl
            obtain ⟨xv, hxv⟩ : ∃ xv, xv = ac.tmps.getD 94 undef := ⟨_, rfl⟩
            have sv : SrcV w' G sets xv := by rw [hxv]; exact y94
            have e94 := hxv.symm
            have d94 := (Array.getD_eq_getD_getElem? (xs := ac.tmps) (i := 94) (d := undef)).symm.trans e94
            clear y94 hxv
            have e95 : ac.tmps.getD 95 undef = .pointer (some ⟨W.heap.size, 4, none⟩) := hD 5 (dep_spec (by kernel_rfl)) 95 rfl
            have d95 := (Array.getD_eq_getD_getElem? (xs := ac.tmps) (i := 95) (d := undef)).symm.trans e95
            have e96 : ac.tmps.getD 96 undef = .agg #[.int .i64 A.sets, .slice bi A.init.length di, .slice bn A.nodes.length dn] := hD 6 (dep_spec (by kernel_rfl)) 96 rfl
            have d96 := (Array.getD_eq_getD_getElem? (xs := ac.tmps) (i := 96) (d := undef)).symm.trans e96
            have y97 := hD 7 (dep_spec (by kernel_rfl)) 97 rfl
            obtain ⟨xv, hxv⟩ : ∃ xv, xv = ac.tmps.getD 97 undef := ⟨_, rfl⟩
            have sv : NewV w' G sets A xv := by rw [hxv]; exact y97
            have e97 := hxv.symm
            have d97 := (Array.getD_eq_getD_getElem? (xs := ac.tmps) (i := 97) (d := undef)).symm.trans e97
            clear y97 hxv
            have e98 : ac.tmps.getD 98 undef = .agg #[.int .i64 k9, .int .i64 y9, .int .i64 n9, .int .i64 e9, .int .i64 d9, .slice sa n1 sc, .slice la n2 lc] := hD 8 (dep_spec (by kernel_rfl)) 98 rfl
            have d98 := (Array.getD_eq_getD_getElem? (xs := ac.tmps) (i := 98) (d := undef)).symm.trans e98
            have y99 := hD 9 (dep_spec (by kernel_rfl)) 99 rfl
            obtain ⟨a, c, a2, c2, e99, h1, h2⟩ := y99
            have d99 := (Array.getD_eq_getD_getElem? (xs := ac.tmps) (i := 99) (d := undef)).symm.trans e99
            have y100 := hD 11 (dep_spec (by kernel_rfl)) 100 rfl
            obtain ⟨a, c, e100, h1⟩ := y100
            have d100 := (Array.getD_eq_getD_getElem? (xs := ac.tmps) (i := 100) (d := undef)).symm.trans e100
            clear hD hF
            go_simp
            exact hK _ _ (Below.refl _ _) ⟨a, c, rfl, h1⟩
          | 14, _ =>
            intro o ho ac w' hR hF hD K hK
            simp only [List.getElem?_toArray, List.getElem?_cons_zero, List.getElem?_cons_succ, Option.some.injEq] at ho
            subst ho
            have y13 := hD 13 (dep_spec (by kernel_rfl)) 13 rfl
            have y89 := hD 10 (dep_spec (by kernel_rfl)) 89 rfl
            obtain ⟨a, c, a2, c2, e89, h1, h2⟩ := y89
            have d89 := (Array.getD_eq_getD_getElem? (xs := ac.tmps) (i := 89) (d := undef)).symm.trans e89
            have e90 : ac.tmps.getD 90 undef = .pointer (some ⟨W.heap.size, 0, none⟩) := hD 0 (dep_spec (by kernel_rfl)) 90 rfl
            have d90 := (Array.getD_eq_getD_getElem? (xs := ac.tmps) (i := 90) (d := undef)).symm.trans e90
            have e91 : ac.tmps.getD 91 undef = .agg #[.slice ai G.init.length ci, .slice ae G.edges.length ce, .slice al G.labels.length cl] := hD 1 (dep_spec (by kernel_rfl)) 91 rfl
            have d91 := (Array.getD_eq_getD_getElem? (xs := ac.tmps) (i := 91) (d := undef)).symm.trans e91
            have e92 : ac.tmps.getD 92 undef = .pointer (some ⟨W.heap.size, 3, none⟩) := hD 2 (dep_spec (by kernel_rfl)) 92 rfl
            have d92 := (Array.getD_eq_getD_getElem? (xs := ac.tmps) (i := 92) (d := undef)).symm.trans e92
            have e93 : ac.tmps.getD 93 undef = .slice as_ sets.length cs := hD 3 (dep_spec (by kernel_rfl)) 93 rfl
            have d93 := (Array.getD_eq_getD_getElem? (xs := ac.tmps) (i := 93) (d := undef)).symm.trans e93
            have y94 := hD 4 (dep_spec (by kernel_rfl)) 94 rfl
            obtain ⟨xv, hxv⟩ : ∃ xv, xv = ac.tmps.getD 94 undef := ⟨_, rfl⟩
            have sv : SrcV w' G sets xv := by rw [hxv]; exact y94
            have e94 := hxv.symm
            have d94 := (Array.getD_eq_getD_getElem? (xs := ac.tmps) (i := 94) (d := undef)).symm.trans e94
            clear y94 hxv
            have e95 : ac.tmps.getD 95 undef = .pointer (some ⟨W.heap.size, 4, none⟩) := hD 5 (dep_spec (by kernel_rfl)) 95 rfl
            have d95 := (Array.getD_eq_getD_getElem? (xs := ac.tmps) (i := 95) (d := undef)).symm.trans e95
            have e96 : ac.tmps.getD 96 undef = .agg #[.int .i64 A.sets, .slice bi A.init.length di, .slice bn A.nodes.length dn] := hD 6 (dep_spec (by kernel_rfl)) 96 rfl
            have d96 := (Array.getD_eq_getD_getElem? (xs := ac.tmps) (i := 96) (d := undef)).symm.trans e96
            have y97 := hD 7 (dep_spec (by kernel_rfl)) 97 rfl
            obtain ⟨xv, hxv⟩ : ∃ xv, xv = ac.tmps.getD 97 undef := ⟨_, rfl⟩
            have sv : NewV w' G sets A xv := by rw [hxv]; exact y97
            have e97 := hxv.symm
            have d97 := (Array.getD_eq_getD_getElem? (xs := ac.tmps) (i := 97) (d := undef)).symm.trans e97
            clear y97 hxv
            have e98 : ac.tmps.getD 98 undef = .agg #[.int .i64 k9, .int .i64 y9, .int .i64 n9, .int .i64 e9, .int .i64 d9, .slice sa n1 sc, .slice la n2 lc] := hD 8 (dep_spec (by kernel_rfl)) 98 rfl
            have d98 := (Array.getD_eq_getD_getElem? (xs := ac.tmps) (i := 98) (d := undef)).symm.trans e98
            have y99 := hD 9 (dep_spec (by kernel_rfl)) 99 rfl
            obtain ⟨a, c, a2, c2, e99, h1, h2⟩ := y99
            have d99 := (Array.getD_eq_getD_getElem? (xs := ac.tmps) (i := 99) (d := undef)).symm.trans e99
            have y100 := hD 11 (dep_spec (by kernel_rfl)) 100 rfl
            obtain ⟨a, c, e100, h1⟩ := y100
            have d100 := (Array.getD_eq_getD_getElem? (xs := ac.tmps) (i := 100) (d := undef)).symm.trans e100
            have y101 := hD 12 (dep_spec (by kernel_rfl)) 101 rfl
            obtain ⟨a, c, e101, h1⟩ := y101
            have d101 := (Array.getD_eq_getD_getElem? (xs := ac.tmps) (i := 101) (d := undef)).symm.trans e101
            clear hD hF
            go_simp
            exact hK _ _ (Below.refl _ _) ⟨a, c, rfl, h1⟩
          | k + 15, hk => omega
        · rintro ⟨tm, df⟩ we hdf hsz hF hR hV
          obtain rfl : df = [] := hdf
          obtain ⟨q, rfl⟩ := frame130 tm hsz
          obtain ⟨a13, c13, k13, NA⟩ := hV 13 13 (by decide) rfl
          obtain ⟨a14, c14, k14, NB2⟩ := hV 14 14 (by decide) rfl
          replace k13 : q 13 = _ := k13
          replace k14 : q 14 = _ := k14
          rw [k13, k14]
          clear k13 k14
          have k0 := hF 0 (notDst_spec (by kernel_rfl))
          have k1 := hF 1 (notDst_spec (by kernel_rfl))
          have k2 := hF 2 (notDst_spec (by kernel_rfl))
          have k3 := hF 3 (notDst_spec (by kernel_rfl))
          have k4 := hF 4 (notDst_spec (by kernel_rfl))
          have k5 := hF 5 (notDst_spec (by kernel_rfl))
          have k6 := hF 6 (notDst_spec (by kernel_rfl))
          have k7 := hF 7 (notDst_spec (by kernel_rfl))
          have k8 := hF 8 (notDst_spec (by kernel_rfl))
          have k9 := hF 9 (notDst_spec (by kernel_rfl))
          have k10 := hF 10 (notDst_spec (by kernel_rfl))
          have k11 := hF 11 (notDst_spec (by kernel_rfl))
          have k12 := hF 12 (notDst_spec (by kernel_rfl))
          have k15 := hF 15 (notDst_spec (by kernel_rfl))
          have k16 := hF 16 (notDst_spec (by kernel_rfl))
          have k17 := hF 17 (notDst_spec (by kernel_rfl))
          have k18 := hF 18 (notDst_spec (by kernel_rfl))
          have k19 := hF 19 (notDst_spec (by kernel_rfl))
          have k20 := hF 20 (notDst_spec (by kernel_rfl))
          have k21 := hF 21 (notDst_spec (by kernel_rfl))
          have k22 := hF 22 (notDst_spec (by kernel_rfl))
          have k23 := hF 23 (notDst_spec (by kernel_rfl))
          have k24 := hF 24 (notDst_spec (by kernel_rfl))
          have k25 := hF 25 (notDst_spec (by kernel_rfl))
          have k26 := hF 26 (notDst_spec (by kernel_rfl))
          have k27 := hF 27 (notDst_spec (by kernel_rfl))
          have k28 := hF 28 (notDst_spec (by kernel_rfl))
          have k29 := hF 29 (notDst_spec (by kernel_rfl))
          have k30 := hF 30 (notDst_spec (by kernel_rfl))
          have k31 := hF 31 (notDst_spec (by kernel_rfl))
          have k32 := hF 32 (notDst_spec (by kernel_rfl))
          have k33 := hF 33 (notDst_spec (by kernel_rfl))
          have k34 := hF 34 (notDst_spec (by kernel_rfl))
          have k35 := hF 35 (notDst_spec (by kernel_rfl))
          have k36 := hF 36 (notDst_spec (by kernel_rfl))
          have k37 := hF 37 (notDst_spec (by kernel_rfl))
          have k38 := hF 38 (notDst_spec (by kernel_rfl))
          have k39 := hF 39 (notDst_spec (by kernel_rfl))
          have k40 := hF 40 (notDst_spec (by kernel_rfl))
          have k41 := hF 41 (notDst_spec (by kernel_rfl))
          have k42 := hF 42 (notDst_spec (by kernel_rfl))
          have k43 := hF 43 (notDst_spec (by kernel_rfl))
          have k44 := hF 44 (notDst_spec (by kernel_rfl))
          have k45 := hF 45 (notDst_spec (by kernel_rfl))
          have k46 := hF 46 (notDst_spec (by kernel_rfl))
          have k47 := hF 47 (notDst_spec (by kernel_rfl))
          have k48 := hF 48 (notDst_spec (by kernel_rfl))
          have k49 := hF 49 (notDst_spec (by kernel_rfl))
          have k50 := hF 50 (notDst_spec (by kernel_rfl))
          have k51 := hF 51 (notDst_spec (by kernel_rfl))
          have k52 := hF 52 (notDst_spec (by kernel_rfl))
          have k53 := hF 53 (notDst_spec (by kernel_rfl))
          have k54 := hF 54 (notDst_spec (by kernel_rfl))
          have k55 := hF 55 (notDst_spec (by kernel_rfl))
          have k56 := hF 56 (notDst_spec (by kernel_rfl))
          have k57 := hF 57 (notDst_spec (by kernel_rfl))
          have k58 := hF 58 (notDst_spec (by kernel_rfl))
          have k59 := hF 59 (notDst_spec (by kernel_rfl))
          have k60 := hF 60 (notDst_spec (by kernel_rfl))
          have k61 := hF 61 (notDst_spec (by kernel_rfl))
          have k62 := hF 62 (notDst_spec (by kernel_rfl))
          have k63 := hF 63 (notDst_spec (by kernel_rfl))
          have k64 := hF 64 (notDst_spec (by kernel_rfl))
          have k65 := hF 65 (notDst_spec (by kernel_rfl))
          have k66 := hF 66 (notDst_spec (by kernel_rfl))
          have k67 := hF 67 (notDst_spec (by kernel_rfl))
          have k68 := hF 68 (notDst_spec (by kernel_rfl))
          have k69 := hF 69 (notDst_spec (by kernel_rfl))
          have k70 := hF 70 (notDst_spec (by kernel_rfl))
          have k71 := hF 71 (notDst_spec (by kernel_rfl))
          have k72 := hF 72 (notDst_spec (by kernel_rfl))
          have k73 := hF 73 (notDst_spec (by kernel_rfl))
          have k74 := hF 74 (notDst_spec (by kernel_rfl))
          have k75 := hF 75 (notDst_spec (by kernel_rfl))
          have k76 := hF 76 (notDst_spec (by kernel_rfl))
          have k77 := hF 77 (notDst_spec (by kernel_rfl))
          have k78 := hF 78 (notDst_spec (by kernel_rfl))
          have k79 := hF 79 (notDst_spec (by kernel_rfl))
          have k80 := hF 80 (notDst_spec (by kernel_rfl))
          have k81 := hF 81 (notDst_spec (by kernel_rfl))
          have k82 := hF 82 (notDst_spec (by kernel_rfl))
          have k83 := hF 83 (notDst_spec (by kernel_rfl))
          have k84 := hF 84 (notDst_spec (by kernel_rfl))
          have k85 := hF 85 (notDst_spec (by kernel_rfl))
          have k86 := hF 86 (notDst_spec (by kernel_rfl))
          have k87 := hF 87 (notDst_spec (by kernel_rfl))
          have k88 := hF 88 (notDst_spec (by kernel_rfl))
          have k102 := hF 102 (notDst_spec (by kernel_rfl))
          have k103 := hF 103 (notDst_spec (by kernel_rfl))
          have k104 := hF 104 (notDst_spec (by kernel_rfl))
          have k105 := hF 105 (notDst_spec (by kernel_rfl))
          have k106 := hF 106 (notDst_spec (by kernel_rfl))
          have k107 := hF 107 (notDst_spec (by kernel_rfl))
          have k108 := hF 108 (notDst_spec (by kernel_rfl))
          have k109 := hF 109 (notDst_spec (by kernel_rfl))
          have k110 := hF 110 (notDst_spec (by kernel_rfl))
          have k111 := hF 111 (notDst_spec (by kernel_rfl))
          have k112 := hF 112 (notDst_spec (by kernel_rfl))
          have k113 := hF 113 (notDst_spec (by kernel_rfl))
          have k114 := hF 114 (notDst_spec (by kernel_rfl))
          have k115 := hF 115 (notDst_spec (by kernel_rfl))
          have k116 := hF 116 (notDst_spec (by kernel_rfl))
          have k117 := hF 117 (notDst_spec (by kernel_rfl))
          have k118 := hF 118 (notDst_spec (by kernel_rfl))
          have k119 := hF 119 (notDst_spec (by kernel_rfl))
          have k120 := hF 120 (notDst_spec (by kernel_rfl))
          have k121 := hF 121 (notDst_spec (by kernel_rfl))
          have k122 := hF 122 (notDst_spec (by kernel_rfl))
          have k123 := hF 123 (notDst_spec (by kernel_rfl))
          have k124 := hF 124 (notDst_spec (by kernel_rfl))
          have k125 := hF 125 (notDst_spec (by kernel_rfl))
          have k126 := hF 126 (notDst_spec (by kernel_rfl))
          have k127 := hF 127 (notDst_spec (by kernel_rfl))
          have k128 := hF 128 (notDst_spec (by kernel_rfl))
          have k129 := hF 129 (notDst_spec (by kernel_rfl))
          simp only [Array.getD_eq_getD_getElem?, List.getElem?_toArray, List.getElem?_cons_succ, List.getElem?_cons_zero, Option.getD_some] at k0 k1 k2 k3 k4 k5 k6 k7 k8 k9 k10 k11 k12 k15 k16 k17 k18 k19 k20 k21 k22 k23 k24 k25 k26 k27 k28 k29 k30 k31 k32 k33 k34 k35 k36 k37 k38 k39 k40 k41 k42 k43 k44 k45 k46 k47 k48 k49 k50 k51 k52 k53 k54 k55 k56 k57 k58 k59 k60 k61 k62 k63 k64 k65 k66 k67 k68 k69 k70 k71 k72 k73 k74 k75 k76 k77 k78 k79 k80 k81 k82 k83 k84 k85 k86 k87 k88 k102 k103 k104 k105 k106 k107 k108 k109 k110 k111 k112 k113 k114 k115 k116 k117 k118 k119 k120 k121 k122 k123 k124 k125 k126 k127 k128 k129
          simp only [k0, k1, k2, k3, k4, k5, k6, k7, k8, k9, k10, k11, k12, k15, k16, k17, k18, k19, k20, k21, k22, k23, k24, k25, k26, k27, k28, k29, k30, k31, k32, k33, k34, k35, k36, k37, k38, k39, k40, k41, k42, k43, k44, k45, k46, k47, k48, k49, k50, k51, k52, k53, k54, k55, k56, k57, k58, k59, k60, k61, k62, k63, k64, k65, k66, k67, k68, k69, k70, k71, k72, k73, k74, k75, k76, k77, k78, k79, k80, k81, k82, k83, k84, k85, k86, k87, k88, k102, k103, k104, k105, k106, k107, k108, k109, k110, k111, k112, k113, k114, k115, k116, k117, k118, k119, k120, k121, k122, k123, k124, k125, k126, k127, k128, k129]
          clear k0 k1 k2 k3 k4 k5 k6 k7 k8 k9 k10 k11 k12 k15 k16 k17 k18 k19 k20 k21 k22 k23 k24 k25 k26 k27 k28 k29 k30 k31 k32 k33 k34 k35 k36 k37 k38 k39 k40 k41 k42 k43 k44 k45 k46 k47 k48 k49 k50 k51 k52 k53 k54 k55 k56 k57 k58 k59 k60 k61 k62 k63 k64 k65 k66 k67 k68 k69 k70 k71 k72 k73 k74 k75 k76 k77 k78 k79 k80 k81 k82 k83 k84 k85 k86 k87 k88 k102 k103 k104 k105 k106 k107 k108 k109 k110 k111 k112 k113 k114 k115 k116 k117 k118 k119 k120 k121 k122 k123 k124 k125 k126 k127 k128 k129
          clear hF hV hsz
          change wpAny _ _ _ _ 0 _ _ _
          refine ⟨by kernel_rfl, ?_⟩
          have hbe := Lib.hid (btrans hbwd.out hR)
          have rpe := rpd.out.below hR
          have rxe := rxd.out.below hR
          have hbze := Lib.hid (btrans hbzd.out hR)
          have WT := Lib.hid (fun v => works_true v)
          have hz : actsP G sets A stem loop = ([], []) := by unfold actsP; rw [← NB.out]; rfl
          rw [hz]
          clear NA NB2 hz hbze rpe rxe RAC
          go_wp2_with fail
          refine (WT.out we).mono ?_
          rintro e w9 ⟨rfl, hb9⟩
          go_wp2
          go_ret
          exact ⟨rfl, btrans hbe.out hb9⟩
      | true =>
        have u0 : wb.cell? ⟨W.heap.size, 0, none⟩ = some (.slice ai G.init.length ci) := rtb.cell 0
        have u1 : wb.cell? ⟨W.heap.size, 1, none⟩ = some (.slice ae G.edges.length ce) := rtb.cell 1
        have u2 : wb.cell? ⟨W.heap.size, 2, none⟩ = some (.slice al G.labels.length cl) := rtb.cell 2
        have u3 : wb.cell? ⟨W.heap.size, 3, none⟩ = some (.slice as_ sets.length cs) := rtb.cell 3
        have u4 : wb.cell? ⟨W.heap.size, 4, none⟩ = some (.int .i64 A.sets) := rtb.cell 4
        have u5 : wb.cell? ⟨W.heap.size, 5, none⟩ = some (.slice bi A.init.length di) := rtb.cell 5
        have u6 : wb.cell? ⟨W.heap.size, 6, none⟩ = some (.slice bn A.nodes.length dn) := rtb.cell 6
        have rtb' := Lib.hid rtb
        have RN2 : Hid (∀ w, Below W.heap.size W w → Calls Try.prog 11 #[.agg #[.slice ai G.init.length ci, .slice ae G.edges.length ce, .slice al G.labels.length cl], .slice as_ sets.length cs, .agg #[.int .i64 A.sets, .slice bi A.init.length di, .slice bn A.nodes.length dn]] w fun e w' => e = .returned (.tuple #[.agg #[.slice ai G.init.length ci, .slice ae G.edges.length ce, .slice al G.labels.length cl, .slice as_ sets.length cs, .int .i64 A.sets, .slice bi A.init.length di, .slice bn A.nodes.length dn], .bool true]) ∧ Below w.heap.size w w') := fun w hb => by
          have := RN.out w hb
          rw [hnb] at this
          exact this
        have NB : Hid (true = newB G sets A) := hnb.symm
        clear RN hnb rtb
        go_wp2_with fail
        refine (RN2.out wb hbwb.out).mono ?_
        rintro e wc ⟨rfl, hbc⟩
        obtain ⟨wd, hwd⟩ : ∃ wd, wd = wc.alloc (.cells #[.slice ai G.init.length ci, .slice ae G.edges.length ce, .slice al G.labels.length cl, .slice as_ sets.length cs, .int .i64 A.sets, .slice bi A.init.length di, .slice bn A.nodes.length dn] TRP) := ⟨_, rfl⟩
        obtain ⟨pb, hpb⟩ : ∃ pb, pb = wc.heap.size := ⟨_, rfl⟩
        have rpd : RowAt wd pb TRP [.slice ai G.init.length ci, .slice ae G.edges.length ce, .slice al G.labels.length cl, .slice as_ sets.length cs, .int .i64 A.sets, .slice bi A.init.length di, .slice bn A.nodes.length dn] := by rw [hwd]; exact RowAt.new #[.slice ai G.init.length ci, .slice ae G.edges.length ce, .slice al G.labels.length cl, .slice as_ sets.length cs, .int .i64 A.sets, .slice bi A.init.length di, .slice bn A.nodes.length dn] hpb
        have hbd : Below wb.heap.size wb wd := by rw [hwd]; exact balloc hbc _
        replace hwd := Lib.hid hwd
        replace hpb := Lib.hid hpb
        have rtd := Lib.hid (rtb'.out.below hbd)
        have rfd := Lib.hid (rfb.out.below hbd)
        have rxd := Lib.hid (rxb.out.below hbd)
        have hbwd := Lib.hid (btrans hbwb.out hbd)
        have hbzd := Lib.hid (btrans hbzb.out hbd)
        replace rpd := Lib.hid rpd
        clear u0 u1 u2 u3 u4 u5 u6 rtb' rfb rxb hbwb hbzb hbc hbd RN2 rt9 rf9 rx9 hbw9 hbz9 kb
        go_upto_region 11 with (fail)
        rw [← hwd.out, ← hpb.out]
        clear hwd hpb
        refine wp_region_kp (by kernel_rfl) 15 [.fix (.pointer (some ⟨W.heap.size, 0, none⟩)), .fix (.agg #[.slice ai G.init.length ci, .slice ae G.edges.length ce, .slice al G.labels.length cl]), .fix (.pointer (some ⟨W.heap.size, 3, none⟩)), .fix (.slice as_ sets.length cs), Kp.src G sets, .fix (.pointer (some ⟨W.heap.size, 4, none⟩)), .fix (.agg #[.int .i64 A.sets, .slice bi A.init.length di, .slice bn A.nodes.length dn]), Kp.new G sets A, .fix (.agg #[.int .i64 k9, .int .i64 y9, .int .i64 n9, .int .i64 e9, .int .i64 d9, .slice sa n1 sc, .slice la n2 lc]), Kp.two (actsP G sets A stem loop), Kp.two (actsP G sets A stem loop), Kp.nums (actsP G sets A stem loop).1, Kp.nums (actsP G sets A stem loop).2, Kp.nums (actsP G sets A stem loop).1, Kp.nums (actsP G sets A stem loop).2] (by kernel_rfl) (by kernel_rfl) (by kernel_rfl) ?_ ?_
        · intro i hi
          match i, hi with
          | 0, _ =>
            intro o ho ac w' hR hF hD K hK
            simp only [List.getElem?_toArray, List.getElem?_cons_zero, Option.some.injEq] at ho
            subst ho
            have e3 : ac.tmps.getD 3 undef = .pointer (some ⟨W.heap.size, 0, none⟩) := hF 3 (notDst_spec (by kernel_rfl))
            have d3 := (Array.getD_eq_getD_getElem? (xs := ac.tmps) (i := 3) (d := undef)).symm.trans e3
            clear hD hF
            go_simp
            exact hK _ _ (Below.refl _ _) rfl
          | 1, _ =>
            intro o ho ac w' hR hF hD K hK
            simp only [List.getElem?_toArray, List.getElem?_cons_zero, List.getElem?_cons_succ, Option.some.injEq] at ho
            subst ho
            have e90 : ac.tmps.getD 90 undef = .pointer (some ⟨W.heap.size, 0, none⟩) := hD 0 (dep_spec (by kernel_rfl)) 90 rfl
            have d90 := (Array.getD_eq_getD_getElem? (xs := ac.tmps) (i := 90) (d := undef)).symm.trans e90
            clear hD hF
            have q0 : w'.cell? ⟨W.heap.size, 0, none⟩ = some (.slice ai G.init.length ci) := (rtd.out.below hR).cell 0
            have q1 : w'.cell? ⟨W.heap.size, 1, none⟩ = some (.slice ae G.edges.length ce) := (rtd.out.below hR).cell 1
            have q2 : w'.cell? ⟨W.heap.size, 2, none⟩ = some (.slice al G.labels.length cl) := (rtd.out.below hR).cell 2
            go_simp
            exact hK _ _ (Below.refl _ _) rfl
          | 2, _ =>
            intro o ho ac w' hR hF hD K hK
            simp only [List.getElem?_toArray, List.getElem?_cons_zero, List.getElem?_cons_succ, Option.some.injEq] at ho
            subst ho
            have e3 : ac.tmps.getD 3 undef = .pointer (some ⟨W.heap.size, 0, none⟩) := hF 3 (notDst_spec (by kernel_rfl))
            have d3 := (Array.getD_eq_getD_getElem? (xs := ac.tmps) (i := 3) (d := undef)).symm.trans e3
            clear hD hF
            go_simp
            exact hK _ _ (Below.refl _ _) rfl
          | 3, _ =>
            intro o ho ac w' hR hF hD K hK
            simp only [List.getElem?_toArray, List.getElem?_cons_zero, List.getElem?_cons_succ, Option.some.injEq] at ho
            subst ho
            have e92 : ac.tmps.getD 92 undef = .pointer (some ⟨W.heap.size, 3, none⟩) := hD 2 (dep_spec (by kernel_rfl)) 92 rfl
            have d92 := (Array.getD_eq_getD_getElem? (xs := ac.tmps) (i := 92) (d := undef)).symm.trans e92
            clear hD hF
            have q3 : w'.cell? ⟨W.heap.size, 3, none⟩ = some (.slice as_ sets.length cs) := (rtd.out.below hR).cell 3
            go_simp
            exact hK _ _ (Below.refl _ _) rfl
          | 4, _ =>
            intro o ho ac w' hR hF hD K hK
            simp only [List.getElem?_toArray, List.getElem?_cons_zero, List.getElem?_cons_succ, Option.some.injEq] at ho
            subst ho
            have e91 : ac.tmps.getD 91 undef = .agg #[.slice ai G.init.length ci, .slice ae G.edges.length ce, .slice al G.labels.length cl] := hD 1 (dep_spec (by kernel_rfl)) 91 rfl
            have d91 := (Array.getD_eq_getD_getElem? (xs := ac.tmps) (i := 91) (d := undef)).symm.trans e91
            have e93 : ac.tmps.getD 93 undef = .slice as_ sets.length cs := hD 3 (dep_spec (by kernel_rfl)) 93 rfl
            have d93 := (Array.getD_eq_getD_getElem? (xs := ac.tmps) (i := 93) (d := undef)).symm.trans e93
            clear hD hF
            go_simp
            refine (GRC.out w' (btrans hbwd.out hR)).mono ?_
            rintro e w6 h6
            have hb6 := h6.1
            obtain ⟨v, rfl, hv⟩ := h6.v
            exact hK _ _ hb6 hv
          | 5, _ =>
            intro o ho ac w' hR hF hD K hK
            simp only [List.getElem?_toArray, List.getElem?_cons_zero, List.getElem?_cons_succ, Option.some.injEq] at ho
            subst ho
            have e3 : ac.tmps.getD 3 undef = .pointer (some ⟨W.heap.size, 0, none⟩) := hF 3 (notDst_spec (by kernel_rfl))
            have d3 := (Array.getD_eq_getD_getElem? (xs := ac.tmps) (i := 3) (d := undef)).symm.trans e3
            clear hD hF
            go_simp
            exact hK _ _ (Below.refl _ _) rfl
          | 6, _ =>
            intro o ho ac w' hR hF hD K hK
            simp only [List.getElem?_toArray, List.getElem?_cons_zero, List.getElem?_cons_succ, Option.some.injEq] at ho
            subst ho
            have e95 : ac.tmps.getD 95 undef = .pointer (some ⟨W.heap.size, 4, none⟩) := hD 5 (dep_spec (by kernel_rfl)) 95 rfl
            have d95 := (Array.getD_eq_getD_getElem? (xs := ac.tmps) (i := 95) (d := undef)).symm.trans e95
            clear hD hF
            have q4 : w'.cell? ⟨W.heap.size, 4, none⟩ = some (.int .i64 A.sets) := (rtd.out.below hR).cell 4
            have q5 : w'.cell? ⟨W.heap.size, 5, none⟩ = some (.slice bi A.init.length di) := (rtd.out.below hR).cell 5
            have q6 : w'.cell? ⟨W.heap.size, 6, none⟩ = some (.slice bn A.nodes.length dn) := (rtd.out.below hR).cell 6
            go_simp
            exact hK _ _ (Below.refl _ _) rfl
          | 7, _ =>
            intro o ho ac w' hR hF hD K hK
            simp only [List.getElem?_toArray, List.getElem?_cons_zero, List.getElem?_cons_succ, Option.some.injEq] at ho
            subst ho
            have y94 := hD 4 (dep_spec (by kernel_rfl)) 94 rfl
            obtain ⟨xv, hxv⟩ : ∃ xv, xv = ac.tmps.getD 94 undef := ⟨_, rfl⟩
            have sv : SrcV w' G sets xv := by rw [hxv]; exact y94
            have e94 := hxv.symm
            have d94 := (Array.getD_eq_getD_getElem? (xs := ac.tmps) (i := 94) (d := undef)).symm.trans e94
            clear y94 hxv
            have e96 : ac.tmps.getD 96 undef = .agg #[.int .i64 A.sets, .slice bi A.init.length di, .slice bn A.nodes.length dn] := hD 6 (dep_spec (by kernel_rfl)) 96 rfl
            have d96 := (Array.getD_eq_getD_getElem? (xs := ac.tmps) (i := 96) (d := undef)).symm.trans e96
            clear hD hF
            go_simp
            refine (NVC.out w' (btrans hbwd.out hR) _ sv).mono ?_
            rintro e w6 h6
            have hb6 := h6.1
            obtain ⟨v, rfl, hv⟩ := h6.v
            exact hK _ _ hb6 hv
          | 8, _ =>
            intro o ho ac w' hR hF hD K hK
            simp only [List.getElem?_toArray, List.getElem?_cons_zero, List.getElem?_cons_succ, Option.some.injEq] at ho
            subst ho
            have e4 : ac.tmps.getD 4 undef = .pointer (some ⟨W.heap.size + 1, 0, none⟩) := hF 4 (notDst_spec (by kernel_rfl))
            have d4 := (Array.getD_eq_getD_getElem? (xs := ac.tmps) (i := 4) (d := undef)).symm.trans e4
            clear hD hF
            have q0 : w'.cell? ⟨W.heap.size + 1, 0, none⟩ = some (.int .i64 k9) := (rfd.out.below hR).cell 0
            have q1 : w'.cell? ⟨W.heap.size + 1, 1, none⟩ = some (.int .i64 y9) := (rfd.out.below hR).cell 1
            have q2 : w'.cell? ⟨W.heap.size + 1, 2, none⟩ = some (.int .i64 n9) := (rfd.out.below hR).cell 2
            have q3 : w'.cell? ⟨W.heap.size + 1, 3, none⟩ = some (.int .i64 e9) := (rfd.out.below hR).cell 3
            have q4 : w'.cell? ⟨W.heap.size + 1, 4, none⟩ = some (.int .i64 d9) := (rfd.out.below hR).cell 4
            have q5 : w'.cell? ⟨W.heap.size + 1, 5, none⟩ = some (.slice sa n1 sc) := (rfd.out.below hR).cell 5
            have q6 : w'.cell? ⟨W.heap.size + 1, 6, none⟩ = some (.slice la n2 lc) := (rfd.out.below hR).cell 6
            go_simp
            exact hK _ _ (Below.refl _ _) rfl
          | 9, _ =>
            intro o ho ac w' hR hF hD K hK
            simp only [List.getElem?_toArray, List.getElem?_cons_zero, List.getElem?_cons_succ, Option.some.injEq] at ho
            subst ho
            have y97 := hD 7 (dep_spec (by kernel_rfl)) 97 rfl
            obtain ⟨xv, hxv⟩ : ∃ xv, xv = ac.tmps.getD 97 undef := ⟨_, rfl⟩
            have sv : NewV w' G sets A xv := by rw [hxv]; exact y97
            have e97 := hxv.symm
            have d97 := (Array.getD_eq_getD_getElem? (xs := ac.tmps) (i := 97) (d := undef)).symm.trans e97
            clear y97 hxv
            have e98 : ac.tmps.getD 98 undef = .agg #[.int .i64 k9, .int .i64 y9, .int .i64 n9, .int .i64 e9, .int .i64 d9, .slice sa n1 sc, .slice la n2 lc] := hD 8 (dep_spec (by kernel_rfl)) 98 rfl
            have d98 := (Array.getD_eq_getD_getElem? (xs := ac.tmps) (i := 98) (d := undef)).symm.trans e98
            clear hD hF
            go_simp
            refine (ACT.out w' (btrans hbwd.out hR) _ sv).mono ?_
            rintro e w6 ⟨hb6, a, c, a2, c2, rfl, h1, h2⟩
            exact hK _ _ hb6 ⟨a, c, a2, c2, rfl, h1, h2⟩
          | 10, _ =>
            intro o ho ac w' hR hF hD K hK
            simp only [List.getElem?_toArray, List.getElem?_cons_zero, List.getElem?_cons_succ, Option.some.injEq] at ho
            subst ho
            have y99 := hD 9 (dep_spec (by kernel_rfl)) 99 rfl
            obtain ⟨a, c, a2, c2, e99, h1, h2⟩ := y99
            have d99 := (Array.getD_eq_getD_getElem? (xs := ac.tmps) (i := 99) (d := undef)).symm.trans e99
            clear hD hF
            go_simp
            exact hK _ _ (Below.refl _ _) ⟨a, c, a2, c2, rfl, h1, h2⟩
          | 11, _ =>
            intro o ho ac w' hR hF hD K hK
            simp only [List.getElem?_toArray, List.getElem?_cons_zero, List.getElem?_cons_succ, Option.some.injEq] at ho
            subst ho
            have y89 := hD 10 (dep_spec (by kernel_rfl)) 89 rfl
            obtain ⟨a, c, a2, c2, e89, h1, h2⟩ := y89
            have d89 := (Array.getD_eq_getD_getElem? (xs := ac.tmps) (i := 89) (d := undef)).symm.trans e89
            clear hD hF
            go_simp
            exact hK _ _ (Below.refl _ _) ⟨a, c, rfl, h1⟩
          | 12, _ =>
            intro o ho ac w' hR hF hD K hK
            simp only [List.getElem?_toArray, List.getElem?_cons_zero, List.getElem?_cons_succ, Option.some.injEq] at ho
            subst ho
            have y89 := hD 10 (dep_spec (by kernel_rfl)) 89 rfl
            obtain ⟨a, c, a2, c2, e89, h1, h2⟩ := y89
            have d89 := (Array.getD_eq_getD_getElem? (xs := ac.tmps) (i := 89) (d := undef)).symm.trans e89
            clear hD hF
            go_simp
            exact hK _ _ (Below.refl _ _) ⟨a2, c2, rfl, h2⟩
          | 13, _ =>
            intro o ho ac w' hR hF hD K hK
            simp only [List.getElem?_toArray, List.getElem?_cons_zero, List.getElem?_cons_succ, Option.some.injEq] at ho
            subst ho
            have y89 := hD 10 (dep_spec (by kernel_rfl)) 89 rfl
            obtain ⟨a, c, a2, c2, e89, h1, h2⟩ := y89
            have d89 := (Array.getD_eq_getD_getElem? (xs := ac.tmps) (i := 89) (d := undef)).symm.trans e89
            have e90 : ac.tmps.getD 90 undef = .pointer (some ⟨W.heap.size, 0, none⟩) := hD 0 (dep_spec (by kernel_rfl)) 90 rfl
            have d90 := (Array.getD_eq_getD_getElem? (xs := ac.tmps) (i := 90) (d := undef)).symm.trans e90
            have e91 : ac.tmps.getD 91 undef = .agg #[.slice ai G.init.length ci, .slice ae G.edges.length ce, .slice al G.labels.length cl] := hD 1 (dep_spec (by kernel_rfl)) 91 rfl
            have d91 := (Array.getD_eq_getD_getElem? (xs := ac.tmps) (i := 91) (d := undef)).symm.trans e91
            have e92 : ac.tmps.getD 92 undef = .pointer (some ⟨W.heap.size, 3, none⟩) := hD 2 (dep_spec (by kernel_rfl)) 92 rfl
            have d92 := (Array.getD_eq_getD_getElem? (xs := ac.tmps) (i := 92) (d := undef)).symm.trans e92
            have e93 : ac.tmps.getD 93 undef = .slice as_ sets.length cs := hD 3 (dep_spec (by kernel_rfl)) 93 rfl
            have d93 := (Array.getD_eq_getD_getElem? (xs := ac.tmps) (i := 93) (d := undef)).symm.trans e93
            have y94 := hD 4 (dep_spec (by kernel_rfl)) 94 rfl
            obtain ⟨xv, hxv⟩ : ∃ xv, xv = ac.tmps.getD 94 undef := ⟨_, rfl⟩
            have sv : SrcV w' G sets xv := by rw [hxv]; exact y94
            have e94 := hxv.symm
            have d94 := (Array.getD_eq_getD_getElem? (xs := ac.tmps) (i := 94) (d := undef)).symm.trans e94
            clear y94 hxv
            have e95 : ac.tmps.getD 95 undef = .pointer (some ⟨W.heap.size, 4, none⟩) := hD 5 (dep_spec (by kernel_rfl)) 95 rfl
            have d95 := (Array.getD_eq_getD_getElem? (xs := ac.tmps) (i := 95) (d := undef)).symm.trans e95
            have e96 : ac.tmps.getD 96 undef = .agg #[.int .i64 A.sets, .slice bi A.init.length di, .slice bn A.nodes.length dn] := hD 6 (dep_spec (by kernel_rfl)) 96 rfl
            have d96 := (Array.getD_eq_getD_getElem? (xs := ac.tmps) (i := 96) (d := undef)).symm.trans e96
            have y97 := hD 7 (dep_spec (by kernel_rfl)) 97 rfl
            obtain ⟨xv, hxv⟩ : ∃ xv, xv = ac.tmps.getD 97 undef := ⟨_, rfl⟩
            have sv : NewV w' G sets A xv := by rw [hxv]; exact y97
            have e97 := hxv.symm
            have d97 := (Array.getD_eq_getD_getElem? (xs := ac.tmps) (i := 97) (d := undef)).symm.trans e97
            clear y97 hxv
            have e98 : ac.tmps.getD 98 undef = .agg #[.int .i64 k9, .int .i64 y9, .int .i64 n9, .int .i64 e9, .int .i64 d9, .slice sa n1 sc, .slice la n2 lc] := hD 8 (dep_spec (by kernel_rfl)) 98 rfl
            have d98 := (Array.getD_eq_getD_getElem? (xs := ac.tmps) (i := 98) (d := undef)).symm.trans e98
            have y99 := hD 9 (dep_spec (by kernel_rfl)) 99 rfl
            obtain ⟨a, c, a2, c2, e99, h1, h2⟩ := y99
            have d99 := (Array.getD_eq_getD_getElem? (xs := ac.tmps) (i := 99) (d := undef)).symm.trans e99
            have y100 := hD 11 (dep_spec (by kernel_rfl)) 100 rfl
            obtain ⟨a, c, e100, h1⟩ := y100
            have d100 := (Array.getD_eq_getD_getElem? (xs := ac.tmps) (i := 100) (d := undef)).symm.trans e100
            clear hD hF
            go_simp
            exact hK _ _ (Below.refl _ _) ⟨a, c, rfl, h1⟩
          | 14, _ =>
            intro o ho ac w' hR hF hD K hK
            simp only [List.getElem?_toArray, List.getElem?_cons_zero, List.getElem?_cons_succ, Option.some.injEq] at ho
            subst ho
            have y13 := hD 13 (dep_spec (by kernel_rfl)) 13 rfl
            have y89 := hD 10 (dep_spec (by kernel_rfl)) 89 rfl
            obtain ⟨a, c, a2, c2, e89, h1, h2⟩ := y89
            have d89 := (Array.getD_eq_getD_getElem? (xs := ac.tmps) (i := 89) (d := undef)).symm.trans e89
            have e90 : ac.tmps.getD 90 undef = .pointer (some ⟨W.heap.size, 0, none⟩) := hD 0 (dep_spec (by kernel_rfl)) 90 rfl
            have d90 := (Array.getD_eq_getD_getElem? (xs := ac.tmps) (i := 90) (d := undef)).symm.trans e90
            have e91 : ac.tmps.getD 91 undef = .agg #[.slice ai G.init.length ci, .slice ae G.edges.length ce, .slice al G.labels.length cl] := hD 1 (dep_spec (by kernel_rfl)) 91 rfl
            have d91 := (Array.getD_eq_getD_getElem? (xs := ac.tmps) (i := 91) (d := undef)).symm.trans e91
            have e92 : ac.tmps.getD 92 undef = .pointer (some ⟨W.heap.size, 3, none⟩) := hD 2 (dep_spec (by kernel_rfl)) 92 rfl
            have d92 := (Array.getD_eq_getD_getElem? (xs := ac.tmps) (i := 92) (d := undef)).symm.trans e92
            have e93 : ac.tmps.getD 93 undef = .slice as_ sets.length cs := hD 3 (dep_spec (by kernel_rfl)) 93 rfl
            have d93 := (Array.getD_eq_getD_getElem? (xs := ac.tmps) (i := 93) (d := undef)).symm.trans e93
            have y94 := hD 4 (dep_spec (by kernel_rfl)) 94 rfl
            obtain ⟨xv, hxv⟩ : ∃ xv, xv = ac.tmps.getD 94 undef := ⟨_, rfl⟩
            have sv : SrcV w' G sets xv := by rw [hxv]; exact y94
            have e94 := hxv.symm
            have d94 := (Array.getD_eq_getD_getElem? (xs := ac.tmps) (i := 94) (d := undef)).symm.trans e94
            clear y94 hxv
            have e95 : ac.tmps.getD 95 undef = .pointer (some ⟨W.heap.size, 4, none⟩) := hD 5 (dep_spec (by kernel_rfl)) 95 rfl
            have d95 := (Array.getD_eq_getD_getElem? (xs := ac.tmps) (i := 95) (d := undef)).symm.trans e95
            have e96 : ac.tmps.getD 96 undef = .agg #[.int .i64 A.sets, .slice bi A.init.length di, .slice bn A.nodes.length dn] := hD 6 (dep_spec (by kernel_rfl)) 96 rfl
            have d96 := (Array.getD_eq_getD_getElem? (xs := ac.tmps) (i := 96) (d := undef)).symm.trans e96
            have y97 := hD 7 (dep_spec (by kernel_rfl)) 97 rfl
            obtain ⟨xv, hxv⟩ : ∃ xv, xv = ac.tmps.getD 97 undef := ⟨_, rfl⟩
            have sv : NewV w' G sets A xv := by rw [hxv]; exact y97
            have e97 := hxv.symm
            have d97 := (Array.getD_eq_getD_getElem? (xs := ac.tmps) (i := 97) (d := undef)).symm.trans e97
            clear y97 hxv
            have e98 : ac.tmps.getD 98 undef = .agg #[.int .i64 k9, .int .i64 y9, .int .i64 n9, .int .i64 e9, .int .i64 d9, .slice sa n1 sc, .slice la n2 lc] := hD 8 (dep_spec (by kernel_rfl)) 98 rfl
            have d98 := (Array.getD_eq_getD_getElem? (xs := ac.tmps) (i := 98) (d := undef)).symm.trans e98
            have y99 := hD 9 (dep_spec (by kernel_rfl)) 99 rfl
            obtain ⟨a, c, a2, c2, e99, h1, h2⟩ := y99
            have d99 := (Array.getD_eq_getD_getElem? (xs := ac.tmps) (i := 99) (d := undef)).symm.trans e99
            have y100 := hD 11 (dep_spec (by kernel_rfl)) 100 rfl
            obtain ⟨a, c, e100, h1⟩ := y100
            have d100 := (Array.getD_eq_getD_getElem? (xs := ac.tmps) (i := 100) (d := undef)).symm.trans e100
            have y101 := hD 12 (dep_spec (by kernel_rfl)) 101 rfl
            obtain ⟨a, c, e101, h1⟩ := y101
            have d101 := (Array.getD_eq_getD_getElem? (xs := ac.tmps) (i := 101) (d := undef)).symm.trans e101
            clear hD hF
            go_simp
            exact hK _ _ (Below.refl _ _) ⟨a, c, rfl, h1⟩
          | k + 15, hk => omega
        · rintro ⟨tm, df⟩ we hdf hsz hF hR hV
          obtain rfl : df = [] := hdf
          obtain ⟨q, rfl⟩ := frame130 tm hsz
          obtain ⟨a13, c13, k13, NA⟩ := hV 13 13 (by decide) rfl
          obtain ⟨a14, c14, k14, NB2⟩ := hV 14 14 (by decide) rfl
          replace k13 : q 13 = _ := k13
          replace k14 : q 14 = _ := k14
          rw [k13, k14]
          clear k13 k14
          have k0 := hF 0 (notDst_spec (by kernel_rfl))
          have k1 := hF 1 (notDst_spec (by kernel_rfl))
          have k2 := hF 2 (notDst_spec (by kernel_rfl))
          have k3 := hF 3 (notDst_spec (by kernel_rfl))
          have k4 := hF 4 (notDst_spec (by kernel_rfl))
          have k5 := hF 5 (notDst_spec (by kernel_rfl))
          have k6 := hF 6 (notDst_spec (by kernel_rfl))
          have k7 := hF 7 (notDst_spec (by kernel_rfl))
          have k8 := hF 8 (notDst_spec (by kernel_rfl))
          have k9 := hF 9 (notDst_spec (by kernel_rfl))
          have k10 := hF 10 (notDst_spec (by kernel_rfl))
          have k11 := hF 11 (notDst_spec (by kernel_rfl))
          have k12 := hF 12 (notDst_spec (by kernel_rfl))
          have k15 := hF 15 (notDst_spec (by kernel_rfl))
          have k16 := hF 16 (notDst_spec (by kernel_rfl))
          have k17 := hF 17 (notDst_spec (by kernel_rfl))
          have k18 := hF 18 (notDst_spec (by kernel_rfl))
          have k19 := hF 19 (notDst_spec (by kernel_rfl))
          have k20 := hF 20 (notDst_spec (by kernel_rfl))
          have k21 := hF 21 (notDst_spec (by kernel_rfl))
          have k22 := hF 22 (notDst_spec (by kernel_rfl))
          have k23 := hF 23 (notDst_spec (by kernel_rfl))
          have k24 := hF 24 (notDst_spec (by kernel_rfl))
          have k25 := hF 25 (notDst_spec (by kernel_rfl))
          have k26 := hF 26 (notDst_spec (by kernel_rfl))
          have k27 := hF 27 (notDst_spec (by kernel_rfl))
          have k28 := hF 28 (notDst_spec (by kernel_rfl))
          have k29 := hF 29 (notDst_spec (by kernel_rfl))
          have k30 := hF 30 (notDst_spec (by kernel_rfl))
          have k31 := hF 31 (notDst_spec (by kernel_rfl))
          have k32 := hF 32 (notDst_spec (by kernel_rfl))
          have k33 := hF 33 (notDst_spec (by kernel_rfl))
          have k34 := hF 34 (notDst_spec (by kernel_rfl))
          have k35 := hF 35 (notDst_spec (by kernel_rfl))
          have k36 := hF 36 (notDst_spec (by kernel_rfl))
          have k37 := hF 37 (notDst_spec (by kernel_rfl))
          have k38 := hF 38 (notDst_spec (by kernel_rfl))
          have k39 := hF 39 (notDst_spec (by kernel_rfl))
          have k40 := hF 40 (notDst_spec (by kernel_rfl))
          have k41 := hF 41 (notDst_spec (by kernel_rfl))
          have k42 := hF 42 (notDst_spec (by kernel_rfl))
          have k43 := hF 43 (notDst_spec (by kernel_rfl))
          have k44 := hF 44 (notDst_spec (by kernel_rfl))
          have k45 := hF 45 (notDst_spec (by kernel_rfl))
          have k46 := hF 46 (notDst_spec (by kernel_rfl))
          have k47 := hF 47 (notDst_spec (by kernel_rfl))
          have k48 := hF 48 (notDst_spec (by kernel_rfl))
          have k49 := hF 49 (notDst_spec (by kernel_rfl))
          have k50 := hF 50 (notDst_spec (by kernel_rfl))
          have k51 := hF 51 (notDst_spec (by kernel_rfl))
          have k52 := hF 52 (notDst_spec (by kernel_rfl))
          have k53 := hF 53 (notDst_spec (by kernel_rfl))
          have k54 := hF 54 (notDst_spec (by kernel_rfl))
          have k55 := hF 55 (notDst_spec (by kernel_rfl))
          have k56 := hF 56 (notDst_spec (by kernel_rfl))
          have k57 := hF 57 (notDst_spec (by kernel_rfl))
          have k58 := hF 58 (notDst_spec (by kernel_rfl))
          have k59 := hF 59 (notDst_spec (by kernel_rfl))
          have k60 := hF 60 (notDst_spec (by kernel_rfl))
          have k61 := hF 61 (notDst_spec (by kernel_rfl))
          have k62 := hF 62 (notDst_spec (by kernel_rfl))
          have k63 := hF 63 (notDst_spec (by kernel_rfl))
          have k64 := hF 64 (notDst_spec (by kernel_rfl))
          have k65 := hF 65 (notDst_spec (by kernel_rfl))
          have k66 := hF 66 (notDst_spec (by kernel_rfl))
          have k67 := hF 67 (notDst_spec (by kernel_rfl))
          have k68 := hF 68 (notDst_spec (by kernel_rfl))
          have k69 := hF 69 (notDst_spec (by kernel_rfl))
          have k70 := hF 70 (notDst_spec (by kernel_rfl))
          have k71 := hF 71 (notDst_spec (by kernel_rfl))
          have k72 := hF 72 (notDst_spec (by kernel_rfl))
          have k73 := hF 73 (notDst_spec (by kernel_rfl))
          have k74 := hF 74 (notDst_spec (by kernel_rfl))
          have k75 := hF 75 (notDst_spec (by kernel_rfl))
          have k76 := hF 76 (notDst_spec (by kernel_rfl))
          have k77 := hF 77 (notDst_spec (by kernel_rfl))
          have k78 := hF 78 (notDst_spec (by kernel_rfl))
          have k79 := hF 79 (notDst_spec (by kernel_rfl))
          have k80 := hF 80 (notDst_spec (by kernel_rfl))
          have k81 := hF 81 (notDst_spec (by kernel_rfl))
          have k82 := hF 82 (notDst_spec (by kernel_rfl))
          have k83 := hF 83 (notDst_spec (by kernel_rfl))
          have k84 := hF 84 (notDst_spec (by kernel_rfl))
          have k85 := hF 85 (notDst_spec (by kernel_rfl))
          have k86 := hF 86 (notDst_spec (by kernel_rfl))
          have k87 := hF 87 (notDst_spec (by kernel_rfl))
          have k88 := hF 88 (notDst_spec (by kernel_rfl))
          have k102 := hF 102 (notDst_spec (by kernel_rfl))
          have k103 := hF 103 (notDst_spec (by kernel_rfl))
          have k104 := hF 104 (notDst_spec (by kernel_rfl))
          have k105 := hF 105 (notDst_spec (by kernel_rfl))
          have k106 := hF 106 (notDst_spec (by kernel_rfl))
          have k107 := hF 107 (notDst_spec (by kernel_rfl))
          have k108 := hF 108 (notDst_spec (by kernel_rfl))
          have k109 := hF 109 (notDst_spec (by kernel_rfl))
          have k110 := hF 110 (notDst_spec (by kernel_rfl))
          have k111 := hF 111 (notDst_spec (by kernel_rfl))
          have k112 := hF 112 (notDst_spec (by kernel_rfl))
          have k113 := hF 113 (notDst_spec (by kernel_rfl))
          have k114 := hF 114 (notDst_spec (by kernel_rfl))
          have k115 := hF 115 (notDst_spec (by kernel_rfl))
          have k116 := hF 116 (notDst_spec (by kernel_rfl))
          have k117 := hF 117 (notDst_spec (by kernel_rfl))
          have k118 := hF 118 (notDst_spec (by kernel_rfl))
          have k119 := hF 119 (notDst_spec (by kernel_rfl))
          have k120 := hF 120 (notDst_spec (by kernel_rfl))
          have k121 := hF 121 (notDst_spec (by kernel_rfl))
          have k122 := hF 122 (notDst_spec (by kernel_rfl))
          have k123 := hF 123 (notDst_spec (by kernel_rfl))
          have k124 := hF 124 (notDst_spec (by kernel_rfl))
          have k125 := hF 125 (notDst_spec (by kernel_rfl))
          have k126 := hF 126 (notDst_spec (by kernel_rfl))
          have k127 := hF 127 (notDst_spec (by kernel_rfl))
          have k128 := hF 128 (notDst_spec (by kernel_rfl))
          have k129 := hF 129 (notDst_spec (by kernel_rfl))
          simp only [Array.getD_eq_getD_getElem?, List.getElem?_toArray, List.getElem?_cons_succ, List.getElem?_cons_zero, Option.getD_some] at k0 k1 k2 k3 k4 k5 k6 k7 k8 k9 k10 k11 k12 k15 k16 k17 k18 k19 k20 k21 k22 k23 k24 k25 k26 k27 k28 k29 k30 k31 k32 k33 k34 k35 k36 k37 k38 k39 k40 k41 k42 k43 k44 k45 k46 k47 k48 k49 k50 k51 k52 k53 k54 k55 k56 k57 k58 k59 k60 k61 k62 k63 k64 k65 k66 k67 k68 k69 k70 k71 k72 k73 k74 k75 k76 k77 k78 k79 k80 k81 k82 k83 k84 k85 k86 k87 k88 k102 k103 k104 k105 k106 k107 k108 k109 k110 k111 k112 k113 k114 k115 k116 k117 k118 k119 k120 k121 k122 k123 k124 k125 k126 k127 k128 k129
          simp only [k0, k1, k2, k3, k4, k5, k6, k7, k8, k9, k10, k11, k12, k15, k16, k17, k18, k19, k20, k21, k22, k23, k24, k25, k26, k27, k28, k29, k30, k31, k32, k33, k34, k35, k36, k37, k38, k39, k40, k41, k42, k43, k44, k45, k46, k47, k48, k49, k50, k51, k52, k53, k54, k55, k56, k57, k58, k59, k60, k61, k62, k63, k64, k65, k66, k67, k68, k69, k70, k71, k72, k73, k74, k75, k76, k77, k78, k79, k80, k81, k82, k83, k84, k85, k86, k87, k88, k102, k103, k104, k105, k106, k107, k108, k109, k110, k111, k112, k113, k114, k115, k116, k117, k118, k119, k120, k121, k122, k123, k124, k125, k126, k127, k128, k129]
          clear k0 k1 k2 k3 k4 k5 k6 k7 k8 k9 k10 k11 k12 k15 k16 k17 k18 k19 k20 k21 k22 k23 k24 k25 k26 k27 k28 k29 k30 k31 k32 k33 k34 k35 k36 k37 k38 k39 k40 k41 k42 k43 k44 k45 k46 k47 k48 k49 k50 k51 k52 k53 k54 k55 k56 k57 k58 k59 k60 k61 k62 k63 k64 k65 k66 k67 k68 k69 k70 k71 k72 k73 k74 k75 k76 k77 k78 k79 k80 k81 k82 k83 k84 k85 k86 k87 k88 k102 k103 k104 k105 k106 k107 k108 k109 k110 k111 k112 k113 k114 k115 k116 k117 k118 k119 k120 k121 k122 k123 k124 k125 k126 k127 k128 k129
          clear hF hV hsz
          change wpAny _ _ _ _ 0 _ _ _
          refine ⟨by kernel_rfl, ?_⟩
          have hbe := Lib.hid (btrans hbwd.out hR)
          have rpe := rpd.out.below hR
          have rxe := rxd.out.below hR
          have hbze := Lib.hid (btrans hbzd.out hR)
          have WT := Lib.hid (fun v => works_true v)
          have RC := RAC.out NB.out.symm
          have XL := actsP_len G sets A stem loop
          generalize actsP G sets A stem loop = X9 at NA NB2 RC XL ⊢
          obtain ⟨X1, X2⟩ := X9
          dsimp only at NA NB2 XL ⊢
          have hXl : Hid (X1.length ≤ 9223372036854775807 ∧ X2.length ≤ 9223372036854775807) := by have h1 := XL; have h2 := hn1.out; have h3 := hn2.out; exact ⟨by omega, by omega⟩
          have NA' := Lib.hid NA
          have NB' := Lib.hid NB2
          replace RC := Lib.hid RC
          have z0 : we.cell? ⟨pb, 0, none⟩ = some (.slice ai G.init.length ci) := rpe.cell 0
          have y0 : we.cell? ⟨gx, 0, none⟩ = some (.int .i64 0) := rxe.cell 0
          have z1 : we.cell? ⟨pb, 1, none⟩ = some (.slice ae G.edges.length ce) := rpe.cell 1
          have y1 : we.cell? ⟨gx, 1, none⟩ = some (.int .i64 0) := rxe.cell 1
          have z2 : we.cell? ⟨pb, 2, none⟩ = some (.slice al G.labels.length cl) := rpe.cell 2
          have y2 : we.cell? ⟨gx, 2, none⟩ = some (.int .i64 0) := rxe.cell 2
          have z3 : we.cell? ⟨pb, 3, none⟩ = some (.slice as_ sets.length cs) := rpe.cell 3
          have y3 : we.cell? ⟨gx, 3, none⟩ = some (.int .i64 0) := rxe.cell 3
          have z4 : we.cell? ⟨pb, 4, none⟩ = some (.int .i64 A.sets) := rpe.cell 4
          have y4 : we.cell? ⟨gx, 4, none⟩ = some (.int .i64 0) := rxe.cell 4
          have z5 : we.cell? ⟨pb, 5, none⟩ = some (.slice bi A.init.length di) := rpe.cell 5
          have y5 : we.cell? ⟨gx, 5, none⟩ = some (.slice a1 n1 c1) := rxe.cell 5
          have z6 : we.cell? ⟨pb, 6, none⟩ = some (.slice bn A.nodes.length dn) := rpe.cell 6
          have y6 : we.cell? ⟨gx, 6, none⟩ = some (.slice a2 n2 c2) := rxe.cell 6
          clear NA NB2 rpe rxe RAC
          go_wp2_with fail
          refine (RC.out we hbze.out).mono ?_
          rintro e wf ⟨hbf, a15, c15, a16, c16, rfl, N1, N2⟩
          have hbf' := Lib.hid hbf
          have F1 : Hid (∀ v, Below wf.heap.size wf v → Calls Try.prog 21 #[.slice a13 X1.length c13, .slice a15 X1.length c15] v fun e w' => e = .returned (.bool true) ∧ Quiet v w') := fun v hb => by
            have := eq_ints v a13 a15 X1.length c13 X1.length c15 X1 X1 ((NA'.out.below hbf).below hb) (NumsAt.below N1 hb) rfl rfl hXl.out.1 hXl.out.1
            rw [decide_eq_true rfl] at this
            exact this
          have F2 : Hid (∀ v, Below wf.heap.size wf v → Calls Try.prog 21 #[.slice a14 X2.length c14, .slice a16 X2.length c16] v fun e w' => e = .returned (.bool true) ∧ Quiet v w') := fun v hb => by
            have := eq_ints v a14 a16 X2.length c14 X2.length c16 X2 X2 ((NB'.out.below hbf).below hb) (NumsAt.below N2 hb) rfl rfl hXl.out.2 hXl.out.2
            rw [decide_eq_true rfl] at this
            exact this
          clear N1 N2 hbf z0 y0 z1 y1 z2 y2 z3 y3 z4 y4 z5 y5 z6 y6
          dsimp only
          go_wp2_with fail
          refine (F1.out wf (Below.refl _ _)).mono ?_
          rintro e wg ⟨rfl, hqg⟩
          have kg := Lib.hid (hqg.below wf.heap.size)
          go_wp2_with fail
          refine (F2.out wg kg.out).mono ?_
          rintro e wh ⟨rfl, hqh⟩
          have kh := Lib.hid (btrans kg.out (hqh.below wg.heap.size))
          go_wp2_with fail
          refine (WT.out wh).mono ?_
          rintro e w9 ⟨rfl, hb9⟩
          go_wp2
          go_ret
          exact ⟨rfl, btrans hbe.out (btrans hbf'.out (btrans kh.out hb9))⟩
end Go.Proofs.Ytfcpfcgcfaacnaa

namespace Go.Proofs.Ytfcpfcgcfaacnaa
open Go.RowKit Go.ChangeShapes Go.WideShapes Go.ChangeAt

def rCn : Rd (Int × Int × Int) := fun _ cs x => cs = [.int .i64 x.1, .int .i64 x.2.1, .int .i64 x.2.2]
theorem opens_Cn : Opens Try.prog 47 rCn := by
  intro H enc w fuel cs d ps hd hwt
  have hl := trod_struct_len Try.underlying47 hd
  have hc : Try.prog.cellsOf 47 = 3 := by kernel_rfl
  obtain ⟨c0, c1, c2, rfl⟩ := list3 (hl.trans hc)
  obtain ⟨x0, h0⟩ := opens_field Try.underlying47 0 0 1 _ rfl rfl (by kernel_rfl) (opens_int Try.underlying3) hd hwt
  obtain ⟨x1, h1⟩ := opens_field Try.underlying47 1 1 1 _ rfl rfl (by kernel_rfl) (opens_int Try.underlying3) hd hwt
  obtain ⟨x2, h2⟩ := opens_field Try.underlying47 2 2 1 _ rfl rfl (by kernel_rfl) (opens_int Try.underlying3) hd hwt
  simp only [List.drop_zero, List.drop_succ_cons, List.take_succ_cons, List.take_zero, rInt, List.cons.injEq, and_true] at h0 h1 h2
  exact ⟨(x0, x1, x2), by rw [rCn, h0.1, h1.1, h2.1]⟩
theorem opens_pps : Opens Try.prog 48 (rSl 3 24 rPP) := opens_slice Try.underlying48 (by kernel_rfl) (by kernel_rfl) (by decide) opens_PP
theorem opens_Fd : Opens Try.prog TFd rFd := by
  intro H enc w fuel cs d ps hd hwt
  have hl := trod_struct_len Try.underlying50 hd
  have hc : Try.prog.cellsOf TFd = 7 := by kernel_rfl
  obtain ⟨c0, c1, c2, c3, c4, c5, c6, rfl⟩ := list7 (hl.trans hc)
  obtain ⟨x0, h0⟩ := opens_field Try.underlying50 0 0 1 _ rfl rfl (by kernel_rfl) (opens_int Try.underlying3) hd hwt
  obtain ⟨x1, h1⟩ := opens_field Try.underlying50 1 1 1 _ rfl rfl (by kernel_rfl) (opens_int Try.underlying3) hd hwt
  obtain ⟨x2, h2⟩ := opens_field Try.underlying50 2 2 3 _ rfl rfl (by kernel_rfl) opens_Cn hd hwt
  obtain ⟨x3, h3⟩ := opens_field Try.underlying50 3 5 1 _ rfl rfl (by kernel_rfl) opens_pps hd hwt
  obtain ⟨x4, h4⟩ := opens_field Try.underlying50 4 6 1 _ rfl rfl (by kernel_rfl) opens_pps hd hwt
  simp only [List.drop_zero, List.drop_succ_cons, List.take_succ_cons, List.take_zero, rInt, rCn, List.cons.injEq, and_true] at h0 h1 h2 h3 h4
  obtain ⟨rfl, _⟩ := h0
  obtain ⟨rfl, _⟩ := h1
  obtain ⟨rfl, rfl, rfl⟩ := h2
  exact ⟨⟨x0, x1, x2.1, x2.2.1, x2.2.2, x3, x4⟩, c5, c6, rfl, h3, h4⟩
theorem bud_cellsR {W : World} {c : Array Value} {b : Int × Int} (s : rBud W c.toList b) : c = #[.int .i64 b.1, .int .i64 b.2] := by
  cases c; simpa [rBud] using s
theorem ndfsRaw_walk (W : World) (c0 : Array Value) (t : TK) (s0 : rTask W c0.toList t) (c1 : Array Value) (f : FA) (s1 : rFd W c1.toList f) (c2 : Array Value) (b : Int × Int) (s2 : rBud W c2.toList b) :
    Calls Try.prog 8 #[.agg c0, .agg c1, .agg c2] W fun e w' => e = .returned (.bool true) ∧ Below W.heap.size W w' := by
  obtain ⟨X, rfl, h⟩ := LawIn.task s0
  obtain ⟨v1, v2, e1, r1, r2⟩ := s1
  obtain ⟨sa, sc, rfl, ps⟩ := PpsAt.of_rSl r1
  obtain ⟨la, lc, rfl, pl⟩ := PpsAt.of_rSl r2
  rw [bud_cellsR s2, show c1 = #[.int .i64 f.k, .int .i64 f.y, .int .i64 f.n, .int .i64 f.e, .int .i64 f.d, .slice sa f.stem.length sc, .slice la f.loop.length lc] by cases c1; simpa using e1]
  cases hl : lightK t.G t.sets t.A with
  | false => exact raw_heavy W X t.G t.sets t.A b.1 b.2 h f.k f.y f.n f.e f.d sa la sc lc f.stem f.loop hl
  | true =>
    by_cases h1 : f.stem.length ≤ 20
    · by_cases h2 : f.loop.length ≤ 20
      · exact raw_light W X t.G t.sets t.A b.1 b.2 h f.k f.y f.n f.e f.d sa la sc lc f.stem f.loop ps pl hl h1 h2
      · exact raw_long2 W X t.G t.sets t.A b.1 b.2 h f.k f.y f.n f.e f.d sa la sc lc f.stem f.loop hl h1 (by omega)
    · exact raw_long1 W X t.G t.sets t.A b.1 b.2 h f.k f.y f.n f.e f.d sa la sc lc f.stem f.loop hl (by omega)
end Go.Proofs.Ytfcpfcgcfaacnaa
