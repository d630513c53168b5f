/- The document's outer search. Conditions: the bounds of a search. What has come of a call beside two new boxes that its results are written into, in whatever order. No conditions. The document's search. Conditions: the document's product in memory. -/
import Derived.Test.YtfcpfcgcfaacnaaSNdRB
import Derived.Test.YtfcpfcgcfaacnaaSNdRActs
import Derived.BigRegion
namespace Go.Proofs.Ytfcpfcgcfaacnaa
open Go.RowKit
set_option linter.unusedVariables false
set_option linter.unusedSimpArgs false
set_option maxRecDepth 20000 in
theorem frame107 (arr : Array Value) (h : arr.size = 107) : ∃ q : Nat → Value, arr = #[q 0, q 1, q 2, q 3, q 4, q 5, q 6, q 7, q 8, q 9, q 10, q 11, q 12, q 13, q 14, q 15, q 16, q 17, q 18, q 19, q 20, q 21, q 22, q 23, q 24, q 25, q 26, q 27, q 28, q 29, q 30, q 31, q 32, q 33, q 34, q 35, q 36, q 37, q 38, q 39, q 40, q 41, q 42, q 43, q 44, q 45, q 46, q 47, q 48, q 49, q 50, q 51, q 52, q 53, q 54, q 55, q 56, q 57, q 58, q 59, q 60, q 61, q 62, q 63, q 64, q 65, q 66, q 67, q 68, q 69, q 70, q 71, q 72, q 73, q 74, q 75, q 76, q 77, q 78, q 79, q 80, q 81, q 82, q 83, q 84, q 85, q 86, q 87, q 88, q 89, q 90, q 91, q 92, q 93, q 94, q 95, q 96, q 97, q 98, q 99, q 100, q 101, q 102, q 103, q 104, q 105, q 106] := by
 refine ⟨fun i => arr.toList.getD i undef, ?_⟩
 have h1 := list_getP (l := arr.toList) (n := 107) (by simpa using h)
 apply Array.ext'
 exact h1
set_option maxRecDepth 20000 in
set_option maxHeartbeats 40000000 in
theorem router_any (N : Nat → Prop) (W : World) (Z : RZ) (C E : Nat) (V : RV) (s0 : NS) (hR : RpA W Z.X Z.G Z.sets Z.A) (NI : Nice (nextP Z.G Z.sets Z.A) (vPP Z.G Z.sets Z.A) C) (hC : C ≤ 3200) (hE : E ≤ 4000000000000000000) (HV : Hd N W (RSm V s0)) (HC : RSc V s0) (HN : ∀ j, N j → j < W.heap.size) (bn : Z.b.n ≤ 65536) (bd : Z.b.d ≤ 65536) (hI : NInv Z.b (nextP Z.G Z.sets Z.A) (vPP Z.G Z.sets Z.A) s0) (hmu : muO C s0 < FO) (he : s0.edges + FO * (FI + 1) ≤ E) :
  Calls Try.prog 43 #[.agg (scl Z V s0).toArray] W (ROut N W Z (outerF Z.b (nextP Z.G Z.sets Z.A) (inP Z.G Z.sets Z.A) FO s0)) := by
 obtain ⟨res, hres⟩ : ∃ res, res = outerF Z.b (nextP Z.G Z.sets Z.A) (inP Z.G Z.sets Z.A) FO s0 := ⟨_, rfl⟩
 rw [← hres]
 obtain ⟨w1, b1, b2, b3, hw1, cb⟩ := CI.start W (scl Z V s0)
 replace hw1 := Lib.hid hw1
 replace cb := Lib.hid cb
 have e1 := Lib.hid cb.out.e1
 have e2 := Lib.hid cb.out.e2
 have e3 := Lib.hid cb.out.e3
 replace hR := Lib.hid hR
 replace NI := Lib.hid NI
 replace hC := Lib.hid hC
 replace hE := Lib.hid hE
 replace HV := Lib.hid HV
 replace HC := Lib.hid HC
 replace HN := Lib.hid HN
 replace bn := Lib.hid bn
 replace bd := Lib.hid bd
 replace hI := Lib.hid hI
 replace hmu := Lib.hid hmu
 replace he := Lib.hid he
 replace hres := Lib.hid hres
 go_enter Try.func43, Try.ntmps43
 go_upto_region 1 with (fail)
 change Code.wp _ _ _ _ (((W.alloc (.cells (scl Z V s0).toArray TRS)).alloc (.cells zsc.toArray TRS)).alloc (.cells zfc.toArray TRF))
 have hz1 : Hid (w1.heap.size = W.heap.size + 1 + 1 + 1) := by show _ = _; rw [hw1.out]; simp
 rw [← hw1.out, ← e3.out, ← e2.out, ← e1.out]
 clear hw1 e1 e2 e3
 go_upto_region 2 with (fail)
 refine wp_region_list ?_
 refine wpList_plain rfl (fun K hK => ?_)
 go_simp
 refine hK _ _ ?_
 clear hK K
 refine wpList_plain rfl (fun K hK => ?_)
 go_simp
 refine hK _ _ ?_
 clear hK K
 have r6 : RowAt (w1.alloc (.cells zfc.toArray TRF)) w1.heap.size TRF zfc := RowAt.new zfc.toArray rfl
 have hb2 : Below w1.heap.size w1 (w1.alloc (.cells zfc.toArray TRF)) := balloc (Below.refl _ _) _
 change wpList _ _ _ _ _ (w1.alloc (.cells zfc.toArray TRF))
 generalize w1.alloc (.cells zfc.toArray TRF) = w2 at r6 hb2 ⊢
 obtain ⟨b6, hb6⟩ : ∃ b, b = w1.heap.size := ⟨_, rfl⟩
 rw [← hb6] at r6 ⊢
 replace hb6 := Lib.hid hb6
 have co2 : Hid (CO W (scl Z V s0) zfc b1 b2 b3 b6 w2) := ⟨cb.out.below hb2, r6, hb6.out.trans hz1.out, rfl, scl_one _ _ _, rfl, zfc_one⟩
 replace r6 := Lib.hid r6
 replace hb2 := Lib.hid hb2
 refine list_store (l := zfc) infoF1 co2.out.r6 rfl rfl zfc_one rfl 6 10 rfl rfl rfl ?_
 intro w3 q3 k3
 have co3 := Lib.hid (co2.out.store6 rfl zfc_one q3 k3)
 refine wpList_nil ?_
 have ST : Hid (OH N W Z C E res b1 b2 b3 b6 FO V s0 zfc false w3) := .inl ⟨rfl, HV.out.into co3.out.cb.bw co3.out.low, HC.out, hres.out.symm, hmu.out, hI.out, he.out⟩
 clear co2 q3 k3 r6 hb2 hz1 hb6 HV HC hres hmu hI he cb
 simp only [Act.put]
 go_wp2
 go_loopg [5] FO (fun q v5 wr => ∃ (e : Bool) (V : RV) (s : NS) (f6 : List Value), v5 = .bool e ∧ Hid (CO W (scl Z V s) f6 b1 b2 b3 b6 wr) ∧ Hid (OH N W Z C E res b1 b2 b3 b6 q V s f6 e wr))
 case atStart => exact ⟨false, V, s0, zfc, rfl, co3, ST⟩
 case round =>
  clear ST co3
  obtain ⟨e, V, s, f6, rfl, co, oh⟩ := hrel
  have c14 : wr.cell? ⟨b1, 14, none⟩ = some (.slice V.oa s.ot.length V.oc) := co.out.cb.r1.cell 14
  rcases oh.out with ⟨rfl, os⟩ | ⟨rfl, f, hf, rfd⟩
  ·replace os := Lib.hid os
   obtain ⟨m, hm⟩ : ∃ m, gk = m + 1 := ⟨gk - 1, by have := os.out.hm; omega⟩
   subst hm
   clear oh
   cases hso : s.ot with
   | nil =>
    rw [hso] at c14
    simp only [List.length_nil] at c14
    have hr : Hid (res = (s, none)) := by have := os.out.hr; rw [outerF_nil hso] at this; exact this.symm
    replace hso := Lib.hid hso
    go_upto_region 16 with (fail)
    have hne : Hid (¬ (b1 = b2 ∨ b1 = b3) ∧ ¬ b3 = b2 ∧ ¬ b2 = b3 ∧ ¬ (b6 = b2 ∨ b6 = b3)) := by
     have := co.out.cb.e1; have := co.out.cb.e2; have := co.out.cb.e3; have := co.out.e6
     exact ⟨by omega, by omega, by omega, by omega⟩
    refine wp_region_dyn (by kernel_rfl) 6 (fun w' => Keeps wr w' (fun j => j = b2 ∨ j = b3)) (fun i => ([some (.agg (scl Z V s).toArray), some (.agg (List.toArray f6)), some (.bool false), none, none, some (.bool false)] : List (Option Value)).getD i none) (fun i => ([false, false, false, true, true, false] : List Bool).getD i false) (fun L _ w => WrD b2 TRS zsc (scl Z V s) 3 L w ∧ WrD b3 TRF zfc f6 4 L w) (by kernel_rfl) (by kernel_rfl) (by kernel_rfl) (Keeps.drewN _ 1 _) (fun rho => ⟨WrD.start co.out.cb.r2, WrD.start co.out.cb.r3⟩) ?_ ?_ ?_
    ·intro i hi hdy
     match i, hi, hdy with
     | 0, _, _ =>
      refine ⟨_, rfl, fun L rho w h => ⟨h.1.pass (by decide), h.2.pass (by decide)⟩, ?_⟩
      intro o ho ac w' hR hF hX
      simp only [zqA, zqZ, zqI] at ho
      subst ho
      refine ⟨fun h => (by cases h), fun K hK => ?_⟩
      have e1 : ac.tmps.getD 1 undef = .pointer (some ⟨b1, 0, none⟩) := hF 1 (znd (by kernel_rfl))
      have d1 := zgD e1
      clear hX hF
      exact step_load undS infoS1 (co.out.cb.r1.keeps hR hne.out.1) rfl rfl 1 rfl e1 hK
     | 1, _, _ =>
      refine ⟨_, rfl, fun L rho w h => ⟨h.1.pass (by decide), h.2.pass (by decide)⟩, ?_⟩
      intro o ho ac w' hR hF hX
      simp only [zqA, zqZ, zqS, zqI] at ho
      subst ho
      refine ⟨fun h => (by cases h), fun K hK => ?_⟩
      have e6 : ac.tmps.getD 6 undef = .pointer (some ⟨b6, 0, none⟩) := hF 6 (znd (by kernel_rfl))
      have d6 := zgD e6
      clear hX hF
      exact step_load undF infoF1 (co.out.r6.keeps hR hne.out.2.2.2) co.out.l6 rfl 6 rfl e6 hK
     | 2, _, _ =>
      refine ⟨_, rfl, fun L rho w h => ⟨h.1.pass (by decide), h.2.pass (by decide)⟩, ?_⟩
      intro o ho ac w' hR hF hX
      simp only [zqA, zqZ, zqS, zqI] at ho
      subst ho
      refine ⟨fun h => (by cases h), fun K hK => ?_⟩
      have e5 : ac.tmps.getD 5 undef = .bool false := hF 5 (znd (by kernel_rfl))
      have g5 := getD_bool e5
      have d5 := zgD e5
      clear hX hF
      go_simp
      exact hK
     | 3, _, hdy => exact znF hdy
     | 4, _, hdy => exact znF hdy
     | 5, _, _ =>
      refine ⟨_, rfl, fun L rho w h => ⟨h.1.pass (by decide), h.2.pass (by decide)⟩, ?_⟩
      intro o ho ac w' hR hF hX
      simp only [zqA, zqZ, zqS, zqI] at ho
      subst ho
      refine ⟨fun h => (by cases h), fun K hK => ?_⟩
      have e104 : ac.tmps.getD 104 undef = .agg (scl Z V s).toArray := hX 0 (zdp (by kernel_rfl)) _ rfl
      have d104 := zgD e104
      have e105 : ac.tmps.getD 105 undef = .agg (List.toArray f6) := hX 1 (zdp (by kernel_rfl)) _ rfl
      have d105 := zgD e105
      have e106 : ac.tmps.getD 106 undef = .bool false := hX 2 (zdp (by kernel_rfl)) _ rfl
      have g106 := getD_bool e106
      have d106 := zgD e106
      clear hX hF
      go_simp
      exact hK
     | k + 6, hk, _ => omega
    ·intro i hi hdy
     match i, hi, hdy with
     | 0, _, hdy => exact znT hdy
     | 1, _, hdy => exact znT hdy
     | 2, _, hdy => exact znT hdy
     | 3, _, _ =>
      intro o ho ac w' L rho hR hD hl hc hdep hX hF K hK
      simp only [zqA, zqZ, zqS, zqI] at ho
      subst ho
      have e2 : ac.tmps.getD 2 undef = .pointer (some ⟨b2, 0, none⟩) := hF 2 (znd (by kernel_rfl))
      have d2 := zgD e2
      have e104 : ac.tmps.getD 104 undef = .agg (scl Z V s).toArray := hX 0 (zdp (by kernel_rfl)) _ rfl
      have d104 := zgD e104
      refine step_store (l := scl Z V s) infoS1 (hD.1.old_ hl) rfl (rfl) (scl_one _ _ _) rfl 2 104 rfl e2 e104 ?_
      intro w9' hrow hk
      refine hK _ _ (hR.trans hk (fun j _ e => .inl e)) (fun _ => rfl) (fun u h => by cases h) ⟨WrD.wrote hrow, (hD.2.pass (by decide)).keeps hk hne.out.2.1⟩
     | 4, _, _ =>
      intro o ho ac w' L rho hR hD hl hc hdep hX hF K hK
      simp only [zqA, zqZ, zqS, zqI] at ho
      subst ho
      have e3 : ac.tmps.getD 3 undef = .pointer (some ⟨b3, 0, none⟩) := hF 3 (znd (by kernel_rfl))
      have d3 := zgD e3
      have e104 : ac.tmps.getD 104 undef = .agg (scl Z V s).toArray := hX 0 (zdp (by kernel_rfl)) _ rfl
      have d104 := zgD e104
      have e105 : ac.tmps.getD 105 undef = .agg (List.toArray f6) := hX 1 (zdp (by kernel_rfl)) _ rfl
      have d105 := zgD e105
      refine step_store (l := f6) infoF1 (hD.2.old_ hl) rfl (co.out.l6) (co.out.o6) rfl 3 105 rfl e3 e105 ?_
      intro w9' hrow hk
      refine hK _ _ (hR.trans hk (fun j _ e => .inr e)) (fun _ => rfl) (fun u h => by cases h) ⟨(hD.1.pass (by decide)).keeps hk hne.out.2.2.1, WrD.wrote hrow⟩
     | 5, _, hdy => exact znT hdy
     | k + 6, hk, _ => omega
    ·rintro ⟨tm, df⟩ wz rho hdf hsz hF hR9 hX hV hD
     obtain rfl : df = [] := hdf
     obtain ⟨q, rfl⟩ := frame107 tm hsz
     have hD' := hD (fun i => decide (i < 6)) (fun i hi => decide_eq_true hi) (fun i hi => decide_eq_false (by omega))
     have k4 : q 4 = .bool false := hX 5 _ (by decide) rfl
     rw [k4]
     clear k4
     have kk := zbk hF [0, 1, 2, 3] (by kernel_rfl)
     simp only [Bk, Array.getD_eq_getD_getElem?, zqA, zqS, zqZ, Option.getD_some] at kk
     simp only [kk]
     clear kk
     have z1 := hD'.1.new_ rfl
     have z2 := hD'.2.new_ rfl
     clear hF hX hV hD hsz hD'
     change wpAny _ _ _ _ 0 _ _ _
     refine ⟨by kernel_rfl, ?_⟩
     go_wp2
     have z3 : Below W.heap.size W wz := hR9.below co.out.cb.bw (fun j hj => by have := co.out.cb.e2; have := co.out.cb.e3; omega)
     refine bodyPost_ret (v := .tuple #[.agg (scl Z V s).toArray, .agg (List.toArray f6), .bool false]) (results3 (a := 2) (b := 3) (c := 4) (by kernel_rfl) rfl rfl rfl (loadVar_whole undS infoS1 z1 rfl) (loadVar_whole undF infoF1 z2 co.out.l6)) rfl ?_
     rw [hr.out]
     exact ⟨scl Z V s, f6, rfl, rfl, scl_one _ _ _, co.out.l6, co.out.o6, z3, fun _ => ⟨V, rfl, CO.done os.out.hv hR9, os.out.hc⟩, fun f' hf' => (by cases hf')⟩
   | cons e0 r =>
    obtain ⟨x, k⟩ := e0
    have hol : Hid (r.length + 1 = s.ot.length) := by show _ = _; rw [hso]; rfl
    have hrl : Hid (r.length ≤ 65536) := by have := os.out.inv.ld; have := os.out.inv.db; have := bd.out; have := hol.out; show _ ≤ _; omega
    have hocc : Hid (r.length + 1 ≤ V.oc) := by have := os.out.hc.o; have := hol.out; show _ ≤ _; omega
    have htcc : Hid (r.length + 1 ≤ V.tc) := by have := os.out.hc.t; have := hol.out; show _ ≤ _; omega
    have hwr : IntKind.i64.wrap ((r.length : Int) + 1 - 1) = (r.length : Int) := by rw [IntWalk.i64_in _ (by have := hrl.out; omega)]; omega
    have hwr2 : IntKind.i64.wrap (r.length : Int) = (r.length : Int) := IntWalk.i64_in _ (by have := hrl.out; omega)
    have h00 : (0 : Int) < (r.length : Int) + 1 := by omega
    have PO := (os.out.hv.now).o
    have PT := (os.out.hv.now).t
    rw [hso] at PO PT
    obtain ⟨ob, oo, hoa, _, o0, o1, o2⟩ := PO.at r.length (by rw [way_len]; exact Nat.lt_succ_self _)
    rw [way_last] at o0 o1 o2
    obtain ⟨tb, tof, hta, htc⟩ := PT (by rw [ats_len]; exact Nat.succ_pos _)
    have t0 := htc r.length (by rw [ats_len]; exact Nat.lt_succ_self _)
    rw [ats_last] at t0
    rw [hoa, ← hol.out] at c14
    replace o0 := Lib.hid o0
    replace o1 := Lib.hid o1
    replace o2 := Lib.hid o2
    replace t0 := Lib.hid t0
    replace hoa := Lib.hid hoa
    replace hta := Lib.hid hta
    replace PO := Lib.hid PO
    replace PT := Lib.hid PT
    have hsoH := Lib.hid hso
    clear htc hso
    go_upto_region 4 with (fail)
    go_upto_region 5 with (fail)
    clear hwr hwr2 h00 c14
    refine wp_region_kp (by kernel_rfl) 7 [.fix (.pointer (some ⟨b1, 0, none⟩)), .fix (.agg #[.slice Z.X.ai Z.G.init.length Z.X.ci, .slice Z.X.ae Z.G.edges.length Z.X.ce, .slice Z.X.al Z.G.labels.length Z.X.cl, .slice Z.X.as_ Z.sets.length Z.X.cs, .int .i64 Z.A.sets, .slice Z.X.bi Z.A.init.length Z.X.di, .slice Z.X.bn Z.A.nodes.length Z.X.dn]), .fix (.pointer (some ⟨b1, 14, none⟩)), .fix (.slice (some ⟨ob, oo, none⟩) (r.length + 1) V.oc), .fix (.int .i64 (r.length : Int)), .fix (.pointer (some ⟨ob, oo + r.length * 3, none⟩)), .fix (.agg #[.int .i64 x.node, .int .i64 x.state, .int .i64 x.turn])] (by kernel_rfl) (by kernel_rfl) (by kernel_rfl) ?_ ?_
    ·intro i hi
     match i, hi with
     | 0, _ =>
      intro o ho ac w' hR hF hD K hK
      simp only [zqA, zqZ, zqI] at ho
      subst ho
      have e1 : ac.tmps.getD 1 undef = .pointer (some ⟨b1, 0, none⟩) := hF 1 (znd (by kernel_rfl))
      have d1 := zgD e1
      clear hD hF
      go_simp
      exact hK _ _ (Below.refl _ _) rfl
     | 1, _ =>
      intro o ho ac w' hR hF hD K hK
      simp only [zqA, zqZ, zqS, zqI] at ho
      subst ho
      have e23 : ac.tmps.getD 23 undef = .pointer (some ⟨b1, 0, none⟩) := hD 0 (zdp (by kernel_rfl)) 23 rfl
      have d23 := zgD e23
      clear hD hF
      have q0 : w'.cell? ⟨b1, 0, none⟩ = some (.slice Z.X.ai Z.G.init.length Z.X.ci) := (co.out.cb.r1.below hR).cell 0
      have q1 : w'.cell? ⟨b1, 1, none⟩ = some (.slice Z.X.ae Z.G.edges.length Z.X.ce) := (co.out.cb.r1.below hR).cell 1
      have q2 : w'.cell? ⟨b1, 2, none⟩ = some (.slice Z.X.al Z.G.labels.length Z.X.cl) := (co.out.cb.r1.below hR).cell 2
      have q3 : w'.cell? ⟨b1, 3, none⟩ = some (.slice Z.X.as_ Z.sets.length Z.X.cs) := (co.out.cb.r1.below hR).cell 3
      have q4 : w'.cell? ⟨b1, 4, none⟩ = some (.int .i64 Z.A.sets) := (co.out.cb.r1.below hR).cell 4
      have q5 : w'.cell? ⟨b1, 5, none⟩ = some (.slice Z.X.bi Z.A.init.length Z.X.di) := (co.out.cb.r1.below hR).cell 5
      have q6 : w'.cell? ⟨b1, 6, none⟩ = some (.slice Z.X.bn Z.A.nodes.length Z.X.dn) := (co.out.cb.r1.below hR).cell 6
      go_simp
      exact hK _ _ (Below.refl _ _) rfl
     | 2, _ =>
      intro o ho ac w' hR hF hD K hK
      simp only [zqA, zqZ, zqS, zqI] at ho
      subst ho
      have e1 : ac.tmps.getD 1 undef = .pointer (some ⟨b1, 0, none⟩) := hF 1 (znd (by kernel_rfl))
      have d1 := zgD e1
      clear hD hF
      go_simp
      exact hK _ _ (Below.refl _ _) rfl
     | 3, _ =>
      intro o ho ac w' hR hF hD K hK
      simp only [zqA, zqZ, zqS, zqI] at ho
      subst ho
      have e25 : ac.tmps.getD 25 undef = .pointer (some ⟨b1, 14, none⟩) := hD 2 (zdp (by kernel_rfl)) 25 rfl
      have d25 := zgD e25
      clear hD hF
      have q14 : w'.cell? ⟨b1, 14, none⟩ = some (.slice (some ⟨ob, oo, none⟩) (r.length + 1) V.oc) := by rw [(co.out.cb.r1.below hR).cell 14, ← hoa.out, hol.out]; rfl
      go_simp
      exact hK _ _ (Below.refl _ _) rfl
     | 4, _ =>
      intro o ho ac w' hR hF hD K hK
      simp only [zqA, zqZ, zqS, zqI] at ho
      subst ho
      have e7 : ac.tmps.getD 7 undef = .int .i64 (r.length : Int) := hF 7 (znd (by kernel_rfl))
      have d7 := zgD e7
      clear hD hF
      go_simp
      exact hK _ _ (Below.refl _ _) rfl
     | 5, _ =>
      intro o ho ac w' hR hF hD K hK
      simp only [zqA, zqZ, zqS, zqI] at ho
      subst ho
      have e26 : ac.tmps.getD 26 undef = .slice (some ⟨ob, oo, none⟩) (r.length + 1) V.oc := hD 3 (zdp (by kernel_rfl)) 26 rfl
      have d26 := zgD e26
      have e27 : ac.tmps.getD 27 undef = .int .i64 (r.length : Int) := hD 4 (zdp (by kernel_rfl)) 27 rfl
      have d27 := zgD e27
      clear hD hF
      have hrI : (r.length : Int) < (r.length : Int) + 1 := by omega
      go_simp
      exact hK _ _ (Below.refl _ _) rfl
     | 6, _ =>
      intro o ho ac w' hR hF hD K hK
      simp only [zqA, zqZ, zqS, zqI] at ho
      subst ho
      have e28 : ac.tmps.getD 28 undef = .pointer (some ⟨ob, oo + r.length * 3, none⟩) := hD 5 (zdp (by kernel_rfl)) 28 rfl
      have d28 := zgD e28
      clear hD hF
      have q0 : w'.cell? ⟨ob, oo + r.length * 3, none⟩ = some (.int .i64 x.node) := bcell hR o0.out
      have q1 : w'.cell? ⟨ob, oo + r.length * 3 + 1, none⟩ = some (.int .i64 x.state) := bcell hR o1.out
      have q2 : w'.cell? ⟨ob, oo + r.length * 3 + 2, none⟩ = some (.int .i64 x.turn) := bcell hR o2.out
      go_simp
      exact hK _ _ (Below.refl _ _) rfl
     | k + 7, hk => omega
    ·rintro ⟨tm, df⟩ w4 hdf hsz hF hR9 hV
     obtain rfl : df = [] := hdf
     obtain ⟨q, rfl⟩ := frame107 tm hsz
     have k0 : q 23 = .pointer (some ⟨b1, 0, none⟩) := hV 0 23 (by decide) rfl
     have k1 : q 24 = .agg #[.slice Z.X.ai Z.G.init.length Z.X.ci, .slice Z.X.ae Z.G.edges.length Z.X.ce, .slice Z.X.al Z.G.labels.length Z.X.cl, .slice Z.X.as_ Z.sets.length Z.X.cs, .int .i64 Z.A.sets, .slice Z.X.bi Z.A.init.length Z.X.di, .slice Z.X.bn Z.A.nodes.length Z.X.dn] := hV 1 24 (by decide) rfl
     have k2 : q 25 = .pointer (some ⟨b1, 14, none⟩) := hV 2 25 (by decide) rfl
     have k3 : q 26 = .slice (some ⟨ob, oo, none⟩) (r.length + 1) V.oc := hV 3 26 (by decide) rfl
     have k4 : q 27 = .int .i64 (r.length : Int) := hV 4 27 (by decide) rfl
     have k5 : q 28 = .pointer (some ⟨ob, oo + r.length * 3, none⟩) := hV 5 28 (by decide) rfl
     have k6 : q 29 = .agg #[.int .i64 x.node, .int .i64 x.state, .int .i64 x.turn] := hV 6 29 (by decide) rfl
     rw [k0, k1, k2, k3, k4, k5, k6]
     clear k0 k1 k2 k3 k4 k5 k6
     have kk := zbk hF [0, 1, 2, 3, 4, 5, 6, 10, 104, 105, 106, 7, 8, 9] (by kernel_rfl)
     simp only [Bk, Array.getD_eq_getD_getElem?, zqA, zqS, zqZ, Option.getD_some] at kk
     simp only [kk]
     clear kk
     clear hF hV hsz
     have NXT := Lib.hid (rnext_any w4 Z.X Z.G Z.sets Z.A (hR.out.below (btrans co.out.cb.bw hR9)) x)
     change wpAny _ _ _ _ 2 _ _ _
     refine wpAny_ready (rs := [7]) (by kernel_rfl) (by simp) ?_
     refine AllReady.cons (i := 7) rfl (fun K hK => ?_) AllReady.nil
     go_simp
     refine NXT.out.mono ?_
     rintro e w5 ⟨na, nc, rfl, own, hb5⟩
     refine hK _ _ ?_
     clear hK K NXT
     refine wpAny_ready (rs := [8]) (by kernel_rfl) (by simp) ?_
     refine AllReady.cons (i := 8) rfl (fun K hK => ?_) AllReady.nil
     go_simp
     refine hK _ _ ?_
     clear hK K
     refine ⟨by kernel_rfl, ?_⟩
     have hb := Lib.hid (btrans hR9 hb5)
     have PN := Lib.hid (PpsAt.of_own own)
     clear own hb5 hR9
     have co5 := Lib.hid (co.out.below hb.out)
     have hv5 := Lib.hid (os.out.hv.below hb.out)
     have c15 : w5.cell? ⟨b1, 15, none⟩ = some (.slice (some ⟨tb, tof, none⟩) (r.length + 1) V.tc) := by rw [co5.out.cb.r1.cell 15, ← hta.out, hol.out]; rfl
     have t5 : w5.cell? ⟨tb, tof + r.length, none⟩ = some (.int .i64 (k : Int)) := bcell hb.out t0.out
     have hrI : (r.length : Int) < (r.length : Int) + 1 := by omega
     cases hnk : ((nextP Z.G Z.sets Z.A) x)[k]? with
     | some y =>
      have hkl := get_le hnk
      have hyk : ((nextP Z.G Z.sets Z.A) x)[k] = y := by rw [List.getElem?_eq_getElem hkl] at hnk; exact Option.some.inj hnk
      have hlk : (k : Int) < (((nextP Z.G Z.sets Z.A) x).length : Int) := by omega
      obtain ⟨nb, no, hna, _, n0, n1, n2⟩ := PN.out.at k hkl
      rw [hyk] at n0 n1 n2
      subst hna
      have hkb : (k : Int) ≤ 146 := by have := NI.out.len x; omega
      have ADV := Lib.hid (AdvO.of (inq := (inP Z.G Z.sets Z.A)) NI.out hsoH.out os.out.inv os.out.hr os.out.hm hnk)
      clear hnk hyk
      go_upto_region 8 with (fail)
      have rt := RowAt.new (w := w5) (T := TRq) #[.int .i64 y.node, .int .i64 y.state, .int .i64 y.turn] rfl
      have hb6' := balloc (Below.refl w5.heap.size w5) (.cells #[.int .i64 y.node, .int .i64 y.state, .int .i64 y.turn] TRq)
      generalize w5.alloc (.cells #[.int .i64 y.node, .int .i64 y.state, .int .i64 y.turn] TRq) = w6 at rt hb6' ⊢
      obtain ⟨gt, hgt⟩ : ∃ g, g = w5.heap.size := ⟨_, rfl⟩
      rw [← hgt] at rt ⊢
      have t6 := Lib.hid (bcell hb6' t5)
      have hb6 := btrans hb.out hb6'
      have PT6 : Hid (NumsAt .i64 w6 (some ⟨tb, tof, none⟩) (ats r)) := by
       have := ((PT.out.below hb6)).upto r.length
       rw [ats_take, hta.out] at this
       exact this
      have hcutB := fun w => run_cut_h (P := Try.prog) Try.underlying22 (sz := 1) Try.sizeInt (some ⟨tb, tof, none⟩) (r.length + 1) V.tc r.length (kh := .i64) (H := (r.length : Int)) rfl (by have := htcc.out; omega) w
      have hwk : IntKind.i64.wrap ((k : Int) + 1) = (k : Int) + 1 := IntWalk.i64_in _ (by omega)
      have hgn : Hid (¬ NB4 N b1 b2 b3 b6 gt) := fun h => by have := co5.out.lt HN.out gt h; have := hgt; omega
      have hgn1 : Hid (¬ gt = b1) := fun h => hgn.out (.inl (.inr (.inl h)))
      have co6 := Lib.hid (co5.out.below hb6')
      have hv6 := Lib.hid (hv5.out.below hb6')
      replace rt := Lib.hid rt
      replace hb6 := Lib.hid hb6
      replace hgt := Lib.hid hgt
      clear n0 n1 n2 PN hlk hb6' t5 c15 hv5 co5
      refine wp_region_dyn (by kernel_rfl) 14 (fun w' => Below w6.heap.size w6 w') (fun i => ([none, some (.pointer (some ⟨b1, 15, none⟩)), some (.slice (some ⟨tb, tof, none⟩) (r.length + 1) V.tc), some (.int .i64 (r.length : Int)), some (.slice (some ⟨tb, tof, none⟩) r.length V.tc), none, some (.pointer (some ⟨b1, 15, none⟩)), some (.slice (some ⟨tb, tof, none⟩) (r.length + 1) V.tc), some (.int .i64 (r.length : Int)), some (.pointer (some ⟨tb, tof + r.length, none⟩)), some (.int .i64 (k : Int)), some (.int .i64 ((k : Int) + 1)), none, none] : List (Option Value)).getD i none) (fun i => ([true, false, false, false, false, true, false, false, false, false, false, false, true, true] : List Bool).getD i false) (Ap3 w6.heap.size 3 1 (r.length) (r.length + 1) ((ats r).map (Value.int .i64)) ((ats r).map (Value.int .i64) ++ [.int .i64 ((k : Int) + 1)]) [.int .i64 ((k : Int) + 1)] 0 5 13 12) (by kernel_rfl) (by kernel_rfl) (by kernel_rfl) (Below.refl _ _).drew (fun rho => Ap3.start rho _) ?_ ?_ ?_
      ·intro i hi hdy
       match i, hi, hdy with
       | 0, _, hdy => exact znF hdy
       | 1, _, _ =>
        refine ⟨_, rfl, fun L rho w h => h.pass (by decide) (by decide) (by decide) (by decide), ?_⟩
        intro o ho ac w' hR hF hX
        simp only [zqA, zqZ, zqS, zqI] at ho
        subst ho
        refine ⟨fun h => (by cases h), fun K hK => ?_⟩
        have e1 : ac.tmps.getD 1 undef = .pointer (some ⟨b1, 0, none⟩) := hF 1 (znd (by kernel_rfl))
        have d1 := zgD e1
        clear hX hF
        go_simp
        exact hK
       | 2, _, _ =>
        refine ⟨_, rfl, fun L rho w h => h.pass (by decide) (by decide) (by decide) (by decide), ?_⟩
        intro o ho ac w' hR hF hX
        simp only [zqA, zqZ, zqS, zqI] at ho
        subst ho
        refine ⟨fun h => (by cases h), fun K hK => ?_⟩
        have e48 : ac.tmps.getD 48 undef = .pointer (some ⟨b1, 15, none⟩) := hX 1 (zdp (by kernel_rfl)) _ rfl
        have d48 := zgD e48
        have c15 : w'.cell? ⟨b1, 15, none⟩ = some (.slice (some ⟨tb, tof, none⟩) (r.length + 1) V.tc) := by rw [(co6.out.cb.r1.below hR).cell 15, ← hta.out, hol.out]; rfl
        clear hX hF
        go_simp
        exact hK
       | 3, _, _ =>
        refine ⟨_, rfl, fun L rho w h => h.pass (by decide) (by decide) (by decide) (by decide), ?_⟩
        intro o ho ac w' hR hF hX
        simp only [zqA, zqZ, zqS, zqI] at ho
        subst ho
        refine ⟨fun h => (by cases h), fun K hK => ?_⟩
        have e7 : ac.tmps.getD 7 undef = .int .i64 (r.length : Int) := hF 7 (znd (by kernel_rfl))
        have d7 := zgD e7
        clear hX hF
        go_simp
        exact hK
       | 4, _, _ =>
        refine ⟨_, rfl, fun L rho w h => h.pass (by decide) (by decide) (by decide) (by decide), ?_⟩
        intro o ho ac w' hR hF hX
        simp only [zqA, zqZ, zqS, zqI] at ho
        subst ho
        refine ⟨fun h => (by cases h), fun K hK => ?_⟩
        have e49 : ac.tmps.getD 49 undef = .slice (some ⟨tb, tof, none⟩) (r.length + 1) V.tc := hX 2 (zdp (by kernel_rfl)) _ rfl
        have d49 := zgD e49
        have e50 : ac.tmps.getD 50 undef = .int .i64 (r.length : Int) := hX 3 (zdp (by kernel_rfl)) _ rfl
        have d50 := zgD e50
        have hc3 := hcutB w'
        clear hX hF
        go_simp
        exact hK
       | 5, _, hdy => exact znF hdy
       | 6, _, _ =>
        refine ⟨_, rfl, fun L rho w h => h.pass (by decide) (by decide) (by decide) (by decide), ?_⟩
        intro o ho ac w' hR hF hX
        simp only [zqA, zqZ, zqS, zqI] at ho
        subst ho
        refine ⟨fun h => (by cases h), fun K hK => ?_⟩
        have e1 : ac.tmps.getD 1 undef = .pointer (some ⟨b1, 0, none⟩) := hF 1 (znd (by kernel_rfl))
        have d1 := zgD e1
        clear hX hF
        go_simp
        exact hK
       | 7, _, _ =>
        refine ⟨_, rfl, fun L rho w h => h.pass (by decide) (by decide) (by decide) (by decide), ?_⟩
        intro o ho ac w' hR hF hX
        simp only [zqA, zqZ, zqS, zqI] at ho
        subst ho
        refine ⟨fun h => (by cases h), fun K hK => ?_⟩
        have e53 : ac.tmps.getD 53 undef = .pointer (some ⟨b1, 15, none⟩) := hX 6 (zdp (by kernel_rfl)) _ rfl
        have d53 := zgD e53
        have c15 : w'.cell? ⟨b1, 15, none⟩ = some (.slice (some ⟨tb, tof, none⟩) (r.length + 1) V.tc) := by rw [(co6.out.cb.r1.below hR).cell 15, ← hta.out, hol.out]; rfl
        clear hX hF
        go_simp
        exact hK
       | 8, _, _ =>
        refine ⟨_, rfl, fun L rho w h => h.pass (by decide) (by decide) (by decide) (by decide), ?_⟩
        intro o ho ac w' hR hF hX
        simp only [zqA, zqZ, zqS, zqI] at ho
        subst ho
        refine ⟨fun h => (by cases h), fun K hK => ?_⟩
        have e7 : ac.tmps.getD 7 undef = .int .i64 (r.length : Int) := hF 7 (znd (by kernel_rfl))
        have d7 := zgD e7
        clear hX hF
        go_simp
        exact hK
       | 9, _, _ =>
        refine ⟨_, rfl, fun L rho w h => h.pass (by decide) (by decide) (by decide) (by decide), ?_⟩
        intro o ho ac w' hR hF hX
        simp only [zqA, zqZ, zqS, zqI] at ho
        subst ho
        refine ⟨fun h => (by cases h), fun K hK => ?_⟩
        have e54 : ac.tmps.getD 54 undef = .slice (some ⟨tb, tof, none⟩) (r.length + 1) V.tc := hX 7 (zdp (by kernel_rfl)) _ rfl
        have d54 := zgD e54
        have e55 : ac.tmps.getD 55 undef = .int .i64 (r.length : Int) := hX 8 (zdp (by kernel_rfl)) _ rfl
        have d55 := zgD e55
        have hrI : (r.length : Int) < (r.length : Int) + 1 := by omega
        clear hX hF
        go_simp
        exact hK
       | 10, _, _ =>
        refine ⟨_, rfl, fun L rho w h => h.pass (by decide) (by decide) (by decide) (by decide), ?_⟩
        intro o ho ac w' hR hF hX
        simp only [zqA, zqZ, zqS, zqI] at ho
        subst ho
        refine ⟨fun h => (by cases h), fun K hK => ?_⟩
        have e56 : ac.tmps.getD 56 undef = .pointer (some ⟨tb, tof + r.length, none⟩) := hX 9 (zdp (by kernel_rfl)) _ rfl
        have d56 := zgD e56
        have c0 : w'.cell? ⟨tb, tof + r.length, none⟩ = some (.int .i64 (k : Int)) := bcell hR t6.out
        clear hX hF
        go_simp
        exact hK
       | 11, _, _ =>
        refine ⟨_, rfl, fun L rho w h => h.pass (by decide) (by decide) (by decide) (by decide), ?_⟩
        intro o ho ac w' hR hF hX
        simp only [zqA, zqZ, zqS, zqI] at ho
        subst ho
        refine ⟨fun h => (by cases h), fun K hK => ?_⟩
        have e57 : ac.tmps.getD 57 undef = .int .i64 (k : Int) := hX 10 (zdp (by kernel_rfl)) _ rfl
        have d57 := zgD e57
        clear hX hF
        go_simp
        exact hK
       | 12, _, hdy => exact znF hdy
       | 13, _, hdy => exact znF hdy
       | k + 14, hk, _ => omega
      ·intro i hi hdy
       match i, hi, hdy with
       | 0, _, _ =>
        intro o ho ac w' L rho hR hD hl hc hdep hX hF K hK
        simp only [zqA, zqZ, zqI] at ho
        subst ho
        go_simp
        refine hK _ _ (balloc hR _) (fun h => by cases h) (fun u h => by cases h) ?_
        exact hD.zero hR.size (by decide) (by decide) (by decide) (fun h => hc 5 h 0 (zdp (by kernel_rfl))) (fun h => hc 13 h 5 (zdp (by kernel_rfl))) hl
       | 1, _, hdy => exact znT hdy
       | 2, _, hdy => exact znT hdy
       | 3, _, hdy => exact znT hdy
       | 4, _, hdy => exact znT hdy
       | 5, _, _ =>
        intro o ho ac w' L rho hR hD hl hc hdep hX hF K hK
        simp only [zqA, zqZ, zqS, zqI] at ho
        subst ho
        have r47 : ac.tmps.getD 47 undef = rho 0 := (hdep 0 (zdp (by kernel_rfl))).2
        have e51 : ac.tmps.getD 51 undef = .slice (some ⟨tb, tof, none⟩) r.length V.tc := hX 4 (zdp (by kernel_rfl)) _ rfl
        have d51 := zgD e51
        have hl0 := (hdep 0 (zdp (by kernel_rfl))).1
        obtain ⟨a0, c0, e1, e2, _⟩ := hD.z hl0 hl
        rw [e1] at r47
        refine step_appG rfl _ _ 22 3 (.int .i64 0) 1 8 rfl Try.underlying22 (by kernel_rfl) rfl (by decide) w6.heap.size a0 0 c0 [] r47 e2 (some ⟨tb, tof, none⟩) r.length V.tc ((ats r).map (Value.int .i64)) e51 (by simp [ats_len]) (SrcAt.nums (PT6.out.below hR)) (ints_one _ _) (by have := hrl.out; unfold maxLen; omega) (by have := hrl.out; omega) hR.size ?_
        intro a' c' w2' ho hg hat
        simp only [Nat.zero_add, List.nil_append] at ho hg hat ⊢
        refine hK _ _ (bgrown hR hg (fun j hj => (OwnR.lt e2 hj).1)) (fun h => by cases h) (fun u h => by cases h) ?_
        exact hD.src1 (by decide) (by decide) (by decide) e1 hl0 hl (fun h => hc 13 h 5 (zdp (by kernel_rfl))) ho hg hat
       | 6, _, hdy => exact znT hdy
       | 7, _, hdy => exact znT hdy
       | 8, _, hdy => exact znT hdy
       | 9, _, hdy => exact znT hdy
       | 10, _, hdy => exact znT hdy
       | 11, _, hdy => exact znT hdy
       | 12, _, _ =>
        intro o ho ac w' L rho hR hD hl hc hdep hX hF K hK
        simp only [zqA, zqZ, zqS, zqI] at ho
        subst ho
        have e58 : ac.tmps.getD 58 undef = .int .i64 ((k : Int) + 1) := hX 11 (zdp (by kernel_rfl)) _ rfl
        have d58 := zgD e58
        go_simp
        refine hK _ _ (balloc hR _) (fun h => by cases h) (fun u h => by cases h) ?_
        exact hD.elem hR.size (by decide) (by decide) (by decide) #[.int .i64 ((k : Int) + 1)] rfl
       | 13, _, _ =>
        intro o ho ac w' L rho hR hD hl hc hdep hX hF K hK
        simp only [zqA, zqZ, zqS, zqI] at ho
        subst ho
        have r52 : ac.tmps.getD 52 undef = rho 5 := (hdep 5 (zdp (by kernel_rfl))).2
        have r59 : ac.tmps.getD 59 undef = rho 12 := (hdep 12 (zdp (by kernel_rfl))).2
        have hl1 := (hdep 5 (zdp (by kernel_rfl))).1
        have hl5 := (hdep 12 (zdp (by kernel_rfl))).1
        obtain ⟨a0, c0, e1, e2, _⟩ := hD.y hl1 hl
        obtain ⟨g5, e5, _, rg5⟩ := hD.x hl5
        rw [e1] at r52
        rw [e5] at r59
        refine step_appG rfl _ _ 22 3 (.int .i64 0) 1 8 rfl Try.underlying22 (by kernel_rfl) rfl (by decide) w6.heap.size a0 (r.length) c0 ((ats r).map (Value.int .i64)) r52 e2 (some ⟨g5, 0, none⟩) 1 1 [.int .i64 ((k : Int) + 1)] r59 rfl (SrcAt.row rg5) (by intro u hu; simp at hu; rcases hu with rfl; rfl) (by have := hrl.out; unfold maxLen; omega) (by have := hrl.out; omega) hR.size ?_
        intro a' c' w2' ho hg hat
        refine hK _ _ (bgrown hR hg (fun j hj => (OwnR.lt e2 hj).1)) (fun h => by cases h) (fun u h => by cases h) ?_
        exact hD.src2 (by decide) (by decide) (by decide) e1 hl1 hl ho hg hat
       | k + 14, hk, _ => omega
      ·rintro ⟨tm, df⟩ w7 rho hdf hsz hF hR9 hX hV hD
       obtain rfl : df = [] := hdf
       obtain ⟨q, rfl⟩ := frame107 tm hsz
       have hD' := hD (fun i => decide (i < 14)) (fun i hi => decide_eq_true hi) (fun i hi => decide_eq_false (by omega))
       obtain ⟨ta7, tc7, e6', ot7, _⟩ := hD'.u rfl
       have kk1 : q 60 = _ := (hV 13 (by decide)).trans e6'
       rw [kk1]
       clear kk1
       have kk := zbk hF [0, 1, 2, 3, 4, 5, 6, 10, 104, 105, 106, 7, 8, 9] (by kernel_rfl)
       simp only [Bk, Array.getD_eq_getD_getElem?, zqA, zqS, zqZ, Option.getD_some] at kk
       simp only [kk]
       clear kk
       clear hF hX hV hD hsz hD' e6'
       replace ot7 := Lib.hid ot7
       have hRw7 := Lib.hid hR9
       clear hR9
       change wpAny _ _ _ _ 2 _ _ _
       have co7 := Lib.hid (co6.out.below hRw7.out)
       have t0' : w7.cell? ⟨b1, 15, none⟩ = some (.slice V.ta s.ot.length V.tc) := co7.out.cb.r1.cell 15
       have t1' := co7.out.cb.r1.free 15
       refine wpAny_ready (rs := [14]) (by kernel_rfl) (by simp) ?_
       refine AllReady.cons (i := 14) rfl (fun K hK => ?_) AllReady.nil
       go_simp
       refine hK _ _ ?_
       clear hK K
       refine wpAny_ready (rs := [15]) (by kernel_rfl) (by simp) ?_
       refine AllReady.cons (i := 15) rfl (fun K hK => ?_) AllReady.nil
       go_simp
       refine hK _ _ ?_
       clear hK K t0' t1'
       refine ⟨by kernel_rfl, ?_⟩
       obtain ⟨V1, hV1⟩ : ∃ V1 : RV, V1 = ⟨V.ra, V.rc, V.ma, V.mc, V.oa, V.oc, ta7, tc7⟩ := ⟨_, rfl⟩
       have co8 : CO W (scl Z V1 (atS s ((x, k + 1) :: r))) f6 b1 b2 b3 b6 (w7.setCell ⟨b1, 15, none⟩ (.slice ta7 (r.length + 1) tc7)) := by
        have := co7.out.set 15 (.slice ta7 (r.length + 1) tc7) rfl
        rw [show (scl Z V s).set 15 (.slice ta7 (r.length + 1) tc7) = scl Z V1 (atS s ((x, k + 1) :: r)) by rw [hV1]; simp only [scl, atS]; rw [← hol.out]; rfl] at this
        exact this
       have hv8 : Hd (NB4 N b1 b2 b3 b6) (w7.setCell ⟨b1, 15, none⟩ (.slice ta7 (r.length + 1) tc7)) (RSm V1 (atS s ((x, k + 1) :: r))) := by
        have o1 : OwnR (w7.setCell ⟨b1, 15, none⟩ (.slice ta7 (r.length + 1) tc7)) w6.heap.size 3 1 ta7 (r.length + 1) tc7 ((ats ((x, k + 1) :: r)).map (Value.int .i64)) := by
         have := OwnR.keeps ot7.out (Keeps.set (S := fun j => j = b1) w7 b1 15 (.slice ta7 (r.length + 1) tc7) rfl) (fun j hj e => by have := (OwnR.lt ot7.out hj).1; have := co6.out.cb.r1.lt; omega)
         rw [ats_cons, List.map_append]
         exact this
        have h1 := (hv6.out.below hRw7.out).keeps (keeps4_set (N := N) (b1 := b1) (b2 := b2) (b3 := b3) (b6 := b6) w7 15 (.slice ta7 (r.length + 1) tc7))
        have h2 := Hd.ints o1 (co6.out.lt HN.out)
        rw [hV1]
        refine (h1.and h2).imp (fun w h => ⟨h.1.r, h.1.m, ?_, h.2⟩)
        show PpsAt w V.oa (way ((x, k + 1) :: r))
        have := h.1.o
        rw [hsoH.out, way_cons] at this
        rw [way_cons]
        exact this
       have hc8 : Hid (RSc V1 (atS s ((x, k + 1) :: r))) := by
        rw [hV1]
        exact ⟨hocc.out, (OwnR.caps ot7.out).1⟩
       have rt8 := (rt.out.below hRw7.out).kset (n := b1) (fun h => hgn1.out h.symm) 15 (.slice ta7 (r.length + 1) tc7)
       generalize w7.setCell ⟨b1, 15, none⟩ (.slice ta7 (r.length + 1) tc7) = w8 at co8 hv8 rt8 ⊢
       have hwe : IntKind.i64.wrap ((s.edges : Int) + 1) = (s.edges : Int) + 1 := IntWalk.i64_in _ (by have := os.out.he; have := hE.out; omega)
       have c10 : w8.cell? ⟨b1, 10, none⟩ = some (.int .i64 (s.edges : Int)) := co8.cb.r1.cell 10
       have f10 := co8.cb.r1.free 10
       replace co8 := Lib.hid co8
       replace hv8 := Lib.hid hv8
       replace rt8 := Lib.hid rt8
       replace hV1 := Lib.hid hV1
       clear co7 co6 hv6 ot7 hRw7 hb6 rt t6 PT6 hcutB hwk
       go_upto_region 10 with (fail)
       clear c10 f10 hwe
       obtain ⟨s1, hs1⟩ : ∃ s1, s1 = atS (edgeS s) ((x, k + 1) :: r) := ⟨_, rfl⟩
       rw [← hs1] at ADV
       have co9 : CO W (scl Z V1 s1) f6 b1 b2 b3 b6 (w8.setCell ⟨b1, 10, none⟩ (.int .i64 ((s.edges : Int) + 1))) := by
        have := co8.out.set 10 (.int .i64 ((s.edges : Int) + 1)) rfl
        rw [show (scl Z V1 (atS s ((x, k + 1) :: r))).set 10 (.int .i64 ((s.edges : Int) + 1)) = scl Z V1 s1 by rw [hs1]; simp [scl, atS, edgeS]] at this
        exact this
       have hv9 : Hd (NB4 N b1 b2 b3 b6) (w8.setCell ⟨b1, 10, none⟩ (.int .i64 ((s.edges : Int) + 1))) (RSm V1 s1) := by
        have h1 := hv8.out.keeps (keeps4_set (N := N) (b1 := b1) (b2 := b2) (b3 := b3) (b6 := b6) w8 10 (.int .i64 ((s.edges : Int) + 1)))
        rw [hs1]
        exact h1.imp (fun w q => ⟨q.r, q.m, q.o, q.t⟩)
       have hc9 : Hid (RSc V1 s1) := by rw [hs1]; exact ⟨hc8.out.o, hc8.out.t⟩
       have rt9 := rt8.out.kset (n := b1) (fun h => hgn1.out h.symm) 10 (.int .i64 ((s.edges : Int) + 1))
       generalize w8.setCell ⟨b1, 10, none⟩ (.int .i64 ((s.edges : Int) + 1)) = w9 at co9 hv9 rt9 ⊢
       have hrb : Hid (s1.reached.length ≤ 65536) := by have := ADV.out.inv.nr; have := ADV.out.inv.nb; have := bn.out; show _ ≤ _; omega
       have hob : Hid (s1.ot.length ≤ 65536) := by have := ADV.out.inv.ld; have := ADV.out.inv.db; have := bd.out; show _ ≤ _; omega
       have hed : Hid (s1.edges + m * (FI + 1) ≤ E) := by
        have := os.out.he; rw [Nat.succ_mul] at this; rw [hs1]
        show s.edges + 1 + m * (FI + 1) ≤ E
        omega
       have PL := place_any w9 V1.ra V1.rc s1.reached (hv9.now).r y (by have := hrb.out; omega)
       have c12 : w9.cell? ⟨b1, 12, none⟩ = some (.slice V1.ra s1.reached.length V1.rc) := co9.cb.r1.cell 12
       have y0 : w9.cell? ⟨gt, 0, none⟩ = some (.int .i64 y.node) := rt9.cell 0
       have y1 : w9.cell? ⟨gt, 1, none⟩ = some (.int .i64 y.state) := rt9.cell 1
       have y2 : w9.cell? ⟨gt, 2, none⟩ = some (.int .i64 y.turn) := rt9.cell 2
       replace co9 := Lib.hid co9
       replace hv9 := Lib.hid hv9
       replace rt9 := Lib.hid rt9
       replace PL := Lib.hid PL
       replace hs1 := Lib.hid hs1
       clear co8 hv8 rt8 hc8
       refine wp_region_list ?_
       refine wpList_plain rfl (fun K hK => ?_)
       go_simp
       refine hK _ _ ?_
       clear hK K
       refine wpList_plain rfl (fun K hK => ?_)
       go_simp
       refine hK _ _ ?_
       clear hK K
       refine wpList_plain rfl (fun K hK => ?_)
       go_simp
       refine hK _ _ ?_
       clear hK K
       clear c12 y0 y1 y2
       refine wpList_plain rfl (fun K hK => ?_)
       go_simp
       refine PL.out.mono ?_
       rintro e wp ⟨hp9, hb9⟩
       have cop := Lib.hid (co9.out.below hb9)
       have hvp := Lib.hid (hv9.out.below hb9)
       have rtp := Lib.hid (rt9.out.below hb9)
       replace hb9 := Lib.hid hb9
       rcases hp9 with ⟨hm, rfl⟩ | ⟨hm, rfl⟩
       ·obtain ⟨kj, hkj⟩ : ∃ kj, kj = s1.reached.idxOf y := ⟨_, rfl⟩
        rw [← hkj]
        have hk0 : (0 : Int) ≤ (kj : Int) := by omega
        clear hkj
        refine hK _ _ ?_
        clear hK K PL
        refine wpList_plain rfl (fun K hK => ?_)
        go_simp
        refine hK _ _ ?_
        clear hK K
        refine wpList_nil ?_
        go_wp2
        go_roundg m
        case rel => exact ⟨false, V1, s1, f6, rfl, cop, .inl ⟨rfl, hvp.out, hc9.out, ADV.out.skip hm, ADV.out.mu, ADV.out.inv, hed.out⟩⟩
        case measure => omega
       ·refine hK _ _ ?_
        clear hK K PL
        replace hm := Lib.hid hm
        refine wpList_plain rfl (fun K hK => ?_)
        go_simp
        refine hK _ _ ?_
        clear hK K
        refine wpList_nil ?_
        have y0 : wp.cell? ⟨gt, 0, none⟩ = some (.int .i64 y.node) := rtp.out.cell 0
        have y1 : wp.cell? ⟨gt, 1, none⟩ = some (.int .i64 y.state) := rtp.out.cell 1
        have y2 : wp.cell? ⟨gt, 2, none⟩ = some (.int .i64 y.turn) := rtp.out.cell 2
        have CM := rcome_any (NB4 N b1 b2 b3 b6) wp Z V1 s1 y hvp.out hc9.out (cop.out.lt HN.out) bn.out bd.out hrb.out hob.out
        obtain ⟨cp, hcp⟩ : ∃ cp, cp = comeP Z.b s1 y := ⟨_, rfl⟩
        rw [← hcp] at CM
        replace CM := Lib.hid CM
        replace hcp := Lib.hid hcp
        clear co9 hv9 rt9 rtp
        go_upto_region 11 with (fail)
        refine wp_region_list ?_
        refine list_load undS infoS1 cop.out.cb.r1 rfl rfl 1 rfl rfl ?_
        refine wpList_plain rfl (fun K hK => ?_)
        go_simp
        refine hK _ _ ?_
        clear hK K
        refine wpList_plain rfl (fun K hK => ?_)
        go_simp
        refine CM.out.mono ?_
        rintro e wv ⟨V', fc, rfl, hf7, hf1, hbv, hvv, hcv, hff⟩
        have cov := Lib.hid (cop.out.below hbv)
        replace hf7 := Lib.hid hf7
        replace hf1 := Lib.hid hf1
        replace hbv := Lib.hid hbv
        replace hvv := Lib.hid hvv
        replace hcv := Lib.hid hcv
        replace hff := Lib.hid hff
        clear CM y0 y1 y2
        refine hK _ _ ?_
        clear hK K
        refine wpList_plain rfl (fun K hK => ?_)
        go_simp
        refine hK _ _ ?_
        clear hK K
        refine wpList_plain rfl (fun K hK => ?_)
        go_simp
        refine hK _ _ ?_
        clear hK K
        refine wpList_plain rfl (fun K hK => ?_)
        go_simp
        refine hK _ _ ?_
        clear hK K
        refine wpList_plain rfl (fun K hK => ?_)
        go_simp
        refine hK _ _ ?_
        clear hK K
        refine list_store (l := scl Z V' cp.1) infoS1 cov.out.cb.r1 rfl rfl (scl_one _ _ _) rfl 1 77 rfl rfl rfl ?_
        intro wx qa ka
        have cox := Lib.hid (cov.out.store1 rfl (scl_one _ _ _) qa ka)
        replace ka := Lib.hid ka
        clear qa
        refine list_store (l := fc) infoF1 cox.out.r6 cox.out.l6 hf7.out hf1.out rfl 6 78 rfl rfl rfl ?_
        intro wy qb kb
        have coy := Lib.hid (cox.out.store6 hf7.out hf1.out qb kb)
        replace kb := Lib.hid kb
        clear qb
        refine wpList_plain rfl (fun K hK => ?_)
        go_simp
        refine hK _ _ ?_
        clear hK K
        refine wpList_nil ?_
        have OHy : Hid (OH N W Z C E res b1 b2 b3 b6 m V' cp.1 fc cp.2.isSome wy) := by
         have K1 := keeps4_1 (N := N) (b2 := b2) (b3 := b3) (b6 := b6) ka.out
         have K6 := keeps4_6 (N := N) (b1 := b1) (b2 := b2) (b3 := b3) kb.out
         obtain ⟨s2, o⟩ := cp
         cases o with
         | none =>
          obtain ⟨h1, h2, h3, h4⟩ := ADV.out.come s2 hm.out hcp.out.symm
          exact .inl ⟨rfl, (hvv.out.keeps K1).keeps K6, hcv.out, h1, h2, h3, by have := hed.out; rw [h4]; exact this⟩
         | some f =>
          have h1 := ADV.out.over s2 f hm.out hcp.out.symm
          obtain ⟨sa, sc, la, lc, q1, q2⟩ := (hff.out f rfl).of
          exact .inr ⟨rfl, f, by rw [h1], sa, sc, la, lc, q1, (q2.keeps K1).keeps K6⟩
        go_wp2
        go_roundg m
        case rel => exact ⟨cp.2.isSome, V', cp.1, fc, rfl, coy, OHy⟩
        case measure => omega
     | none =>
      have hlk : (((nextP Z.G Z.sets Z.A) x).length : Int) ≤ (k : Int) := by have := List.getElem?_eq_none_iff.1 hnk; omega
      have ADV := Lib.hid (AdvE.of (inq := (inP Z.G Z.sets Z.A)) NI.out hsoH.out os.out.inv os.out.hr os.out.hm hnk)
      clear hnk
      go_upto_region 12 with (fail)
      clear c15 t5 hlk hrI PN
      refine wp_region_kp (by kernel_rfl) 7 [.fix (.pointer (some ⟨b1, 0, none⟩)), .fix (.agg #[.slice Z.X.ai Z.G.init.length Z.X.ci, .slice Z.X.ae Z.G.edges.length Z.X.ce, .slice Z.X.al Z.G.labels.length Z.X.cl, .slice Z.X.as_ Z.sets.length Z.X.cs, .int .i64 Z.A.sets, .slice Z.X.bi Z.A.init.length Z.X.di, .slice Z.X.bn Z.A.nodes.length Z.X.dn]), .fix (.pointer (some ⟨b1, 14, none⟩)), .fix (.slice (some ⟨ob, oo, none⟩) (r.length + 1) V.oc), .fix (.int .i64 (r.length : Int)), .fix (.pointer (some ⟨ob, oo + r.length * 3, none⟩)), .fix (.agg #[.int .i64 x.node, .int .i64 x.state, .int .i64 x.turn])] (by kernel_rfl) (by kernel_rfl) (by kernel_rfl) ?_ ?_
      ·intro i hi
       match i, hi with
       | 0, _ =>
        intro o ho ac w' hR hF hD K hK
        simp only [zqA, zqZ, zqI] at ho
        subst ho
        have e1 : ac.tmps.getD 1 undef = .pointer (some ⟨b1, 0, none⟩) := hF 1 (znd (by kernel_rfl))
        have d1 := zgD e1
        clear hD hF
        go_simp
        exact hK _ _ (Below.refl _ _) rfl
       | 1, _ =>
        intro o ho ac w' hR hF hD K hK
        simp only [zqA, zqZ, zqS, zqI] at ho
        subst ho
        have e80 : ac.tmps.getD 80 undef = .pointer (some ⟨b1, 0, none⟩) := hD 0 (zdp (by kernel_rfl)) 80 rfl
        have d80 := zgD e80
        clear hD hF
        have q0 : w'.cell? ⟨b1, 0, none⟩ = some (.slice Z.X.ai Z.G.init.length Z.X.ci) := (co5.out.cb.r1.below hR).cell 0
        have q1 : w'.cell? ⟨b1, 1, none⟩ = some (.slice Z.X.ae Z.G.edges.length Z.X.ce) := (co5.out.cb.r1.below hR).cell 1
        have q2 : w'.cell? ⟨b1, 2, none⟩ = some (.slice Z.X.al Z.G.labels.length Z.X.cl) := (co5.out.cb.r1.below hR).cell 2
        have q3 : w'.cell? ⟨b1, 3, none⟩ = some (.slice Z.X.as_ Z.sets.length Z.X.cs) := (co5.out.cb.r1.below hR).cell 3
        have q4 : w'.cell? ⟨b1, 4, none⟩ = some (.int .i64 Z.A.sets) := (co5.out.cb.r1.below hR).cell 4
        have q5 : w'.cell? ⟨b1, 5, none⟩ = some (.slice Z.X.bi Z.A.init.length Z.X.di) := (co5.out.cb.r1.below hR).cell 5
        have q6 : w'.cell? ⟨b1, 6, none⟩ = some (.slice Z.X.bn Z.A.nodes.length Z.X.dn) := (co5.out.cb.r1.below hR).cell 6
        go_simp
        exact hK _ _ (Below.refl _ _) rfl
       | 2, _ =>
        intro o ho ac w' hR hF hD K hK
        simp only [zqA, zqZ, zqS, zqI] at ho
        subst ho
        have e1 : ac.tmps.getD 1 undef = .pointer (some ⟨b1, 0, none⟩) := hF 1 (znd (by kernel_rfl))
        have d1 := zgD e1
        clear hD hF
        go_simp
        exact hK _ _ (Below.refl _ _) rfl
       | 3, _ =>
        intro o ho ac w' hR hF hD K hK
        simp only [zqA, zqZ, zqS, zqI] at ho
        subst ho
        have e82 : ac.tmps.getD 82 undef = .pointer (some ⟨b1, 14, none⟩) := hD 2 (zdp (by kernel_rfl)) 82 rfl
        have d82 := zgD e82
        clear hD hF
        have q14 : w'.cell? ⟨b1, 14, none⟩ = some (.slice (some ⟨ob, oo, none⟩) (r.length + 1) V.oc) := by rw [(co5.out.cb.r1.below hR).cell 14, ← hoa.out, hol.out]; rfl
        go_simp
        exact hK _ _ (Below.refl _ _) rfl
       | 4, _ =>
        intro o ho ac w' hR hF hD K hK
        simp only [zqA, zqZ, zqS, zqI] at ho
        subst ho
        have e7 : ac.tmps.getD 7 undef = .int .i64 (r.length : Int) := hF 7 (znd (by kernel_rfl))
        have d7 := zgD e7
        clear hD hF
        go_simp
        exact hK _ _ (Below.refl _ _) rfl
       | 5, _ =>
        intro o ho ac w' hR hF hD K hK
        simp only [zqA, zqZ, zqS, zqI] at ho
        subst ho
        have e83 : ac.tmps.getD 83 undef = .slice (some ⟨ob, oo, none⟩) (r.length + 1) V.oc := hD 3 (zdp (by kernel_rfl)) 83 rfl
        have d83 := zgD e83
        have e84 : ac.tmps.getD 84 undef = .int .i64 (r.length : Int) := hD 4 (zdp (by kernel_rfl)) 84 rfl
        have d84 := zgD e84
        clear hD hF
        have hrI : (r.length : Int) < (r.length : Int) + 1 := by omega
        go_simp
        exact hK _ _ (Below.refl _ _) rfl
       | 6, _ =>
        intro o ho ac w' hR hF hD K hK
        simp only [zqA, zqZ, zqS, zqI] at ho
        subst ho
        have e85 : ac.tmps.getD 85 undef = .pointer (some ⟨ob, oo + r.length * 3, none⟩) := hD 5 (zdp (by kernel_rfl)) 85 rfl
        have d85 := zgD e85
        clear hD hF
        have q0 : w'.cell? ⟨ob, oo + r.length * 3, none⟩ = some (.int .i64 x.node) := bcell (btrans hb.out hR) o0.out
        have q1 : w'.cell? ⟨ob, oo + r.length * 3 + 1, none⟩ = some (.int .i64 x.state) := bcell (btrans hb.out hR) o1.out
        have q2 : w'.cell? ⟨ob, oo + r.length * 3 + 2, none⟩ = some (.int .i64 x.turn) := bcell (btrans hb.out hR) o2.out
        go_simp
        exact hK _ _ (Below.refl _ _) rfl
       | k + 7, hk => omega
      ·rintro ⟨tm, df⟩ w6 hdf hsz hF hR9 hV
       obtain rfl : df = [] := hdf
       obtain ⟨q, rfl⟩ := frame107 tm hsz
       have k0 : q 80 = .pointer (some ⟨b1, 0, none⟩) := hV 0 80 (by decide) rfl
       have k1 : q 81 = .agg #[.slice Z.X.ai Z.G.init.length Z.X.ci, .slice Z.X.ae Z.G.edges.length Z.X.ce, .slice Z.X.al Z.G.labels.length Z.X.cl, .slice Z.X.as_ Z.sets.length Z.X.cs, .int .i64 Z.A.sets, .slice Z.X.bi Z.A.init.length Z.X.di, .slice Z.X.bn Z.A.nodes.length Z.X.dn] := hV 1 81 (by decide) rfl
       have k2 : q 82 = .pointer (some ⟨b1, 14, none⟩) := hV 2 82 (by decide) rfl
       have k3 : q 83 = .slice (some ⟨ob, oo, none⟩) (r.length + 1) V.oc := hV 3 83 (by decide) rfl
       have k4 : q 84 = .int .i64 (r.length : Int) := hV 4 84 (by decide) rfl
       have k5 : q 85 = .pointer (some ⟨ob, oo + r.length * 3, none⟩) := hV 5 85 (by decide) rfl
       have k6 : q 86 = .agg #[.int .i64 x.node, .int .i64 x.state, .int .i64 x.turn] := hV 6 86 (by decide) rfl
       rw [k0, k1, k2, k3, k4, k5, k6]
       clear k0 k1 k2 k3 k4 k5 k6
       have kk := zbk hF [0, 1, 2, 3, 4, 5, 6, 10, 104, 105, 106, 7, 8, 9] (by kernel_rfl)
       simp only [Bk, Array.getD_eq_getD_getElem?, zqA, zqS, zqZ, Option.getD_some] at kk
       simp only [kk]
       clear kk
       clear hF hV hsz
       have INQ := Lib.hid (rin_any w6 Z.X Z.G Z.sets Z.A (hR.out.below (btrans co5.out.cb.bw hR9)) x)
       obtain ⟨iq, hiq⟩ : ∃ iq, iq = inP Z.G Z.sets Z.A x := ⟨_, rfl⟩
       rw [← hiq] at INQ
       replace hiq := Lib.hid hiq
       change wpAny _ _ _ _ 1 _ _ _
       refine wpAny_ready (rs := [7]) (by kernel_rfl) (by simp) ?_
       refine AllReady.cons (i := 7) rfl (fun K hK => ?_) AllReady.nil
       go_simp
       refine INQ.out.mono ?_
       rintro e w7 ⟨rfl, hb7⟩
       refine hK _ _ ?_
       clear hK K INQ
       refine ⟨by kernel_rfl, ?_⟩
       have hb57 := btrans hR9 hb7
       have co7 := Lib.hid (co5.out.below hb57)
       have hv7 := Lib.hid (hv5.out.below hb57)
       clear hb57 hb7 hR9 co5 hv5
       cases iq with
       | false =>
        have ocp : Hid (r.length + 1 ≤ V.oc) := by have := os.out.hc.o; rw [hsoH.out, List.length_cons] at this; exact this
        have tcp : Hid (r.length + 1 ≤ V.tc) := by have := os.out.hc.t; rw [hsoH.out, List.length_cons] at this; exact this
        have p14 : w7.cell? ⟨b1, 14, none⟩ = some (.slice V.oa (r.length + 1) V.oc) := by rw [co7.out.cb.r1.cell 14]; show some (Value.slice V.oa (s).ot.length V.oc) = _; rw [hsoH.out]; rfl
        have g14 := co7.out.cb.r1.free 14
        have hcutO := fun w => run_cut_h (P := Try.prog) Try.underlying52 (sz := 3) Try.sizeRq V.oa (r.length + 1) V.oc r.length (kh := .i64) (H := (r.length : Int)) rfl (by have := ocp.out; omega) w
        have hcutT := fun w => run_cut_h (P := Try.prog) Try.underlying22 (sz := 1) Try.sizeInt V.ta (r.length + 1) V.tc r.length (kh := .i64) (H := (r.length : Int)) rfl (by have := tcp.out; omega) w
        go_upto_region 15 with (fail)
        clear p14 g14
        have cz := co7.out.set 14 (.slice V.oa r.length V.oc) rfl
        have kz := keeps4_set (N := N) (b1 := b1) (b2 := b2) (b3 := b3) (b6 := b6) w7 14 (.slice V.oa r.length V.oc)
        generalize w7.setCell ⟨b1, 14, none⟩ (.slice V.oa r.length V.oc) = wz at cz kz ⊢
        have p15 : wz.cell? ⟨b1, 15, none⟩ = some (.slice V.ta (r.length + 1) V.tc) := by rw [cz.cb.r1.cell 15]; show some (Value.slice V.ta (s).ot.length V.tc) = _; rw [hsoH.out]; rfl
        have g15 := cz.cb.r1.free 15
        replace cz := Lib.hid cz
        replace kz := Lib.hid kz
        go_wp2
        go_roundg m
        case rel =>
         have cz2 := cz.out.set 15 (.slice V.ta r.length V.tc) rfl
         have kz2 := keeps4_set (N := N) (b1 := b1) (b2 := b2) (b3 := b3) (b6 := b6) wz 15 (.slice V.ta r.length V.tc)
         rw [show ((scl Z V (s)).set 14 (.slice V.oa r.length V.oc)).set 15 (.slice V.ta r.length V.tc) = scl Z V (atS (s) r) by simp [scl, atS]] at cz2
         have hvz : Hd (NB4 N b1 b2 b3 b6) (wz.setCell ⟨b1, 15, none⟩ (.slice V.ta r.length V.tc)) (RSm V (atS (s) r)) := ((hv7.out.keeps kz.out).keeps kz2).imp (fun w q => q.pop hsoH.out)
         refine ⟨false, V, atS (s) r, f6, rfl, cz2, ?_⟩
         obtain ⟨h1, h2, h3⟩ := ADV.out.pop hiq.out.symm
         refine .inl ⟨rfl, hvz, os.out.hc.pop hsoH.out, h1, h2, h3, ?_⟩
         have := os.out.he; rw [Nat.succ_mul] at this; show s.edges + _ ≤ E; omega
        case measure => omega
       | true =>
        have hei : s.edges + FI ≤ E := by have := os.out.he; rw [Nat.succ_mul] at this; omega
        have IM := rinner_any (NB4 N b1 b2 b3 b6) w7 Z C E V s x k r (hR.out.below co7.out.cb.bw) NI.out hC.out hE.out hv7.out os.out.hc (co7.out.lt HN.out) bn.out bd.out os.out.inv hsoH.out hei
        obtain ⟨cp, hcp⟩ : ∃ cp, cp = innerF Z.b (nextP Z.G Z.sets Z.A) FI s [(x, 0)] := ⟨_, rfl⟩
        have hot : Hid (cp.1.ot = (x, k) :: r) := by show _ = _; rw [hcp, innerF_ot]; exact hsoH.out
        rw [← hcp] at IM
        replace IM := Lib.hid IM
        replace hcp := Lib.hid hcp
        clear hei
        go_upto_region 13 with (fail)
        refine wp_region_list ?_
        refine list_load undS infoS1 co7.out.cb.r1 rfl rfl 1 rfl rfl ?_
        refine wpList_plain rfl (fun K hK => ?_)
        go_simp
        refine IM.out.mono ?_
        rintro e wv ⟨V', fc, rfl, hf7, hf1, hbv, hvv, hcv, hff⟩
        have cov := Lib.hid (co7.out.below hbv)
        replace hf7 := Lib.hid hf7
        replace hf1 := Lib.hid hf1
        replace hbv := Lib.hid hbv
        replace hvv := Lib.hid hvv
        replace hcv := Lib.hid hcv
        replace hff := Lib.hid hff
        clear IM
        refine hK _ _ ?_
        clear hK K
        refine wpList_plain rfl (fun K hK => ?_)
        go_simp
        refine hK _ _ ?_
        clear hK K
        refine wpList_plain rfl (fun K hK => ?_)
        go_simp
        refine hK _ _ ?_
        clear hK K
        refine wpList_plain rfl (fun K hK => ?_)
        go_simp
        refine hK _ _ ?_
        clear hK K
        refine wpList_plain rfl (fun K hK => ?_)
        go_simp
        refine hK _ _ ?_
        clear hK K
        refine list_store (l := scl Z V' cp.1) infoS1 cov.out.cb.r1 rfl rfl (scl_one _ _ _) rfl 1 91 rfl rfl rfl ?_
        intro wx qa ka
        have cox := Lib.hid (cov.out.store1 rfl (scl_one _ _ _) qa ka)
        replace ka := Lib.hid ka
        clear qa
        refine list_store (l := fc) infoF1 cox.out.r6 cox.out.l6 hf7.out hf1.out rfl 6 92 rfl rfl rfl ?_
        intro wy qb kb
        have coy := Lib.hid (cox.out.store6 hf7.out hf1.out qb kb)
        replace kb := Lib.hid kb
        clear qb
        refine wpList_plain rfl (fun K hK => ?_)
        go_simp
        refine hK _ _ ?_
        clear hK K
        refine wpList_nil ?_
        have K1 := Lib.hid (keeps4_1 (N := N) (b2 := b2) (b3 := b3) (b6 := b6) ka.out)
        have K6 := Lib.hid (keeps4_6 (N := N) (b1 := b1) (b2 := b2) (b3 := b3) kb.out)
        have hvy := Lib.hid ((hvv.out.keeps K1.out).keeps K6.out)
        have ocp : Hid (r.length + 1 ≤ V'.oc) := by have := hcv.out.o; rw [hot.out, List.length_cons] at this; exact this
        have tcp : Hid (r.length + 1 ≤ V'.tc) := by have := hcv.out.t; rw [hot.out, List.length_cons] at this; exact this
        have p14 : wy.cell? ⟨b1, 14, none⟩ = some (.slice V'.oa (r.length + 1) V'.oc) := by rw [coy.out.cb.r1.cell 14]; show some (Value.slice V'.oa (cp.1).ot.length V'.oc) = _; rw [hot.out]; rfl
        have g14 := coy.out.cb.r1.free 14
        have hcutO := fun w => run_cut_h (P := Try.prog) Try.underlying52 (sz := 3) Try.sizeRq V'.oa (r.length + 1) V'.oc r.length (kh := .i64) (H := (r.length : Int)) rfl (by have := ocp.out; omega) w
        have hcutT := fun w => run_cut_h (P := Try.prog) Try.underlying22 (sz := 1) Try.sizeInt V'.ta (r.length + 1) V'.tc r.length (kh := .i64) (H := (r.length : Int)) rfl (by have := tcp.out; omega) w
        go_upto_region 15 with (fail)
        clear p14 g14
        have cz := coy.out.set 14 (.slice V'.oa r.length V'.oc) rfl
        have kz := keeps4_set (N := N) (b1 := b1) (b2 := b2) (b3 := b3) (b6 := b6) wy 14 (.slice V'.oa r.length V'.oc)
        generalize wy.setCell ⟨b1, 14, none⟩ (.slice V'.oa r.length V'.oc) = wz at cz kz ⊢
        have p15 : wz.cell? ⟨b1, 15, none⟩ = some (.slice V'.ta (r.length + 1) V'.tc) := by rw [cz.cb.r1.cell 15]; show some (Value.slice V'.ta (cp.1).ot.length V'.tc) = _; rw [hot.out]; rfl
        have g15 := cz.cb.r1.free 15
        replace cz := Lib.hid cz
        replace kz := Lib.hid kz
        go_wp2
        go_roundg m
        case rel =>
         have cz2 := cz.out.set 15 (.slice V'.ta r.length V'.tc) rfl
         have kz2 := keeps4_set (N := N) (b1 := b1) (b2 := b2) (b3 := b3) (b6 := b6) wz 15 (.slice V'.ta r.length V'.tc)
         rw [show ((scl Z V' (cp.1)).set 14 (.slice V'.oa r.length V'.oc)).set 15 (.slice V'.ta r.length V'.tc) = scl Z V' (atS (cp.1) r) by simp [scl, atS]] at cz2
         have hvz : Hd (NB4 N b1 b2 b3 b6) (wz.setCell ⟨b1, 15, none⟩ (.slice V'.ta r.length V'.tc)) (RSm V' (atS (cp.1) r)) := ((hvy.out.keeps kz.out).keeps kz2).imp (fun w q => q.pop hot.out)
         refine ⟨cp.2.isSome, V', atS (cp.1) r, fc, rfl, cz2, ?_⟩
         obtain ⟨s2, o⟩ := cp
         cases o with
         | none =>
          obtain ⟨h1, h2, h3, h4, h5, h6⟩ := ADV.out.into s2 hiq.out.symm hcp.out.symm
          refine .inl ⟨rfl, hvz, hcv.out.pop hot.out, h1, h2, h3, ?_⟩
          have := os.out.he; rw [Nat.succ_mul] at this; show s2.edges + _ ≤ E; omega
         | some f =>
          have h1 := ADV.out.over s2 f hiq.out.symm hcp.out.symm
          obtain ⟨sa, sc, la, lc, q1, q2⟩ := (hff.out f rfl).of
          exact .inr ⟨rfl, f, by rw [h1], sa, sc, la, lc, q1, (((q2.keeps K1.out).keeps K6.out).keeps kz.out).keeps kz2⟩
        case measure => omega
  ·replace hf := Lib.hid hf
   replace rfd := Lib.hid rfd
   clear oh
   by_cases hso : s.ot.length = 0
   ·rw [hso] at c14
    replace hso := Lib.hid hso
    go_upto_region 16 with (fail)
    have hne : Hid (¬ (b1 = b2 ∨ b1 = b3) ∧ ¬ b3 = b2 ∧ ¬ b2 = b3 ∧ ¬ (b6 = b2 ∨ b6 = b3)) := by
     have := co.out.cb.e1; have := co.out.cb.e2; have := co.out.cb.e3; have := co.out.e6
     exact ⟨by omega, by omega, by omega, by omega⟩
    refine wp_region_dyn (by kernel_rfl) 6 (fun w' => Keeps wr w' (fun j => j = b2 ∨ j = b3)) (fun i => ([some (.agg (scl Z V s).toArray), some (.agg (List.toArray f6)), some (.bool true), none, none, some (.bool true)] : List (Option Value)).getD i none) (fun i => ([false, false, false, true, true, false] : List Bool).getD i false) (fun L _ w => WrD b2 TRS zsc (scl Z V s) 3 L w ∧ WrD b3 TRF zfc f6 4 L w) (by kernel_rfl) (by kernel_rfl) (by kernel_rfl) (Keeps.drewN _ 1 _) (fun rho => ⟨WrD.start co.out.cb.r2, WrD.start co.out.cb.r3⟩) ?_ ?_ ?_
    ·intro i hi hdy
     match i, hi, hdy with
     | 0, _, _ =>
      refine ⟨_, rfl, fun L rho w h => ⟨h.1.pass (by decide), h.2.pass (by decide)⟩, ?_⟩
      intro o ho ac w' hR hF hX
      simp only [zqA, zqZ, zqI] at ho
      subst ho
      refine ⟨fun h => (by cases h), fun K hK => ?_⟩
      have e1 : ac.tmps.getD 1 undef = .pointer (some ⟨b1, 0, none⟩) := hF 1 (znd (by kernel_rfl))
      have d1 := zgD e1
      clear hX hF
      exact step_load undS infoS1 (co.out.cb.r1.keeps hR hne.out.1) rfl rfl 1 rfl e1 hK
     | 1, _, _ =>
      refine ⟨_, rfl, fun L rho w h => ⟨h.1.pass (by decide), h.2.pass (by decide)⟩, ?_⟩
      intro o ho ac w' hR hF hX
      simp only [zqA, zqZ, zqS, zqI] at ho
      subst ho
      refine ⟨fun h => (by cases h), fun K hK => ?_⟩
      have e6 : ac.tmps.getD 6 undef = .pointer (some ⟨b6, 0, none⟩) := hF 6 (znd (by kernel_rfl))
      have d6 := zgD e6
      clear hX hF
      exact step_load undF infoF1 (co.out.r6.keeps hR hne.out.2.2.2) co.out.l6 rfl 6 rfl e6 hK
     | 2, _, _ =>
      refine ⟨_, rfl, fun L rho w h => ⟨h.1.pass (by decide), h.2.pass (by decide)⟩, ?_⟩
      intro o ho ac w' hR hF hX
      simp only [zqA, zqZ, zqS, zqI] at ho
      subst ho
      refine ⟨fun h => (by cases h), fun K hK => ?_⟩
      have e5 : ac.tmps.getD 5 undef = .bool true := hF 5 (znd (by kernel_rfl))
      have g5 := getD_bool e5
      have d5 := zgD e5
      clear hX hF
      go_simp
      exact hK
     | 3, _, hdy => exact znF hdy
     | 4, _, hdy => exact znF hdy
     | 5, _, _ =>
      refine ⟨_, rfl, fun L rho w h => ⟨h.1.pass (by decide), h.2.pass (by decide)⟩, ?_⟩
      intro o ho ac w' hR hF hX
      simp only [zqA, zqZ, zqS, zqI] at ho
      subst ho
      refine ⟨fun h => (by cases h), fun K hK => ?_⟩
      have e104 : ac.tmps.getD 104 undef = .agg (scl Z V s).toArray := hX 0 (zdp (by kernel_rfl)) _ rfl
      have d104 := zgD e104
      have e105 : ac.tmps.getD 105 undef = .agg (List.toArray f6) := hX 1 (zdp (by kernel_rfl)) _ rfl
      have d105 := zgD e105
      have e106 : ac.tmps.getD 106 undef = .bool true := hX 2 (zdp (by kernel_rfl)) _ rfl
      have g106 := getD_bool e106
      have d106 := zgD e106
      clear hX hF
      go_simp
      exact hK
     | k + 6, hk, _ => omega
    ·intro i hi hdy
     match i, hi, hdy with
     | 0, _, hdy => exact znT hdy
     | 1, _, hdy => exact znT hdy
     | 2, _, hdy => exact znT hdy
     | 3, _, _ =>
      intro o ho ac w' L rho hR hD hl hc hdep hX hF K hK
      simp only [zqA, zqZ, zqS, zqI] at ho
      subst ho
      have e2 : ac.tmps.getD 2 undef = .pointer (some ⟨b2, 0, none⟩) := hF 2 (znd (by kernel_rfl))
      have d2 := zgD e2
      have e104 : ac.tmps.getD 104 undef = .agg (scl Z V s).toArray := hX 0 (zdp (by kernel_rfl)) _ rfl
      have d104 := zgD e104
      refine step_store (l := scl Z V s) infoS1 (hD.1.old_ hl) rfl (rfl) (scl_one _ _ _) rfl 2 104 rfl e2 e104 ?_
      intro w9' hrow hk
      refine hK _ _ (hR.trans hk (fun j _ e => .inl e)) (fun _ => rfl) (fun u h => by cases h) ⟨WrD.wrote hrow, (hD.2.pass (by decide)).keeps hk hne.out.2.1⟩
     | 4, _, _ =>
      intro o ho ac w' L rho hR hD hl hc hdep hX hF K hK
      simp only [zqA, zqZ, zqS, zqI] at ho
      subst ho
      have e3 : ac.tmps.getD 3 undef = .pointer (some ⟨b3, 0, none⟩) := hF 3 (znd (by kernel_rfl))
      have d3 := zgD e3
      have e104 : ac.tmps.getD 104 undef = .agg (scl Z V s).toArray := hX 0 (zdp (by kernel_rfl)) _ rfl
      have d104 := zgD e104
      have e105 : ac.tmps.getD 105 undef = .agg (List.toArray f6) := hX 1 (zdp (by kernel_rfl)) _ rfl
      have d105 := zgD e105
      refine step_store (l := f6) infoF1 (hD.2.old_ hl) rfl (co.out.l6) (co.out.o6) rfl 3 105 rfl e3 e105 ?_
      intro w9' hrow hk
      refine hK _ _ (hR.trans hk (fun j _ e => .inr e)) (fun _ => rfl) (fun u h => by cases h) ⟨(hD.1.pass (by decide)).keeps hk hne.out.2.2.1, WrD.wrote hrow⟩
     | 5, _, hdy => exact znT hdy
     | k + 6, hk, _ => omega
    ·rintro ⟨tm, df⟩ wz rho hdf hsz hF hR9 hX hV hD
     obtain rfl : df = [] := hdf
     obtain ⟨q, rfl⟩ := frame107 tm hsz
     have hD' := hD (fun i => decide (i < 6)) (fun i hi => decide_eq_true hi) (fun i hi => decide_eq_false (by omega))
     have k4 : q 4 = .bool true := hX 5 _ (by decide) rfl
     rw [k4]
     clear k4
     have kk := zbk hF [0, 1, 2, 3] (by kernel_rfl)
     simp only [Bk, Array.getD_eq_getD_getElem?, zqA, zqS, zqZ, Option.getD_some] at kk
     simp only [kk]
     clear kk
     have z1 := hD'.1.new_ rfl
     have z2 := hD'.2.new_ rfl
     clear hF hX hV hD hsz hD'
     change wpAny _ _ _ _ 0 _ _ _
     refine ⟨by kernel_rfl, ?_⟩
     go_wp2
     have z3 : Below W.heap.size W wz := hR9.below co.out.cb.bw (fun j hj => by have := co.out.cb.e2; have := co.out.cb.e3; omega)
     refine bodyPost_ret (v := .tuple #[.agg (scl Z V s).toArray, .agg (List.toArray f6), .bool true]) (results3 (a := 2) (b := 3) (c := 4) (by kernel_rfl) rfl rfl rfl (loadVar_whole undS infoS1 z1 rfl) (loadVar_whole undF infoF1 z2 co.out.l6)) rfl ?_
     refine ⟨scl Z V s, f6, by rw [hf.out]; rfl, rfl, scl_one _ _ _, co.out.l6, co.out.o6, z3, fun h => (by rw [hf.out] at h; cases h), fun f' hf' => ?_⟩
     rw [hf.out] at hf'
     cases hf'
     obtain ⟨sa, sc, la, lc, q1, q2⟩ := rfd.out.of
     exact ⟨sa, sc, la, lc, q1, CO.done q2 hR9⟩
   ·have h0 : (0 : Int) < (s.ot.length : Int) := by omega
    replace hso := Lib.hid hso
    go_upto_region 16 with (fail)
    have hne : Hid (¬ (b1 = b2 ∨ b1 = b3) ∧ ¬ b3 = b2 ∧ ¬ b2 = b3 ∧ ¬ (b6 = b2 ∨ b6 = b3)) := by
     have := co.out.cb.e1; have := co.out.cb.e2; have := co.out.cb.e3; have := co.out.e6
     exact ⟨by omega, by omega, by omega, by omega⟩
    refine wp_region_dyn (by kernel_rfl) 6 (fun w' => Keeps wr w' (fun j => j = b2 ∨ j = b3)) (fun i => ([some (.agg (scl Z V s).toArray), some (.agg (List.toArray f6)), some (.bool true), none, none, some (.bool true)] : List (Option Value)).getD i none) (fun i => ([false, false, false, true, true, false] : List Bool).getD i false) (fun L _ w => WrD b2 TRS zsc (scl Z V s) 3 L w ∧ WrD b3 TRF zfc f6 4 L w) (by kernel_rfl) (by kernel_rfl) (by kernel_rfl) (Keeps.drewN _ 1 _) (fun rho => ⟨WrD.start co.out.cb.r2, WrD.start co.out.cb.r3⟩) ?_ ?_ ?_
    ·intro i hi hdy
     match i, hi, hdy with
     | 0, _, _ =>
      refine ⟨_, rfl, fun L rho w h => ⟨h.1.pass (by decide), h.2.pass (by decide)⟩, ?_⟩
      intro o ho ac w' hR hF hX
      simp only [zqA, zqZ, zqI] at ho
      subst ho
      refine ⟨fun h => (by cases h), fun K hK => ?_⟩
      have e1 : ac.tmps.getD 1 undef = .pointer (some ⟨b1, 0, none⟩) := hF 1 (znd (by kernel_rfl))
      have d1 := zgD e1
      clear hX hF
      exact step_load undS infoS1 (co.out.cb.r1.keeps hR hne.out.1) rfl rfl 1 rfl e1 hK
     | 1, _, _ =>
      refine ⟨_, rfl, fun L rho w h => ⟨h.1.pass (by decide), h.2.pass (by decide)⟩, ?_⟩
      intro o ho ac w' hR hF hX
      simp only [zqA, zqZ, zqS, zqI] at ho
      subst ho
      refine ⟨fun h => (by cases h), fun K hK => ?_⟩
      have e6 : ac.tmps.getD 6 undef = .pointer (some ⟨b6, 0, none⟩) := hF 6 (znd (by kernel_rfl))
      have d6 := zgD e6
      clear hX hF
      exact step_load undF infoF1 (co.out.r6.keeps hR hne.out.2.2.2) co.out.l6 rfl 6 rfl e6 hK
     | 2, _, _ =>
      refine ⟨_, rfl, fun L rho w h => ⟨h.1.pass (by decide), h.2.pass (by decide)⟩, ?_⟩
      intro o ho ac w' hR hF hX
      simp only [zqA, zqZ, zqS, zqI] at ho
      subst ho
      refine ⟨fun h => (by cases h), fun K hK => ?_⟩
      have e5 : ac.tmps.getD 5 undef = .bool true := hF 5 (znd (by kernel_rfl))
      have g5 := getD_bool e5
      have d5 := zgD e5
      clear hX hF
      go_simp
      exact hK
     | 3, _, hdy => exact znF hdy
     | 4, _, hdy => exact znF hdy
     | 5, _, _ =>
      refine ⟨_, rfl, fun L rho w h => ⟨h.1.pass (by decide), h.2.pass (by decide)⟩, ?_⟩
      intro o ho ac w' hR hF hX
      simp only [zqA, zqZ, zqS, zqI] at ho
      subst ho
      refine ⟨fun h => (by cases h), fun K hK => ?_⟩
      have e104 : ac.tmps.getD 104 undef = .agg (scl Z V s).toArray := hX 0 (zdp (by kernel_rfl)) _ rfl
      have d104 := zgD e104
      have e105 : ac.tmps.getD 105 undef = .agg (List.toArray f6) := hX 1 (zdp (by kernel_rfl)) _ rfl
      have d105 := zgD e105
      have e106 : ac.tmps.getD 106 undef = .bool true := hX 2 (zdp (by kernel_rfl)) _ rfl
      have g106 := getD_bool e106
      have d106 := zgD e106
      clear hX hF
      go_simp
      exact hK
     | k + 6, hk, _ => omega
    ·intro i hi hdy
     match i, hi, hdy with
     | 0, _, hdy => exact znT hdy
     | 1, _, hdy => exact znT hdy
     | 2, _, hdy => exact znT hdy
     | 3, _, _ =>
      intro o ho ac w' L rho hR hD hl hc hdep hX hF K hK
      simp only [zqA, zqZ, zqS, zqI] at ho
      subst ho
      have e2 : ac.tmps.getD 2 undef = .pointer (some ⟨b2, 0, none⟩) := hF 2 (znd (by kernel_rfl))
      have d2 := zgD e2
      have e104 : ac.tmps.getD 104 undef = .agg (scl Z V s).toArray := hX 0 (zdp (by kernel_rfl)) _ rfl
      have d104 := zgD e104
      refine step_store (l := scl Z V s) infoS1 (hD.1.old_ hl) rfl (rfl) (scl_one _ _ _) rfl 2 104 rfl e2 e104 ?_
      intro w9' hrow hk
      refine hK _ _ (hR.trans hk (fun j _ e => .inl e)) (fun _ => rfl) (fun u h => by cases h) ⟨WrD.wrote hrow, (hD.2.pass (by decide)).keeps hk hne.out.2.1⟩
     | 4, _, _ =>
      intro o ho ac w' L rho hR hD hl hc hdep hX hF K hK
      simp only [zqA, zqZ, zqS, zqI] at ho
      subst ho
      have e3 : ac.tmps.getD 3 undef = .pointer (some ⟨b3, 0, none⟩) := hF 3 (znd (by kernel_rfl))
      have d3 := zgD e3
      have e104 : ac.tmps.getD 104 undef = .agg (scl Z V s).toArray := hX 0 (zdp (by kernel_rfl)) _ rfl
      have d104 := zgD e104
      have e105 : ac.tmps.getD 105 undef = .agg (List.toArray f6) := hX 1 (zdp (by kernel_rfl)) _ rfl
      have d105 := zgD e105
      refine step_store (l := f6) infoF1 (hD.2.old_ hl) rfl (co.out.l6) (co.out.o6) rfl 3 105 rfl e3 e105 ?_
      intro w9' hrow hk
      refine hK _ _ (hR.trans hk (fun j _ e => .inr e)) (fun _ => rfl) (fun u h => by cases h) ⟨(hD.1.pass (by decide)).keeps hk hne.out.2.2.1, WrD.wrote hrow⟩
     | 5, _, hdy => exact znT hdy
     | k + 6, hk, _ => omega
    ·rintro ⟨tm, df⟩ wz rho hdf hsz hF hR9 hX hV hD
     obtain rfl : df = [] := hdf
     obtain ⟨q, rfl⟩ := frame107 tm hsz
     have hD' := hD (fun i => decide (i < 6)) (fun i hi => decide_eq_true hi) (fun i hi => decide_eq_false (by omega))
     have k4 : q 4 = .bool true := hX 5 _ (by decide) rfl
     rw [k4]
     clear k4
     have kk := zbk hF [0, 1, 2, 3] (by kernel_rfl)
     simp only [Bk, Array.getD_eq_getD_getElem?, zqA, zqS, zqZ, Option.getD_some] at kk
     simp only [kk]
     clear kk
     have z1 := hD'.1.new_ rfl
     have z2 := hD'.2.new_ rfl
     clear hF hX hV hD hsz hD'
     change wpAny _ _ _ _ 0 _ _ _
     refine ⟨by kernel_rfl, ?_⟩
     go_wp2
     have z3 : Below W.heap.size W wz := hR9.below co.out.cb.bw (fun j hj => by have := co.out.cb.e2; have := co.out.cb.e3; omega)
     refine bodyPost_ret (v := .tuple #[.agg (scl Z V s).toArray, .agg (List.toArray f6), .bool true]) (results3 (a := 2) (b := 3) (c := 4) (by kernel_rfl) rfl rfl rfl (loadVar_whole undS infoS1 z1 rfl) (loadVar_whole undF infoF1 z2 co.out.l6)) rfl ?_
     refine ⟨scl Z V s, f6, by rw [hf.out]; rfl, rfl, scl_one _ _ _, co.out.l6, co.out.o6, z3, fun h => (by rw [hf.out] at h; cases h), fun f' hf' => ?_⟩
     rw [hf.out] at hf'
     cases hf'
     obtain ⟨sa, sc, la, lc, q1, q2⟩ := rfd.out.of
     exact ⟨sa, sc, la, lc, q1, CO.done q2 hR9⟩
end Go.Proofs.Ytfcpfcgcfaacnaa
namespace Go.Proofs.Ytfcpfcgcfaacnaa
open Go.RowKit
set_option linter.unusedVariables false
set_option linter.unusedSimpArgs false
def PV (N : Nat → Prop) (cp : NS × Option NF) (V' : RV) (w : World) : Prop := Hd N w (RSm V' cp.1) ∧ RSc V' cp.1
def QF (N : Nat → Prop) (cp : NS × Option NF) (fc : List Value) (w : World) : Prop := fc.length = 7 ∧ (∀ v ∈ fc, v.oneCell' = true) ∧ ∀ f, cp.2 = some f → RFd N w fc f
def NL (N0 : Nat → Prop) (L : Nat → Bool) (rho : Nat → Value) (j : Nat) : Prop := N0 j ∨ (L 10 = true ∧ rho 10 = .pointer (some ⟨j, 0, none⟩)) ∨ (L 11 = true ∧ rho 11 = .pointer (some ⟨j, 0, none⟩))
theorem PV.into {N N' : Nat → Prop} {cp : NS × Option NF} {V' : RV} {w w' : World} (h : PV N cp V' w) (hb : Below w.heap.size w w') (hs : ∀ j, j < w.heap.size → N' j → N j) : PV N' cp V' w' := ⟨h.1.into hb hs, h.2⟩
theorem PV.keeps {N : Nat → Prop} {cp : NS × Option NF} {V' : RV} {w w' : World} (h : PV N cp V' w) (k : Keeps w w' N) : PV N cp V' w' := ⟨h.1.keeps k, h.2⟩
theorem QF.into {N N' : Nat → Prop} {cp : NS × Option NF} {fc : List Value} {w w' : World} (h : QF N cp fc w) (hb : Below w.heap.size w w') (hs : ∀ j, j < w.heap.size → N' j → N j) : QF N' cp fc w' := ⟨h.1, h.2.1, fun f hf => by
 obtain ⟨sa, sc, la, lc, q1, q2⟩ := (h.2.2 f hf).of
 exact ⟨sa, sc, la, lc, q1, q2.into hb hs⟩⟩
theorem QF.keeps {N : Nat → Prop} {cp : NS × Option NF} {fc : List Value} {w w' : World} (h : QF N cp fc w) (k : Keeps w w' N) : QF N cp fc w' := ⟨h.1, h.2.1, fun f hf => by
 obtain ⟨sa, sc, la, lc, q1, q2⟩ := (h.2.2 f hf).of
 exact ⟨sa, sc, la, lc, q1, q2.keeps k⟩⟩
structure ScD (N0 : Nat → Prop) (Z : RZ) (cp : NS × Option NF) (base : Nat) (L : Nat → Bool) (rho : Nat → Value) (w : World) : Prop where
 t5 : L 5 = true → ∃ V' fc, rho 5 = .tuple #[.agg (scl Z V' cp.1).toArray, .agg (List.toArray fc), .bool cp.2.isSome] ∧ PV (NL N0 L rho) cp V' w ∧ QF (NL N0 L rho) cp fc w
 t6 : L 6 = true → ∃ V' fc, rho 6 = .tuple #[.agg (scl Z V' cp.1).toArray, .agg (List.toArray fc), .bool cp.2.isSome] ∧ PV (NL N0 L rho) cp V' w ∧ QF (NL N0 L rho) cp fc w
 t7 : L 7 = true → ∃ V', rho 7 = .agg (scl Z V' cp.1).toArray ∧ PV (NL N0 L rho) cp V' w
 t8 : L 8 = true → ∃ fc, rho 8 = .agg (List.toArray fc) ∧ QF (NL N0 L rho) cp fc w
 b10 : L 10 = true → ∃ g, rho 10 = .pointer (some ⟨g, 0, none⟩) ∧ base ≤ g ∧ (L 12 = false → RowAt w g TRS zsc) ∧ (L 12 = true → ∃ V', RowAt w g TRS (scl Z V' cp.1) ∧ PV (NL N0 L rho) cp V' w)
 b11 : L 11 = true → ∃ g, rho 11 = .pointer (some ⟨g, 0, none⟩) ∧ base ≤ g ∧ (L 13 = false → RowAt w g TRF zfc) ∧ (L 13 = true → ∃ fc, RowAt w g TRF fc ∧ QF (NL N0 L rho) cp fc w)
theorem ScD.start {N0 : Nat → Prop} {Z : RZ} {cp : NS × Option NF} {base : Nat} (rho : Nat → Value) (w : World) : ScD N0 Z cp base (fun _ => false) rho w :=
 ⟨fun h => (by cases h), fun h => (by cases h), fun h => (by cases h), fun h => (by cases h), fun h => (by cases h), fun h => (by cases h)⟩
section
variable {N0 : Nat → Prop} {Z : RZ} {cp : NS × Option NF} {base : Nat} {L : Nat → Bool} {rho : Nat → Value} {w w' : World}
theorem NL_ne {i : Nat} {v : Value} (h10 : 10 ≠ i) (h11 : 11 ≠ i) : NL N0 (updB L i) (updV rho i v) = NL N0 L rho := by
 unfold NL
 rw [updB_ne h10, updB_ne h11, updV_ne h10, updV_ne h11]
theorem ScD.pass (h : ScD N0 Z cp base L rho w) {i : Nat} {v : Value} (h5 : 5 ≠ i) (h6 : 6 ≠ i) (h7 : 7 ≠ i) (h8 : 8 ≠ i) (h10 : 10 ≠ i) (h11 : 11 ≠ i) (h12 : 12 ≠ i) (h13 : 13 ≠ i) : ScD N0 Z cp base (updB L i) (updV rho i v) w := by
 refine ⟨?_, ?_, ?_, ?_, ?_, ?_⟩ <;> rw [NL_ne h10 h11]
 ·rw [updB_ne h5, updV_ne h5]; exact h.t5
 ·rw [updB_ne h6, updV_ne h6]; exact h.t6
 ·rw [updB_ne h7, updV_ne h7]; exact h.t7
 ·rw [updB_ne h8, updV_ne h8]; exact h.t8
 ·rw [updB_ne h10, updB_ne h12, updV_ne h10]; exact h.b10
 ·rw [updB_ne h11, updB_ne h13, updV_ne h11]; exact h.b11
theorem PV.below {N : Nat → Prop} {V' : RV} (h : PV N cp V' w) (hb : Below w.heap.size w w') : PV N cp V' w' := h.into hb (fun _ _ h => h)
theorem QF.below {N : Nat → Prop} {fc : List Value} (h : QF N cp fc w) (hb : Below w.heap.size w w') : QF N cp fc w' := h.into hb (fun _ _ h => h)
theorem ScD.grow (h : ScD N0 Z cp base L rho w) (hb : Below w.heap.size w w') : ScD N0 Z cp base L rho w' := by
 refine ⟨fun q => ?_, fun q => ?_, fun q => ?_, fun q => ?_, fun q => ?_, fun q => ?_⟩
 ·obtain ⟨V', fc, h1, h2, h3⟩ := h.t5 q; exact ⟨V', fc, h1, h2.below hb, h3.below hb⟩
 ·obtain ⟨V', fc, h1, h2, h3⟩ := h.t6 q; exact ⟨V', fc, h1, h2.below hb, h3.below hb⟩
 ·obtain ⟨V', h1, h2⟩ := h.t7 q; exact ⟨V', h1, h2.below hb⟩
 ·obtain ⟨fc, h1, h2⟩ := h.t8 q; exact ⟨fc, h1, h2.below hb⟩
 ·obtain ⟨g, h1, h2, h3, h4⟩ := h.b10 q
  exact ⟨g, h1, h2, fun e => (h3 e).below hb, fun e => by obtain ⟨V', q1, q2⟩ := h4 e; exact ⟨V', q1.below hb, q2.below hb⟩⟩
 ·obtain ⟨g, h1, h2, h3, h4⟩ := h.b11 q
  exact ⟨g, h1, h2, fun e => (h3 e).below hb, fun e => by obtain ⟨V', q1, q2⟩ := h4 e; exact ⟨V', q1.below hb, q2.below hb⟩⟩
theorem ScD.nl (h : ScD N0 Z cp base L rho w) (h0 : ∀ j, N0 j → j < w.heap.size) : ∀ j, NL N0 L rho j → j < w.heap.size := by
 intro j hj
 rcases hj with hj | ⟨q, e⟩ | ⟨q, e⟩
 ·exact h0 j hj
 ·obtain ⟨g, h1, _, h3, h4⟩ := h.b10 q
  rw [h1] at e
  cases e
  cases h9 : L 12 with
  | false => exact (h3 h9).lt
  | true => obtain ⟨_, q1, _⟩ := h4 h9; exact q1.lt
 ·obtain ⟨g, h1, _, h3, h4⟩ := h.b11 q
  rw [h1] at e
  cases e
  cases h9 : L 13 with
  | false => exact (h3 h9).lt
  | true => obtain ⟨_, q1, _⟩ := h4 h9; exact q1.lt
theorem ScD.call (h : ScD N0 Z cp base L rho w) (hb : Below w.heap.size w w') {V' : RV} {fc : List Value} (p : PV (NL N0 L rho) cp V' w') (q : QF (NL N0 L rho) cp fc w') : ScD N0 Z cp base (updB L 5) (updV rho 5 (.tuple #[.agg (scl Z V' cp.1).toArray, .agg (List.toArray fc), .bool cp.2.isSome])) w' := by
 have g := h.grow hb
 refine ⟨?_, ?_, ?_, ?_, ?_, ?_⟩ <;> rw [NL_ne (by decide) (by decide)]
 ·rw [updV_eq]; exact fun _ => ⟨V', fc, rfl, p, q⟩
 ·rw [updB_ne (by decide), updV_ne (by decide)]; exact g.t6
 ·rw [updB_ne (by decide), updV_ne (by decide)]; exact g.t7
 ·rw [updB_ne (by decide), updV_ne (by decide)]; exact g.t8
 ·rw [updB_ne (by decide), updB_ne (by decide), updV_ne (by decide)]; exact g.b10
 ·rw [updB_ne (by decide), updB_ne (by decide), updV_ne (by decide)]; exact g.b11
theorem ScD.move6 (g : ScD N0 Z cp base L rho w) {V' : RV} {fc : List Value} (p : PV (NL N0 L rho) cp V' w) (q : QF (NL N0 L rho) cp fc w) : ScD N0 Z cp base (updB L 6) (updV rho 6 (.tuple #[.agg (scl Z V' cp.1).toArray, .agg (List.toArray fc), .bool cp.2.isSome])) w := by
 refine ⟨?_, ?_, ?_, ?_, ?_, ?_⟩ <;> rw [NL_ne (by decide) (by decide)]
 ·rw [updB_ne (by decide), updV_ne (by decide)]; exact g.t5
 ·rw [updV_eq]; exact fun _ => ⟨V', fc, rfl, p, q⟩
 ·rw [updB_ne (by decide), updV_ne (by decide)]; exact g.t7
 ·rw [updB_ne (by decide), updV_ne (by decide)]; exact g.t8
 ·rw [updB_ne (by decide), updB_ne (by decide), updV_ne (by decide)]; exact g.b10
 ·rw [updB_ne (by decide), updB_ne (by decide), updV_ne (by decide)]; exact g.b11
theorem ScD.ext7 (g : ScD N0 Z cp base L rho w) {V' : RV} (p : PV (NL N0 L rho) cp V' w) : ScD N0 Z cp base (updB L 7) (updV rho 7 (.agg (scl Z V' cp.1).toArray)) w := by
 refine ⟨?_, ?_, ?_, ?_, ?_, ?_⟩ <;> rw [NL_ne (by decide) (by decide)]
 ·rw [updB_ne (by decide), updV_ne (by decide)]; exact g.t5
 ·rw [updB_ne (by decide), updV_ne (by decide)]; exact g.t6
 ·rw [updV_eq]; exact fun _ => ⟨V', rfl, p⟩
 ·rw [updB_ne (by decide), updV_ne (by decide)]; exact g.t8
 ·rw [updB_ne (by decide), updB_ne (by decide), updV_ne (by decide)]; exact g.b10
 ·rw [updB_ne (by decide), updB_ne (by decide), updV_ne (by decide)]; exact g.b11
theorem ScD.ext8 (g : ScD N0 Z cp base L rho w) {fc : List Value} (q : QF (NL N0 L rho) cp fc w) : ScD N0 Z cp base (updB L 8) (updV rho 8 (.agg (List.toArray fc))) w := by
 refine ⟨?_, ?_, ?_, ?_, ?_, ?_⟩ <;> rw [NL_ne (by decide) (by decide)]
 ·rw [updB_ne (by decide), updV_ne (by decide)]; exact g.t5
 ·rw [updB_ne (by decide), updV_ne (by decide)]; exact g.t6
 ·rw [updB_ne (by decide), updV_ne (by decide)]; exact g.t7
 ·rw [updV_eq]; exact fun _ => ⟨fc, rfl, q⟩
 ·rw [updB_ne (by decide), updB_ne (by decide), updV_ne (by decide)]; exact g.b10
 ·rw [updB_ne (by decide), updB_ne (by decide), updV_ne (by decide)]; exact g.b11
theorem ScD.alloc10 (g : ScD N0 Z cp base L rho w) (hl : L 10 = false) (hc : L 12 = true → L 10 = true) (hb : base ≤ w.heap.size) : ScD N0 Z cp base (updB L 10) (updV rho 10 (.pointer (some ⟨w.heap.size, 0, none⟩))) (w.alloc (.cells (zsc).toArray TRS)) := by
 have hs2 : L 12 = false := by
  cases h9 : L 12 with
  | false => rfl
  | true => rw [hc h9] at hl; cases hl
 have hB : Below w.heap.size w (w.alloc (.cells (zsc).toArray TRS)) := balloc (Below.refl _ _) _
 have hs : ∀ j, j < w.heap.size → NL N0 (updB L 10) (updV rho 10 (.pointer (some ⟨w.heap.size, 0, none⟩))) j → NL N0 L rho j := by
  intro j hj hn
  rcases hn with hn | ⟨q, e⟩ | ⟨q, e⟩
  ·exact .inl hn
  ·rw [updV_eq] at e; cases e; omega
  ·rw [updB_ne (by decide)] at q; rw [updV_ne (by decide)] at e; exact .inr (.inr ⟨q, e⟩)
 refine ⟨?_, ?_, ?_, ?_, ?_, ?_⟩
 ·rw [updB_ne (by decide), updV_ne (by decide)]; intro q; obtain ⟨V', fc, h1, h2, h3⟩ := g.t5 q; exact ⟨V', fc, h1, h2.into hB hs, h3.into hB hs⟩
 ·rw [updB_ne (by decide), updV_ne (by decide)]; intro q; obtain ⟨V', fc, h1, h2, h3⟩ := g.t6 q; exact ⟨V', fc, h1, h2.into hB hs, h3.into hB hs⟩
 ·rw [updB_ne (by decide), updV_ne (by decide)]; intro q; obtain ⟨V', h1, h2⟩ := g.t7 q; exact ⟨V', h1, h2.into hB hs⟩
 ·rw [updB_ne (by decide), updV_ne (by decide)]; intro q; obtain ⟨fc, h1, h2⟩ := g.t8 q; exact ⟨fc, h1, h2.into hB hs⟩
 ·refine fun _ => ⟨w.heap.size, updV_eq _ _, hb, fun _ => RowAt.new (zsc).toArray rfl, fun e => ?_⟩
  rw [updB_ne (by decide), hs2] at e
  cases e
 ·rw [updB_ne (by decide), updB_ne (by decide), updV_ne (by decide)]
  intro q
  obtain ⟨g', h1, h2, h3, h4⟩ := g.b11 q
  exact ⟨g', h1, h2, fun e => (h3 e).below hB, fun e => by obtain ⟨V', q1, q2⟩ := h4 e; exact ⟨V', q1.below hB, q2.into hB hs⟩⟩
theorem ScD.alloc11 (g : ScD N0 Z cp base L rho w) (hl : L 11 = false) (hc : L 13 = true → L 11 = true) (hb : base ≤ w.heap.size) : ScD N0 Z cp base (updB L 11) (updV rho 11 (.pointer (some ⟨w.heap.size, 0, none⟩))) (w.alloc (.cells (zfc).toArray TRF)) := by
 have hs2 : L 13 = false := by
  cases h9 : L 13 with
  | false => rfl
  | true => rw [hc h9] at hl; cases hl
 have hB : Below w.heap.size w (w.alloc (.cells (zfc).toArray TRF)) := balloc (Below.refl _ _) _
 have hs : ∀ j, j < w.heap.size → NL N0 (updB L 11) (updV rho 11 (.pointer (some ⟨w.heap.size, 0, none⟩))) j → NL N0 L rho j := by
  intro j hj hn
  rcases hn with hn | ⟨q, e⟩ | ⟨q, e⟩
  ·exact .inl hn
  ·rw [updB_ne (by decide)] at q; rw [updV_ne (by decide)] at e; exact .inr (.inl ⟨q, e⟩)
  ·rw [updV_eq] at e; cases e; omega
 refine ⟨?_, ?_, ?_, ?_, ?_, ?_⟩
 ·rw [updB_ne (by decide), updV_ne (by decide)]; intro q; obtain ⟨V', fc, h1, h2, h3⟩ := g.t5 q; exact ⟨V', fc, h1, h2.into hB hs, h3.into hB hs⟩
 ·rw [updB_ne (by decide), updV_ne (by decide)]; intro q; obtain ⟨V', fc, h1, h2, h3⟩ := g.t6 q; exact ⟨V', fc, h1, h2.into hB hs, h3.into hB hs⟩
 ·rw [updB_ne (by decide), updV_ne (by decide)]; intro q; obtain ⟨V', h1, h2⟩ := g.t7 q; exact ⟨V', h1, h2.into hB hs⟩
 ·rw [updB_ne (by decide), updV_ne (by decide)]; intro q; obtain ⟨fc, h1, h2⟩ := g.t8 q; exact ⟨fc, h1, h2.into hB hs⟩
 ·rw [updB_ne (by decide), updB_ne (by decide), updV_ne (by decide)]
  intro q
  obtain ⟨g', h1, h2, h3, h4⟩ := g.b10 q
  exact ⟨g', h1, h2, fun e => (h3 e).below hB, fun e => by obtain ⟨V', q1, q2⟩ := h4 e; exact ⟨V', q1.below hB, q2.into hB hs⟩⟩
 ·refine fun _ => ⟨w.heap.size, updV_eq _ _, hb, fun _ => RowAt.new (zfc).toArray rfl, fun e => ?_⟩
  rw [updB_ne (by decide), hs2] at e
  cases e
theorem ScD.store12 (h : ScD N0 Z cp base L rho w) (hl : L 12 = false) (q10 : L 10 = true) {g : Nat} (hg : rho 10 = .pointer (some ⟨g, 0, none⟩)) (k : Keeps w w' (fun j => j = g)) {V' : RV} (hrow : RowAt w' g TRS (scl Z V' cp.1)) (p : PV (NL N0 L rho) cp V' w) : ScD N0 Z cp base (updB L 12) (updV rho 12 undef) w' := by
 have kk : Keeps w w' (NL N0 L rho) := ⟨k.os, k.tape, k.output, k.size, fun j hj hn => k.block j hj (fun e => hn (by subst e; exact .inr (.inl ⟨q10, hg⟩)))⟩
 have apart : ∀ {l : List Value} {g2 : Nat}, RowAt w g2 TRF l → g2 = g → False := fun {l g2} hr e => by
  obtain ⟨g3, h1, _, h3, _⟩ := h.b10 q10
  rw [hg] at h1
  cases h1
  have h4 := h3 hl
  subst e
  unfold RowAt at hr h4
  rw [hr] at h4
  have : (TRF : Nat) = TRS := by injection h4 with h5; injection h5
  exact absurd this (by decide)
 refine ⟨?_, ?_, ?_, ?_, ?_, ?_⟩ <;> rw [NL_ne (by decide) (by decide)]
 ·rw [updB_ne (by decide), updV_ne (by decide)]; intro q; obtain ⟨V', fc, h1, h2, h3⟩ := h.t5 q; exact ⟨V', fc, h1, h2.keeps kk, h3.keeps kk⟩
 ·rw [updB_ne (by decide), updV_ne (by decide)]; intro q; obtain ⟨V', fc, h1, h2, h3⟩ := h.t6 q; exact ⟨V', fc, h1, h2.keeps kk, h3.keeps kk⟩
 ·rw [updB_ne (by decide), updV_ne (by decide)]; intro q; obtain ⟨V', h1, h2⟩ := h.t7 q; exact ⟨V', h1, h2.keeps kk⟩
 ·rw [updB_ne (by decide), updV_ne (by decide)]; intro q; obtain ⟨fc, h1, h2⟩ := h.t8 q; exact ⟨fc, h1, h2.keeps kk⟩
 ·rw [updB_ne (by decide), updV_ne (by decide), updB_eq]
  intro q
  obtain ⟨g2, h1, h2, h3, h4⟩ := h.b10 q
  rw [hg] at h1
  cases h1
  exact ⟨g, hg, h2, fun e => (by cases e), fun _ => ⟨V', hrow, p.keeps kk⟩⟩
 ·rw [updB_ne (by decide), updB_ne (by decide), updV_ne (by decide)]
  intro q
  obtain ⟨g2, h1, h2, h3, h4⟩ := h.b11 q
  refine ⟨g2, h1, h2, fun e => (h3 e).keeps k (fun e9 => apart (h3 e) e9), fun e => ?_⟩
  obtain ⟨V2, q1, q2⟩ := h4 e
  exact ⟨V2, q1.keeps k (fun e9 => apart q1 e9), q2.keeps kk⟩
theorem ScD.store13 (h : ScD N0 Z cp base L rho w) (hl : L 13 = false) (q11 : L 11 = true) {g : Nat} (hg : rho 11 = .pointer (some ⟨g, 0, none⟩)) (k : Keeps w w' (fun j => j = g)) {fc : List Value} (hrow : RowAt w' g TRF fc) (p : QF (NL N0 L rho) cp fc w) : ScD N0 Z cp base (updB L 13) (updV rho 13 undef) w' := by
 have kk : Keeps w w' (NL N0 L rho) := ⟨k.os, k.tape, k.output, k.size, fun j hj hn => k.block j hj (fun e => hn (by subst e; exact .inr (.inr ⟨q11, hg⟩)))⟩
 have apart : ∀ {l : List Value} {g2 : Nat}, RowAt w g2 TRS l → g2 = g → False := fun {l g2} hr e => by
  obtain ⟨g3, h1, _, h3, _⟩ := h.b11 q11
  rw [hg] at h1
  cases h1
  have h4 := h3 hl
  subst e
  unfold RowAt at hr h4
  rw [hr] at h4
  have : (TRS : Nat) = TRF := by injection h4 with h5; injection h5
  exact absurd this (by decide)
 refine ⟨?_, ?_, ?_, ?_, ?_, ?_⟩ <;> rw [NL_ne (by decide) (by decide)]
 ·rw [updB_ne (by decide), updV_ne (by decide)]; intro q; obtain ⟨V', fc, h1, h2, h3⟩ := h.t5 q; exact ⟨V', fc, h1, h2.keeps kk, h3.keeps kk⟩
 ·rw [updB_ne (by decide), updV_ne (by decide)]; intro q; obtain ⟨V', fc, h1, h2, h3⟩ := h.t6 q; exact ⟨V', fc, h1, h2.keeps kk, h3.keeps kk⟩
 ·rw [updB_ne (by decide), updV_ne (by decide)]; intro q; obtain ⟨V', h1, h2⟩ := h.t7 q; exact ⟨V', h1, h2.keeps kk⟩
 ·rw [updB_ne (by decide), updV_ne (by decide)]; intro q; obtain ⟨fc, h1, h2⟩ := h.t8 q; exact ⟨fc, h1, h2.keeps kk⟩
 ·rw [updB_ne (by decide), updB_ne (by decide), updV_ne (by decide)]
  intro q
  obtain ⟨g2, h1, h2, h3, h4⟩ := h.b10 q
  refine ⟨g2, h1, h2, fun e => (h3 e).keeps k (fun e9 => apart (h3 e) e9), fun e => ?_⟩
  obtain ⟨V2, q1, q2⟩ := h4 e
  exact ⟨V2, q1.keeps k (fun e9 => apart q1 e9), q2.keeps kk⟩
 ·rw [updB_ne (by decide), updV_ne (by decide), updB_eq]
  intro q
  obtain ⟨g2, h1, h2, h3, h4⟩ := h.b11 q
  rw [hg] at h1
  cases h1
  exact ⟨g, hg, h2, fun e => (by cases e), fun _ => ⟨fc, hrow, p.keeps kk⟩⟩
theorem ScD.nlow (h : ScD N0 Z cp base L rho w) : ∀ j, j < base → NL N0 L rho j → N0 j := by
 intro j hj hn
 rcases hn with hn | ⟨q, e⟩ | ⟨q, e⟩
 ·exact hn
 ·obtain ⟨g, h1, h2, _⟩ := h.b10 q; rw [h1] at e; cases e; omega
 ·obtain ⟨g, h1, h2, _⟩ := h.b11 q; rw [h1] at e; cases e; omega
end
end Go.Proofs.Ytfcpfcgcfaacnaa
namespace Go.Proofs.Ytfcpfcgcfaacnaa
open Go.RowKit
set_option linter.unusedVariables false
set_option linter.unusedSimpArgs false
set_option maxRecDepth 20000 in
theorem frame59 (arr : Array Value) (h : arr.size = 59) : ∃ q : Nat → Value, arr = #[q 0, q 1, q 2, q 3, q 4, q 5, q 6, q 7, q 8, q 9, q 10, q 11, q 12, q 13, q 14, q 15, q 16, q 17, q 18, q 19, q 20, q 21, q 22, q 23, q 24, q 25, q 26, q 27, q 28, q 29, q 30, q 31, q 32, q 33, q 34, q 35, q 36, q 37, q 38, q 39, q 40, q 41, q 42, q 43, q 44, q 45, q 46, q 47, q 48, q 49, q 50, q 51, q 52, q 53, q 54, q 55, q 56, q 57, q 58] := by
 refine ⟨fun i => arr.toList.getD i undef, ?_⟩
 have h1 := list_getP (l := arr.toList) (n := 59) (by simpa using h)
 apply Array.ext'
 exact h1
theorem results1 {fn : Func} {P : Program} {tmps : Array Value} {w : World} {a t : Nat} (hf : fn.results = #[.cell a t]) {g1 : Nat} {v1 : Value} (ha : tmps.getD a undef = .pointer (some ⟨g1, 0, none⟩)) (h1 : (loadVar t ⟨g1, 0, none⟩).run P w = .ok v1 w) : (results fn tmps).run P w = .ok v1 w := by
 rw [Array.getD_eq_getD_getElem?] at ha
 simp [results, hf, asAddr, ha, h1]
def N45 (b4 b5 j : Nat) : Prop := j = b4 ∨ j = b5
structure SH (W : World) (Z : RZ) (C E : Nat) (res : NF) (fp : List PP) (fa : Option Addr) (b4 b5 i : Nat) (V : RV) (s : NS) (w : World) : Prop where
 r5 : RowAt w b5 TRS (scl Z V s)
 r4 : RowAt w b4 TRF zfc
 pf : Hd (N45 b4 b5) w (fun w => PpsAt w fa fp)
 hv : Hd (N45 b4 b5) w (RSm V s)
 hc : RSc V s
 bw : Below W.heap.size W w
 lo : W.heap.size ≤ b4 ∧ W.heap.size ≤ b5 ∧ b4 ≠ b5
 hr : searchF Z.b (nextP Z.G Z.sets Z.A) (inP Z.G Z.sets Z.A) (fp.drop i) s = res
 inv : NInv Z.b (nextP Z.G Z.sets Z.A) (vPP Z.G Z.sets Z.A) s
 ho : s.ot = []
 he : s.edges + (fp.length + 1 - i) * (FO * (FI + 2)) ≤ E
theorem SH.below {W w w' : World} {Z : RZ} {C E : Nat} {res : NF} {fp : List PP} {fa : Option Addr} {b4 b5 i : Nat} {V : RV} {s : NS} (h : SH W Z C E res fp fa b4 b5 i V s w) (hb : Below w.heap.size w w') : SH W Z C E res fp fa b4 b5 i V s w' :=
 ⟨h.r5.below hb, h.r4.below hb, h.pf.below hb, h.hv.below hb, h.hc, btrans h.bw hb, h.lo, h.hr, h.inv, h.ho, h.he⟩
def N47 (b4 b5 g8 g9 j : Nat) : Prop := N45 b4 b5 j ∨ j = g8 ∨ j = g9
theorem SH.over {W w : World} {Z : RZ} {C E : Nat} {res : NF} {fp : List PP} {fa : Option Addr} {b4 b5 i : Nat} {V : RV} {s s2 : NS} {x : PP} {e : NF} (h : SH W Z C E res fp fa b4 b5 i V s w) (hdr : fp.drop i = x :: fp.drop (i + 1)) (hm : x ∉ s.reached) (hr : fromF Z.b (nextP Z.G Z.sets Z.A) (inP Z.G Z.sets Z.A) s x = (s2, some e)) : res = e := by
 have h1 := h.hr
 rw [hdr, searchF_end hm hr] at h1
 exact h1.symm
theorem SH.next {W w w1 w2 : World} {Z : RZ} {C E : Nat} {res : NF} {fp : List PP} {fa : Option Addr} {b4 b5 i : Nat} {V V2 : RV} {s s2 : NS} {x : PP} (h : SH W Z C E res fp fa b4 b5 i V s w) (NI : Nice (nextP Z.G Z.sets Z.A) (vPP Z.G Z.sets Z.A) C) (hC : C ≤ 3200) (hil : i < fp.length) (hdr : fp.drop i = x :: fp.drop (i + 1)) (hm : x ∉ s.reached) (hp : vPP Z.G Z.sets Z.A x) (hr : fromF Z.b (nextP Z.G Z.sets Z.A) (inP Z.G Z.sets Z.A) s x = (s2, none)) (hb : Below w.heap.size w w1) (q5 : RowAt w2 b5 TRS (scl Z V2 s2)) (k5 : Keeps w1 w2 (fun j => j = b5)) (hv : Hd (N45 b4 b5) w2 (RSm V2 s2)) (hc : RSc V2 s2) : SH W Z C E res fp fa b4 b5 (i + 1) V2 s2 w2 := by
 obtain ⟨a1, a2, a3⟩ := fromF_done NI hC h.inv h.ho hm hp hr
 have kN : Keeps w1 w2 (N45 b4 b5) := ⟨k5.os, k5.tape, k5.output, k5.size, fun j hj hn => k5.block j hj (fun e => hn (.inr e))⟩
 refine ⟨q5, (h.r4.below hb).keeps k5 h.lo.2.2, (h.pf.below hb).keeps kN, hv, hc, k5.below (btrans h.bw hb) (fun j hj => by cases hj; exact h.lo.2.1), h.lo, ?_, a1, a2, ?_⟩
 ·have h1 := h.hr
  rw [hdr, searchF_go hm hr] at h1
  exact h1
 ·have h1 := h.he
  have h2 : fp.length + 1 - i = (fp.length + 1 - (i + 1)) + 1 := by omega
  rw [h2, Nat.succ_mul] at h1
  omega
theorem SH.ehe {W w : World} {Z : RZ} {C E : Nat} {res : NF} {fp : List PP} {fa : Option Addr} {b4 b5 i : Nat} {V : RV} {s : NS} (h : SH W Z C E res fp fa b4 b5 i V s w) (hil : i < fp.length) : s.edges + FO * (FI + 1) ≤ E := by
 have h1 := h.he
 have h2 : FO * (FI + 1) ≤ FO * (FI + 2) := Nat.mul_le_mul_left _ (by omega)
 have h3 : 1 * (FO * (FI + 2)) ≤ (fp.length + 1 - i) * (FO * (FI + 2)) := Nat.mul_le_mul_right _ (by omega)
 rw [Nat.one_mul] at h3
 omega
theorem apartSF {w : World} {g8 g9 : Nat} {l l2 : List Value} (h : RowAt w g8 TRS l) (h9 : RowAt w g9 TRF l2) : g8 ≠ g9 := fun e => by
 subst e
 unfold RowAt at h h9
 rw [h] at h9
 have : (TRS : Nat) = TRF := by injection h9 with h5; injection h5
 exact absurd this (by decide)
theorem QF.out {N : Nat → Prop} {cp : NS × Option NF} {fc : List Value} {w w' : World} {f : NF} (h : QF N cp fc w) (hf : cp.2 = some f) (k : Keeps w w' N) : RFd (fun _ => False) w' fc f := by
 obtain ⟨sa, sc, la, lc, q1, q2⟩ := (h.2.2 f hf).of
 exact ⟨sa, sc, la, lc, q1, (q2.keeps k).into (Below.refl _ _) (fun _ _ h => h.elim)⟩
set_option maxRecDepth 20000 in
set_option maxHeartbeats 40000000 in
theorem rsearch_any (W : World) (X : RX) (G : GR) (sets : List (List Bool)) (A : AU) (C E : Nat) (bn bd : Int) (hR : RpA W X G sets A) (NI : Nice (nextP G sets A) (vPP G sets A) C) (hC : C ≤ 3200) (hE : E ≤ 4000000000000000000) (he : ((firstP G A).length + 1) * (FO * (FI + 2)) ≤ E) (hfl : (firstP G A).length ≤ 1000000) (hfv : ∀ x ∈ firstP G A, vPP G sets A x) :
  Calls Try.prog 15 #[.agg #[.slice X.ai G.init.length X.ci, .slice X.ae G.edges.length X.ce, .slice X.al G.labels.length X.cl, .slice X.as_ sets.length X.cs, .int .i64 A.sets, .slice X.bi A.init.length X.di, .slice X.bn A.nodes.length X.dn], .agg #[.int .i64 bn, .int .i64 bd]] W fun e w' => ∃ fc, e = .returned (.agg (List.toArray fc)) ∧ fc.length = 7 ∧ (∀ v ∈ fc, v.oneCell' = true) ∧ Below W.heap.size W w' ∧ RFd (fun _ => False) w' fc (searchP G sets A bn bd) := by
 obtain ⟨w1, hw1⟩ : ∃ w1, w1 = ((W.alloc (.cells #[.slice X.ai G.init.length X.ci, .slice X.ae G.edges.length X.ce, .slice X.al G.labels.length X.cl, .slice X.as_ sets.length X.cs, .int .i64 A.sets, .slice X.bi A.init.length X.di, .slice X.bn A.nodes.length X.dn] TRP)).alloc (.cells #[.int .i64 bn, .int .i64 bd] 34)).alloc (.cells zfc.toArray TRF) := ⟨_, rfl⟩
 obtain ⟨b2, hb2⟩ : ∃ b, b = W.heap.size := ⟨_, rfl⟩
 obtain ⟨b3, hb3⟩ : ∃ b, b = W.heap.size + 1 := ⟨_, rfl⟩
 obtain ⟨b4, hb4⟩ : ∃ b, b = W.heap.size + 1 + 1 := ⟨_, rfl⟩
 have hbW : Below W.heap.size W w1 := by rw [hw1]; exact balloc (balloc (balloc (Below.refl _ _) _) _) _
 have r2 : RowAt w1 b2 TRP [.slice X.ai G.init.length X.ci, .slice X.ae G.edges.length X.ce, .slice X.al G.labels.length X.cl, .slice X.as_ sets.length X.cs, .int .i64 A.sets, .slice X.bi A.init.length X.di, .slice X.bn A.nodes.length X.dn] := by rw [hw1, hb2]; exact ((RowAt.new #[.slice X.ai G.init.length X.ci, .slice X.ae G.edges.length X.ce, .slice X.al G.labels.length X.cl, .slice X.as_ sets.length X.cs, .int .i64 A.sets, .slice X.bi A.init.length X.di, .slice X.bn A.nodes.length X.dn] rfl).alloc _).alloc _
 have r3 : RowAt w1 b3 34 [.int .i64 bn, .int .i64 bd] := by rw [hw1, hb3]; exact (RowAt.new #[.int .i64 bn, .int .i64 bd] (by simp)).alloc _
 have r4s : Hid (b4 < w1.heap.size) := by show _ < _; rw [hw1, hb4]; simp
 have r4 : RowAt w1 b4 TRF zfc := by rw [hw1, hb4]; exact RowAt.new zfc.toArray (by simp)
 obtain ⟨res, hres⟩ : ∃ res, res = searchP G sets A bn bd := ⟨_, rfl⟩
 rw [← hres]
 replace hres := Lib.hid hres
 have HN := fun w => rheld_any w bn
 have HD := fun w => rheld_any w bd
 obtain ⟨hn, hhn⟩ : ∃ hn, hn = heldP bn := ⟨_, rfl⟩
 obtain ⟨hd, hhd⟩ : ∃ hd, hd = heldP bd := ⟨_, rfl⟩
 rw [← hhn] at HN
 rw [← hhd] at HD
 obtain ⟨Z, hZ⟩ : ∃ Z : RZ, Z = ⟨X, G, sets, A, ⟨hn, hd⟩⟩ := ⟨_, rfl⟩
 obtain ⟨V0, hV0⟩ : ∃ V0 : RV, V0 = ⟨none, 0, none, 0, none, 0, none, 0⟩ := ⟨_, rfl⟩
 have hS0 : scl Z V0 startS = [.slice X.ai G.init.length X.ci, .slice X.ae G.edges.length X.ce, .slice X.al G.labels.length X.cl, .slice X.as_ sets.length X.cs, .int .i64 A.sets, .slice X.bi A.init.length X.di, .slice X.bn A.nodes.length X.dn, .int .i64 (hn : Int), .int .i64 (hd : Int), .int .i64 0, .int .i64 0, .int .i64 0, .slice none 0 0, .slice none 0 0, .slice none 0 0, .slice none 0 0] := by rw [hZ, hV0]; rfl
 replace hw1 := Lib.hid hw1
 replace hb2 := Lib.hid hb2
 replace hb3 := Lib.hid hb3
 replace hb4 := Lib.hid hb4
 replace hbW := Lib.hid hbW
 replace r2 := Lib.hid r2
 replace r3 := Lib.hid r3
 replace r4 := Lib.hid r4
 replace HN := Lib.hid HN
 replace HD := Lib.hid HD
 replace hhn := Lib.hid hhn
 replace hhd := Lib.hid hhd
 replace hZ := Lib.hid hZ
 replace hV0 := Lib.hid hV0
 replace hS0 := Lib.hid hS0
 replace hR := Lib.hid hR
 replace NI := Lib.hid NI
 replace hC := Lib.hid hC
 replace hE := Lib.hid hE
 replace he := Lib.hid he
 replace hfl := Lib.hid hfl
 replace hfv := Lib.hid hfv
 go_enter Try.func15, Try.ntmps15
 go_upto_region 1 with (fail)
 change Code.wp _ _ _ _ (((W.alloc (.cells #[.slice X.ai G.init.length X.ci, .slice X.ae G.edges.length X.ce, .slice X.al G.labels.length X.cl, .slice X.as_ sets.length X.cs, .int .i64 A.sets, .slice X.bi A.init.length X.di, .slice X.bn A.nodes.length X.dn] TRP)).alloc (.cells #[.int .i64 bn, .int .i64 bd] 34)).alloc (.cells zfc.toArray TRF))
 rw [← hw1.out, ← hb4.out, ← hb3.out, ← hb2.out]
 clear hw1
 refine wp_region_dyn (by kernel_rfl) 10 (fun w' => Below w1.heap.size w1 w') (fun i => ([some (.agg #[.slice X.ai G.init.length X.ci, .slice X.ae G.edges.length X.ce, .slice X.al G.labels.length X.cl, .slice X.as_ sets.length X.cs, .int .i64 A.sets, .slice X.bi A.init.length X.di, .slice X.bn A.nodes.length X.dn]), some (.pointer (some ⟨b3, 0, none⟩)), some (.int .i64 bn), some (.int .i64 (hn : Int)), some (.pointer (some ⟨b3, 1, none⟩)), some (.int .i64 bd), some (.int .i64 (hd : Int)), some (.agg #[.slice X.ai G.init.length X.ci, .slice X.ae G.edges.length X.ce, .slice X.al G.labels.length X.cl, .slice X.as_ sets.length X.cs, .int .i64 A.sets, .slice X.bi A.init.length X.di, .slice X.bn A.nodes.length X.dn, .int .i64 (hn : Int), .int .i64 (hd : Int), .int .i64 0, .int .i64 0, .int .i64 0, .slice none 0 0, .slice none 0 0, .slice none 0 0, .slice none 0 0]), none, none] : List (Option Value)).getD i none) (fun i => ([false, false, false, false, false, false, false, false, true, true] : List Bool).getD i false) (BoxD w1.heap.size TRS zsc (scl Z V0 startS) 8 9) (by kernel_rfl) (by kernel_rfl) (by kernel_rfl) (Below.refl _ _).drew (fun rho => BoxD.start rho _) ?_ ?_ ?_
 ·intro i hi hdy
  match i, hi, hdy with
  | 0, _, _ =>
   refine ⟨_, rfl, fun L rho w h => h.pass (by decide) (by decide) (Below.refl _ _), ?_⟩
   intro o ho ac w' hR hF hX
   simp only [zqA, zqZ, zqI] at ho
   subst ho
   refine ⟨fun h => (by cases h), fun K hK => ?_⟩
   have e2 : ac.tmps.getD 2 undef = .pointer (some ⟨b2, 0, none⟩) := hF 2 (znd (by kernel_rfl))
   have d2 := zgD e2
   have q0 : w'.cell? ⟨b2, 0, none⟩ = some (.slice X.ai G.init.length X.ci) := (r2.out.below hR).cell 0
   have q1 : w'.cell? ⟨b2, 1, none⟩ = some (.slice X.ae G.edges.length X.ce) := (r2.out.below hR).cell 1
   have q2 : w'.cell? ⟨b2, 2, none⟩ = some (.slice X.al G.labels.length X.cl) := (r2.out.below hR).cell 2
   have q3 : w'.cell? ⟨b2, 3, none⟩ = some (.slice X.as_ sets.length X.cs) := (r2.out.below hR).cell 3
   have q4 : w'.cell? ⟨b2, 4, none⟩ = some (.int .i64 A.sets) := (r2.out.below hR).cell 4
   have q5 : w'.cell? ⟨b2, 5, none⟩ = some (.slice X.bi A.init.length X.di) := (r2.out.below hR).cell 5
   have q6 : w'.cell? ⟨b2, 6, none⟩ = some (.slice X.bn A.nodes.length X.dn) := (r2.out.below hR).cell 6
   clear hX hF
   go_simp
   exact hK
  | 1, _, _ =>
   refine ⟨_, rfl, fun L rho w h => h.pass (by decide) (by decide) (Below.refl _ _), ?_⟩
   intro o ho ac w' hR hF hX
   simp only [zqA, zqZ, zqS, zqI] at ho
   subst ho
   refine ⟨fun h => (by cases h), fun K hK => ?_⟩
   have e3 : ac.tmps.getD 3 undef = .pointer (some ⟨b3, 0, none⟩) := hF 3 (znd (by kernel_rfl))
   have d3 := zgD e3
   clear hX hF
   go_simp
   exact hK
  | 2, _, _ =>
   refine ⟨_, rfl, fun L rho w h => h.pass (by decide) (by decide) (Below.refl _ _), ?_⟩
   intro o ho ac w' hR hF hX
   simp only [zqA, zqZ, zqS, zqI] at ho
   subst ho
   refine ⟨fun h => (by cases h), fun K hK => ?_⟩
   have e12 : ac.tmps.getD 12 undef = .pointer (some ⟨b3, 0, none⟩) := hX 1 (zdp (by kernel_rfl)) _ rfl
   have d12 := zgD e12
   have q0 : w'.cell? ⟨b3, 0, none⟩ = some (.int .i64 bn) := (r3.out.below hR).cell 0
   clear hX hF
   go_simp
   exact hK
  | 3, _, _ =>
   refine ⟨_, rfl, fun L rho w h => h.pass (by decide) (by decide) (Below.refl _ _), ?_⟩
   intro o ho ac w' hR hF hX
   simp only [zqA, zqZ, zqS, zqI] at ho
   subst ho
   refine ⟨fun h => (by cases h), fun K hK => ?_⟩
   have e13 : ac.tmps.getD 13 undef = .int .i64 bn := hX 2 (zdp (by kernel_rfl)) _ rfl
   have d13 := zgD e13
   clear hX hF
   go_simp
   refine (HN.out w').mono ?_
   rintro e w9 ⟨rfl, rfl⟩
   exact hK
  | 4, _, _ =>
   refine ⟨_, rfl, fun L rho w h => h.pass (by decide) (by decide) (Below.refl _ _), ?_⟩
   intro o ho ac w' hR hF hX
   simp only [zqA, zqZ, zqS, zqI] at ho
   subst ho
   refine ⟨fun h => (by cases h), fun K hK => ?_⟩
   have e3 : ac.tmps.getD 3 undef = .pointer (some ⟨b3, 0, none⟩) := hF 3 (znd (by kernel_rfl))
   have d3 := zgD e3
   clear hX hF
   go_simp
   exact hK
  | 5, _, _ =>
   refine ⟨_, rfl, fun L rho w h => h.pass (by decide) (by decide) (Below.refl _ _), ?_⟩
   intro o ho ac w' hR hF hX
   simp only [zqA, zqZ, zqS, zqI] at ho
   subst ho
   refine ⟨fun h => (by cases h), fun K hK => ?_⟩
   have e15 : ac.tmps.getD 15 undef = .pointer (some ⟨b3, 1, none⟩) := hX 4 (zdp (by kernel_rfl)) _ rfl
   have d15 := zgD e15
   have q0 : w'.cell? ⟨b3, 1, none⟩ = some (.int .i64 bd) := (r3.out.below hR).cell 1
   clear hX hF
   go_simp
   exact hK
  | 6, _, _ =>
   refine ⟨_, rfl, fun L rho w h => h.pass (by decide) (by decide) (Below.refl _ _), ?_⟩
   intro o ho ac w' hR hF hX
   simp only [zqA, zqZ, zqS, zqI] at ho
   subst ho
   refine ⟨fun h => (by cases h), fun K hK => ?_⟩
   have e14 : ac.tmps.getD 14 undef = .int .i64 (hn : Int) := hX 3 (zdp (by kernel_rfl)) _ rfl
   have d14 := zgD e14
   have e16 : ac.tmps.getD 16 undef = .int .i64 bd := hX 5 (zdp (by kernel_rfl)) _ rfl
   have d16 := zgD e16
   clear hX hF
   go_simp
   refine (HD.out w').mono ?_
   rintro e w9 ⟨rfl, rfl⟩
   exact hK
  | 7, _, _ =>
   refine ⟨_, rfl, fun L rho w h => h.pass (by decide) (by decide) (Below.refl _ _), ?_⟩
   intro o ho ac w' hR hF hX
   simp only [zqA, zqZ, zqS, zqI] at ho
   subst ho
   refine ⟨fun h => (by cases h), fun K hK => ?_⟩
   have e11 : ac.tmps.getD 11 undef = .agg #[.slice X.ai G.init.length X.ci, .slice X.ae G.edges.length X.ce, .slice X.al G.labels.length X.cl, .slice X.as_ sets.length X.cs, .int .i64 A.sets, .slice X.bi A.init.length X.di, .slice X.bn A.nodes.length X.dn] := hX 0 (zdp (by kernel_rfl)) _ rfl
   have d11 := zgD e11
   have e14 : ac.tmps.getD 14 undef = .int .i64 (hn : Int) := hX 3 (zdp (by kernel_rfl)) _ rfl
   have d14 := zgD e14
   have e17 : ac.tmps.getD 17 undef = .int .i64 (hd : Int) := hX 6 (zdp (by kernel_rfl)) _ rfl
   have d17 := zgD e17
   clear hX hF
   go_simp
   exact hK
  | 8, _, hdy => exact znF hdy
  | 9, _, hdy => exact znF hdy
  | k + 10, hk, _ => omega
 ·intro i hi hdy
  match i, hi, hdy with
  | 0, _, hdy => exact znT hdy
  | 1, _, hdy => exact znT hdy
  | 2, _, hdy => exact znT hdy
  | 3, _, hdy => exact znT hdy
  | 4, _, hdy => exact znT hdy
  | 5, _, hdy => exact znT hdy
  | 6, _, hdy => exact znT hdy
  | 7, _, hdy => exact znT hdy
  | 8, _, _ =>
   intro o ho ac w' L rho hR hD hl hc hdep hX hF K hK
   simp only [zqA, zqZ, zqS, zqI] at ho
   subst ho
   go_simp
   exact hK _ _ (balloc hR _) (fun h => by cases h) (fun u h => by cases h) (BoxD.made hR.size (by decide) hl (fun h => hc 9 h 8 (zdp (by kernel_rfl))) zsc.toArray rfl)
  | 9, _, _ =>
   intro o ho ac w' L rho hR hD hl hc hdep hX hF K hK
   simp only [zqA, zqZ, zqS, zqI] at ho
   subst ho
   have r5 : ac.tmps.getD 5 undef = rho 8 := (hdep 8 (zdp (by kernel_rfl))).2
   have e11 : ac.tmps.getD 11 undef = .agg #[.slice X.ai G.init.length X.ci, .slice X.ae G.edges.length X.ce, .slice X.al G.labels.length X.cl, .slice X.as_ sets.length X.cs, .int .i64 A.sets, .slice X.bi A.init.length X.di, .slice X.bn A.nodes.length X.dn] := hX 0 (zdp (by kernel_rfl)) _ rfl
   have d11 := zgD e11
   have e12 : ac.tmps.getD 12 undef = .pointer (some ⟨b3, 0, none⟩) := hX 1 (zdp (by kernel_rfl)) _ rfl
   have d12 := zgD e12
   have e13 : ac.tmps.getD 13 undef = .int .i64 bn := hX 2 (zdp (by kernel_rfl)) _ rfl
   have d13 := zgD e13
   have e14 : ac.tmps.getD 14 undef = .int .i64 (hn : Int) := hX 3 (zdp (by kernel_rfl)) _ rfl
   have d14 := zgD e14
   have e15 : ac.tmps.getD 15 undef = .pointer (some ⟨b3, 1, none⟩) := hX 4 (zdp (by kernel_rfl)) _ rfl
   have d15 := zgD e15
   have e16 : ac.tmps.getD 16 undef = .int .i64 bd := hX 5 (zdp (by kernel_rfl)) _ rfl
   have d16 := zgD e16
   have e17 : ac.tmps.getD 17 undef = .int .i64 (hd : Int) := hX 6 (zdp (by kernel_rfl)) _ rfl
   have d17 := zgD e17
   have e18 : ac.tmps.getD 18 undef = .agg #[.slice X.ai G.init.length X.ci, .slice X.ae G.edges.length X.ce, .slice X.al G.labels.length X.cl, .slice X.as_ sets.length X.cs, .int .i64 A.sets, .slice X.bi A.init.length X.di, .slice X.bn A.nodes.length X.dn, .int .i64 (hn : Int), .int .i64 (hd : Int), .int .i64 0, .int .i64 0, .int .i64 0, .slice none 0 0, .slice none 0 0, .slice none 0 0, .slice none 0 0] := hX 7 (zdp (by kernel_rfl)) _ rfl
   have d18 := zgD e18
   obtain ⟨g, e1, hg, rg⟩ := hD.b (hdep 8 (zdp (by kernel_rfl))).1
   rw [e1] at r5
   rw [hl] at rg
   simp only [Bool.false_eq_true, if_false] at rg
   refine step_store (l := scl Z V0 startS) infoS1 rg rfl rfl (scl_one Z V0 startS) rfl 5 18 rfl r5 (e18.trans (by rw [hS0.out])) ?_
   intro w9' hrow hk
   refine hK _ _ (hk.below hR (fun j hj => by cases hj; exact hg)) (fun _ => rfl) (fun u h => by cases h) ⟨fun _ => ⟨g, ?_, hg, ?_⟩⟩
   ·rw [updV_ne (by decide)]; exact e1
   ·rw [updB_eq]; simpa using hrow
  | k + 10, hk, _ => omega
 ·rintro ⟨tm, df⟩ w2 rho hdf hsz hF hR9 hX hV hD
  obtain rfl : df = [] := hdf
  obtain ⟨q, rfl⟩ := frame59 tm hsz
  have hD' := hD (fun i => decide (i < 10)) (fun i hi => decide_eq_true hi) (fun i hi => decide_eq_false (by omega))
  obtain ⟨b5, e5, hb5, r5⟩ := hD'.b rfl
  have k5 : q 5 = _ := (hV 8 (by decide)).trans e5
  rw [k5]
  clear k5 e5
  have kk := zbk hF [0, 1, 2, 3, 4, 6, 7, 8, 9, 10, 19, 20, 21, 22, 23, 24, 25, 26, 27, 28, 29, 30, 31, 32, 33, 34, 35, 36, 37, 38, 39, 40, 41, 42, 43, 44, 45, 46, 47, 48, 49, 50, 51, 52, 53, 54, 55, 56, 57, 58] (by kernel_rfl)
  simp only [Bk, Array.getD_eq_getD_getElem?, zqA, zqS, zqZ, Option.getD_some] at kk
  simp only [kk]
  clear kk
  clear hF hX hV hD hsz hD'
  replace r5 : RowAt w2 b5 TRS (scl Z V0 startS) := r5
  have hbW2 := Lib.hid (btrans hbW.out hR9)
  have r22 := Lib.hid (r2.out.below hR9)
  have r42 := Lib.hid (r4.out.below hR9)
  replace r5 := Lib.hid r5
  replace hb5 := Lib.hid hb5
  clear hR9 r2 r4 r3 HN HD
  change wpAny _ _ _ _ 0 _ _ _
  refine ⟨by kernel_rfl, ?_⟩
  go_upto_region 2 with (fail)
  refine wp_region_list ?_
  have FI1 := Lib.hid (rfirst_any w2 X G sets A (hR.out.below hbW2.out))
  have q0 : w2.cell? ⟨b2, 0, none⟩ = some (.slice X.ai G.init.length X.ci) := r22.out.cell 0
  have q1 : w2.cell? ⟨b2, 1, none⟩ = some (.slice X.ae G.edges.length X.ce) := r22.out.cell 1
  have q2 : w2.cell? ⟨b2, 2, none⟩ = some (.slice X.al G.labels.length X.cl) := r22.out.cell 2
  have q3 : w2.cell? ⟨b2, 3, none⟩ = some (.slice X.as_ sets.length X.cs) := r22.out.cell 3
  have q4 : w2.cell? ⟨b2, 4, none⟩ = some (.int .i64 A.sets) := r22.out.cell 4
  have q5 : w2.cell? ⟨b2, 5, none⟩ = some (.slice X.bi A.init.length X.di) := r22.out.cell 5
  have q6 : w2.cell? ⟨b2, 6, none⟩ = some (.slice X.bn A.nodes.length X.dn) := r22.out.cell 6
  refine wpList_plain rfl (fun K hK => ?_)
  go_simp
  refine hK _ _ ?_
  clear hK K
  refine wpList_plain rfl (fun K hK => ?_)
  go_simp
  refine FI1.out.mono ?_
  rintro e w3 ⟨fa, fcp, rfl, fow, hb3'⟩
  refine hK _ _ ?_
  clear hK K
  refine wpList_plain rfl (fun K hK => ?_)
  go_simp
  refine hK _ _ ?_
  clear hK K
  refine wpList_nil ?_
  clear q0 q1 q2 q3 q4 q5 q6 FI1
  have PF := Lib.hid (PpsAt.of_own fow)
  have r53 := Lib.hid (r5.out.below hb3')
  have r43 := Lib.hid (r42.out.below hb3')
  have hbW3 := Lib.hid (btrans hbW2.out hb3')
  have hlo : Hid (W.heap.size ≤ b4 ∧ W.heap.size ≤ b5 ∧ b4 ≠ b5) := by
   have h1 := r5.out.lt; have h4 := hb4.out; have h5 := hb5.out; have h7 := r4s.out; have h6 := hbW.out.size
   exact ⟨by omega, by omega, by omega⟩
  have hpf : Hd (N45 b4 b5) w3 (fun w => PpsAt w fa (firstP G A)) := Hd.row fow rfl (fun j hj => by
   rcases hj with rfl | rfl
   ·exact r42.out.lt
   ·exact r5.out.lt)
  obtain ⟨fp, hfp⟩ : ∃ fp, fp = firstP G A := ⟨_, rfl⟩
  rw [← hfp] at hpf
  have ST : Hid (SH W Z C E res fp fa b4 b5 0 V0 startS w3) := by
   refine ⟨r53.out, r43.out, hpf, ?_, ?_, hbW3.out, hlo.out, ?_, NInv.start _ _ _, rfl, ?_⟩
   ·rw [hV0.out]; exact fun _ _ => ⟨fun h => absurd h (by simp [startS]), fun h => absurd h (by simp [startS]), fun h => absurd h (by simp [startS, way]), fun h => absurd h (by simp [startS, ats])⟩
   ·rw [hV0.out]; exact ⟨Nat.le_refl _, Nat.le_refl _⟩
   ·rw [hres.out, hZ.out, hfp]; simp only [List.drop_zero, searchP]; rw [hhn.out, hhd.out]
   ·rw [hfp]; show 0 + _ ≤ _; have := he.out; simpa using this
  have hfv' : Hid (∀ x ∈ fp, vPP G sets A x) := by rw [hfp]; exact hfv.out
  have hfl' : Hid (fp.length ≤ 1000000) := by rw [hfp]; exact hfl.out
  have hfI : (fp.length : Int) ≤ 1000000 := by have := hfl'.out; omega
  rw [← hfp]
  replace hfp := Lib.hid hfp
  clear fow hb3' r42 r5 r22 hpf PF r53 r43
  go_wp2
  go_loopw [7] (fun iv wr => ∃ (i : Nat) (V : RV) (s : NS), iv = .int .i64 (i : Int) ∧ i ≤ fp.length ∧ Hid (SH W Z C E res fp fa b4 b5 i V s wr)) (fun iv _ => fp.length - (intOf iv).toNat)
  case atStart => exact ⟨0, V0, startS, rfl, Nat.zero_le _, ST⟩
  case round =>
   obtain ⟨ix, V, s, rfl, hix, sh⟩ := hrel
   clear ST hbW3
   by_cases hil : ix < fp.length
   ·obtain ⟨fb, fo, hfa, _, f0, f1, f2⟩ := (sh.out.pf.now).at ix hil
    obtain ⟨x, hx⟩ : ∃ x, x = fp[ix] := ⟨_, rfl⟩
    rw [← hx] at f0 f1 f2
    have hvx : Hid (vPP G sets A x) := by rw [hx]; exact hfv'.out _ (List.getElem_mem hil)
    have hdr : Hid (fp.drop ix = x :: fp.drop (ix + 1)) := by rw [hx]; exact List.drop_eq_getElem_cons hil
    have hiI : (ix : Int) < (fp.length : Int) := by omega
    subst hfa
    replace f0 := Lib.hid f0
    replace f1 := Lib.hid f1
    replace f2 := Lib.hid f2
    replace hx := Lib.hid hx
    have hrb : Hid (s.reached.length ≤ 65536) := by have := sh.out.inv.nr; have := sh.out.inv.nb; have h3 : Z.b.n ≤ 65536 := (by rw [hZ.out]; show hn ≤ _; rw [hhn.out]; unfold heldP; omega); show _ ≤ _; omega
    go_upto_region 6 with (fail)
    refine wp_region_kp (by kernel_rfl) 6 [.fix (.pointer (some ⟨b5, 12, none⟩)), .fix (.slice V.ra s.reached.length V.rc), .fix (.slice (some ⟨fb, fo, none⟩) fp.length fcp), .fix (.int .i64 (ix : Int)), .fix (.pointer (some ⟨fb, fo + ix * 3, none⟩)), .fix (.agg #[.int .i64 x.node, .int .i64 x.state, .int .i64 x.turn])] (by kernel_rfl) (by kernel_rfl) (by kernel_rfl) ?_ ?_
    ·intro i hi
     match i, hi with
     | 0, _ =>
      intro o ho ac w' hR hF hD K hK
      simp only [zqA, zqZ, zqI] at ho
      subst ho
      have e5 : ac.tmps.getD 5 undef = .pointer (some ⟨b5, 0, none⟩) := hF 5 (znd (by kernel_rfl))
      have d5 := zgD e5
      clear hD hF
      go_simp
      exact hK _ _ (Below.refl _ _) rfl
     | 1, _ =>
      intro o ho ac w' hR hF hD K hK
      simp only [zqA, zqZ, zqS, zqI] at ho
      subst ho
      have e27 : ac.tmps.getD 27 undef = .pointer (some ⟨b5, 12, none⟩) := hD 0 (zdp (by kernel_rfl)) 27 rfl
      have d27 := zgD e27
      clear hD hF
      have q12 : w'.cell? ⟨b5, 12, none⟩ = some (.slice V.ra s.reached.length V.rc) := (sh.out.r5.below hR).cell 12
      go_simp
      exact hK _ _ (Below.refl _ _) rfl
     | 2, _ =>
      intro o ho ac w' hR hF hD K hK
      simp only [zqA, zqZ, zqS, zqI] at ho
      subst ho
      have e6 : ac.tmps.getD 6 undef = .slice (some ⟨fb, fo, none⟩) fp.length fcp := hF 6 (znd (by kernel_rfl))
      have d6 := zgD e6
      clear hD hF
      go_simp
      exact hK _ _ (Below.refl _ _) rfl
     | 3, _ =>
      intro o ho ac w' hR hF hD K hK
      simp only [zqA, zqZ, zqS, zqI] at ho
      subst ho
      have e7 : ac.tmps.getD 7 undef = .int .i64 (ix : Int) := hF 7 (znd (by kernel_rfl))
      have d7 := zgD e7
      clear hD hF
      go_simp
      exact hK _ _ (Below.refl _ _) rfl
     | 4, _ =>
      intro o ho ac w' hR hF hD K hK
      simp only [zqA, zqZ, zqS, zqI] at ho
      subst ho
      have e29 : ac.tmps.getD 29 undef = .slice (some ⟨fb, fo, none⟩) fp.length fcp := hD 2 (zdp (by kernel_rfl)) 29 rfl
      have d29 := zgD e29
      have e30 : ac.tmps.getD 30 undef = .int .i64 (ix : Int) := hD 3 (zdp (by kernel_rfl)) 30 rfl
      have d30 := zgD e30
      clear hD hF
      go_simp
      exact hK _ _ (Below.refl _ _) rfl
     | 5, _ =>
      intro o ho ac w' hR hF hD K hK
      simp only [zqA, zqZ, zqS, zqI] at ho
      subst ho
      have e31 : ac.tmps.getD 31 undef = .pointer (some ⟨fb, fo + ix * 3, none⟩) := hD 4 (zdp (by kernel_rfl)) 31 rfl
      have d31 := zgD e31
      clear hD hF
      have q0 : w'.cell? ⟨fb, fo + ix * 3, none⟩ = some (.int .i64 x.node) := bcell hR f0.out
      have q1 : w'.cell? ⟨fb, fo + ix * 3 + 1, none⟩ = some (.int .i64 x.state) := bcell hR f1.out
      have q2 : w'.cell? ⟨fb, fo + ix * 3 + 2, none⟩ = some (.int .i64 x.turn) := bcell hR f2.out
      go_simp
      exact hK _ _ (Below.refl _ _) rfl
     | k + 6, hk => omega
    ·rintro ⟨tm, df⟩ w4 hdf hsz hF hR9 hV
     obtain rfl : df = [] := hdf
     obtain ⟨q, rfl⟩ := frame59 tm hsz
     have k0 : q 27 = .pointer (some ⟨b5, 12, none⟩) := hV 0 27 (by decide) rfl
     have k1 : q 28 = .slice V.ra s.reached.length V.rc := hV 1 28 (by decide) rfl
     have k2 : q 29 = .slice (some ⟨fb, fo, none⟩) fp.length fcp := hV 2 29 (by decide) rfl
     have k3 : q 30 = .int .i64 (ix : Int) := hV 3 30 (by decide) rfl
     have k4 : q 31 = .pointer (some ⟨fb, fo + ix * 3, none⟩) := hV 4 31 (by decide) rfl
     have k5 : q 32 = .agg #[.int .i64 x.node, .int .i64 x.state, .int .i64 x.turn] := hV 5 32 (by decide) rfl
     rw [k0, k1, k2, k3, k4, k5]
     clear k0 k1 k2 k3 k4 k5
     have kk := zbk hF [0, 1, 2, 3, 4, 5, 6, 7, 11, 12, 13, 14, 15, 16, 17, 18, 19, 20, 56, 57, 58] (by kernel_rfl)
     simp only [Bk, Array.getD_eq_getD_getElem?, zqA, zqS, zqZ, Option.getD_some] at kk
     simp only [kk]
     clear kk
     clear hF hV hsz
     have sh4 := Lib.hid (sh.out.below hR9)
     have PL := Lib.hid (place_any w4 V.ra V.rc s.reached (sh4.out.hv.now).r x (by have := hrb.out; omega))
     change wpAny _ _ _ _ 2 _ _ _
     refine wpAny_ready (rs := [6]) (by kernel_rfl) (by simp) ?_
     refine AllReady.cons (i := 6) rfl (fun K hK => ?_) AllReady.nil
     go_simp
     refine PL.out.mono ?_
     rintro e w5 ⟨hp9, hb5'⟩
     have sh5 := Lib.hid (sh4.out.below hb5')
     replace hb5' := Lib.hid (btrans hR9 hb5')
     clear sh4 hR9
     rcases hp9 with ⟨hm, rfl⟩ | ⟨hm, rfl⟩
     ·obtain ⟨kj, hkj⟩ : ∃ kj, kj = s.reached.idxOf x := ⟨_, rfl⟩
      rw [← hkj]
      have hk0 : (0 : Int) ≤ (kj : Int) := by omega
      clear hkj
      refine hK _ _ ?_
      clear hK K PL
      refine wpAny_ready (rs := [7]) (by kernel_rfl) (by simp) ?_
      refine AllReady.cons (i := 7) rfl (fun K hK => ?_) AllReady.nil
      go_simp
      refine hK _ _ ?_
      clear hK K
      refine ⟨by kernel_rfl, ?_⟩
      have hwi : IntKind.i64.wrap ((ix : Int) + 1) = (ix : Int) + 1 := IntWalk.i64_in _ (by omega)
      go_wp2
      go_roundw
      case rel =>
       refine ⟨ix + 1, V, s, by go_num, by omega, ?_⟩
       have h := sh5.out
       refine ⟨h.r5, h.r4, h.pf, h.hv, h.hc, h.bw, h.lo, ?_, h.inv, h.ho, ?_⟩
       ·have := h.hr
        rw [hdr.out, searchF_skip hm] at this
        exact this
       ·have := h.he
        have : (fp.length + 1 - (ix + 1)) * (FO * (FI + 2)) ≤ (fp.length + 1 - ix) * (FO * (FI + 2)) := Nat.mul_le_mul_right _ (by omega)
        omega
      case measure => simp [intOf]; omega
     ·refine hK _ _ ?_
      clear hK K PL
      replace hm := Lib.hid hm
      refine wpAny_ready (rs := [7]) (by kernel_rfl) (by simp) ?_
      refine AllReady.cons (i := 7) rfl (fun K hK => ?_) AllReady.nil
      go_simp
      refine hK _ _ ?_
      clear hK K
      refine ⟨by kernel_rfl, ?_⟩
      have hZb : Hid (Z.b.n ≤ 65536 ∧ Z.b.d ≤ 65536) := by
       rw [hZ.out]
       show hn ≤ 65536 ∧ hd ≤ 65536
       rw [hhn.out, hhd.out]; unfold heldP; omega
      obtain ⟨cp, hcp⟩ : ∃ cp, cp = comeP Z.b s x := ⟨_, rfl⟩
      have CM : Hid (∀ (M : Nat → Prop) v, Below w5.heap.size w5 v → (∀ j, j < w5.heap.size → M j → N45 b4 b5 j) → (∀ j, M j → j < v.heap.size) → Calls Try.prog 42 #[.agg (scl Z V s).toArray, .agg #[.int .i64 x.node, .int .i64 x.state, .int .i64 x.turn]] v (RGives M v Z cp)) := fun M v hb hM hlt => by
       rw [hcp]
       exact rcome_any M v Z V s x (sh5.out.hv.into hb hM) sh5.out.hc hlt hZb.out.1 hZb.out.2 hrb.out (by rw [sh5.out.ho]; decide)
      replace hcp := Lib.hid hcp
      have hlt0 : Hid (∀ j, N45 b4 b5 j → j < w5.heap.size) := fun j hj => by
       rcases hj with rfl | rfl
       ·exact sh5.out.r4.lt
       ·exact sh5.out.r5.lt
      go_upto_region 7 with (fail)
      refine wp_region_dyn (by kernel_rfl) 14 (fun w' => Below w5.heap.size w5 w') (fun i => ([some (.agg (scl Z V s).toArray), some (.slice (some ⟨fb, fo, none⟩) fp.length fcp), some (.int .i64 (ix : Int)), some (.pointer (some ⟨fb, fo + ix * 3, none⟩)), some (.agg #[.int .i64 x.node, .int .i64 x.state, .int .i64 x.turn]), none, none, none, none, some (.bool cp.2.isSome), none, none, none, none] : List (Option Value)).getD i none) (fun i => ([false, false, false, false, false, true, true, true, true, true, true, true, true, true] : List Bool).getD i false) (ScD (N45 b4 b5) Z cp w5.heap.size) (by kernel_rfl) (by kernel_rfl) (by kernel_rfl) (Below.refl _ _).drew (fun rho => ScD.start rho _) ?_ ?_ ?_
      ·intro i hi hdy
       match i, hi, hdy with
       | 0, _, _ =>
        refine ⟨_, rfl, fun L rho w h => h.pass (by decide) (by decide) (by decide) (by decide) (by decide) (by decide) (by decide) (by decide), ?_⟩
        intro o ho ac w' hR hF hX
        simp only [zqA, zqZ, zqI] at ho
        subst ho
        refine ⟨fun h => (by cases h), fun K hK => ?_⟩
        have e5 : ac.tmps.getD 5 undef = .pointer (some ⟨b5, 0, none⟩) := hF 5 (znd (by kernel_rfl))
        have d5 := zgD e5
        clear hX hF
        exact step_load undS infoS1 (sh5.out.r5.below hR) rfl rfl 5 rfl e5 hK
       | 1, _, _ =>
        refine ⟨_, rfl, fun L rho w h => h.pass (by decide) (by decide) (by decide) (by decide) (by decide) (by decide) (by decide) (by decide), ?_⟩
        intro o ho ac w' hR hF hX
        simp only [zqA, zqZ, zqS, zqI] at ho
        subst ho
        refine ⟨fun h => (by cases h), fun K hK => ?_⟩
        have e6 : ac.tmps.getD 6 undef = .slice (some ⟨fb, fo, none⟩) fp.length fcp := hF 6 (znd (by kernel_rfl))
        have d6 := zgD e6
        clear hX hF
        go_simp
        exact hK
       | 2, _, _ =>
        refine ⟨_, rfl, fun L rho w h => h.pass (by decide) (by decide) (by decide) (by decide) (by decide) (by decide) (by decide) (by decide), ?_⟩
        intro o ho ac w' hR hF hX
        simp only [zqA, zqZ, zqS, zqI] at ho
        subst ho
        refine ⟨fun h => (by cases h), fun K hK => ?_⟩
        have e7 : ac.tmps.getD 7 undef = .int .i64 (ix : Int) := hF 7 (znd (by kernel_rfl))
        have d7 := zgD e7
        clear hX hF
        go_simp
        exact hK
       | 3, _, _ =>
        refine ⟨_, rfl, fun L rho w h => h.pass (by decide) (by decide) (by decide) (by decide) (by decide) (by decide) (by decide) (by decide), ?_⟩
        intro o ho ac w' hR hF hX
        simp only [zqA, zqZ, zqS, zqI] at ho
        subst ho
        refine ⟨fun h => (by cases h), fun K hK => ?_⟩
        have e37 : ac.tmps.getD 37 undef = .slice (some ⟨fb, fo, none⟩) fp.length fcp := hX 1 (zdp (by kernel_rfl)) _ rfl
        have d37 := zgD e37
        have e38 : ac.tmps.getD 38 undef = .int .i64 (ix : Int) := hX 2 (zdp (by kernel_rfl)) _ rfl
        have d38 := zgD e38
        clear hX hF
        go_simp
        exact hK
       | 4, _, _ =>
        refine ⟨_, rfl, fun L rho w h => h.pass (by decide) (by decide) (by decide) (by decide) (by decide) (by decide) (by decide) (by decide), ?_⟩
        intro o ho ac w' hR hF hX
        simp only [zqA, zqZ, zqS, zqI] at ho
        subst ho
        refine ⟨fun h => (by cases h), fun K hK => ?_⟩
        have e39 : ac.tmps.getD 39 undef = .pointer (some ⟨fb, fo + ix * 3, none⟩) := hX 3 (zdp (by kernel_rfl)) _ rfl
        have d39 := zgD e39
        have q0 : w'.cell? ⟨fb, fo + ix * 3, none⟩ = some (.int .i64 x.node) := bcell (btrans hb5'.out hR) f0.out
        have q1 : w'.cell? ⟨fb, fo + ix * 3 + 1, none⟩ = some (.int .i64 x.state) := bcell (btrans hb5'.out hR) f1.out
        have q2 : w'.cell? ⟨fb, fo + ix * 3 + 2, none⟩ = some (.int .i64 x.turn) := bcell (btrans hb5'.out hR) f2.out
        clear hX hF
        go_simp
        exact hK
       | 5, _, hdy => exact znF hdy
       | 6, _, hdy => exact znF hdy
       | 7, _, hdy => exact znF hdy
       | 8, _, hdy => exact znF hdy
       | 9, _, hdy => exact znF hdy
       | 10, _, hdy => exact znF hdy
       | 11, _, hdy => exact znF hdy
       | 12, _, hdy => exact znF hdy
       | 13, _, hdy => exact znF hdy
       | k + 14, hk, _ => omega
      ·intro i hi hdy
       match i, hi, hdy with
       | 0, _, hdy => exact znT hdy
       | 1, _, hdy => exact znT hdy
       | 2, _, hdy => exact znT hdy
       | 3, _, hdy => exact znT hdy
       | 4, _, hdy => exact znT hdy
       | 5, _, _ =>
        intro o ho ac w' L rho hR hD hl hc hdep hX hF K hK
        simp only [zqA, zqZ, zqS, zqI] at ho
        subst ho
        have e36 : ac.tmps.getD 36 undef = .agg (scl Z V s).toArray := hX 0 (zdp (by kernel_rfl)) _ rfl
        have d36 := zgD e36
        have e40 : ac.tmps.getD 40 undef = .agg #[.int .i64 x.node, .int .i64 x.state, .int .i64 x.turn] := hX 4 (zdp (by kernel_rfl)) _ rfl
        have d40 := zgD e40
        go_simp
        refine (CM.out (NL (N45 b4 b5) L rho) w' hR hD.nlow (hD.nl (fun j hj => by have := hlt0.out j hj; have := hR.size; omega))).mono ?_
        rintro e w9 ⟨V9, fc9, rfl, h1, h2, h3, h4, h5, h6⟩
        exact hK _ _ (btrans hR h3) (fun h => by cases h) (fun u h => by cases h) (hD.call h3 ⟨h4, h5⟩ ⟨h1, h2, h6⟩)
       | 6, _, _ =>
        intro o ho ac w' L rho hR hD hl hc hdep hX hF K hK
        simp only [zqA, zqZ, zqS, zqI] at ho
        subst ho
        have r41 : ac.tmps.getD 41 undef = rho 5 := (hdep 5 (zdp (by kernel_rfl))).2
        obtain ⟨V7, fc7, e7, p7, q7⟩ := hD.t5 (hdep 5 (zdp (by kernel_rfl))).1
        rw [e7] at r41
        have d41 := zgD r41
        go_simp
        exact hK _ _ hR (fun h => by cases h) (fun u h => by cases h) (hD.move6 p7 q7)
       | 7, _, _ =>
        intro o ho ac w' L rho hR hD hl hc hdep hX hF K hK
        simp only [zqA, zqZ, zqS, zqI] at ho
        subst ho
        have r35 : ac.tmps.getD 35 undef = rho 6 := (hdep 6 (zdp (by kernel_rfl))).2
        obtain ⟨V7, fc7, e7, p7, q7⟩ := hD.t6 (hdep 6 (zdp (by kernel_rfl))).1
        rw [e7] at r35
        have d35 := zgD r35
        go_simp
        exact hK _ _ hR (fun h => by cases h) (fun u h => by cases h) (hD.ext7 p7)
       | 8, _, _ =>
        intro o ho ac w' L rho hR hD hl hc hdep hX hF K hK
        simp only [zqA, zqZ, zqS, zqI] at ho
        subst ho
        have r35 : ac.tmps.getD 35 undef = rho 6 := (hdep 6 (zdp (by kernel_rfl))).2
        obtain ⟨V7, fc7, e7, p7, q7⟩ := hD.t6 (hdep 6 (zdp (by kernel_rfl))).1
        rw [e7] at r35
        have d35 := zgD r35
        go_simp
        exact hK _ _ hR (fun h => by cases h) (fun u h => by cases h) (hD.ext8 q7)
       | 9, _, _ =>
        intro o ho ac w' L rho hR hD hl hc hdep hX hF K hK
        simp only [zqA, zqZ, zqS, zqI] at ho
        subst ho
        have r35 : ac.tmps.getD 35 undef = rho 6 := (hdep 6 (zdp (by kernel_rfl))).2
        obtain ⟨V7, fc7, e7, p7, q7⟩ := hD.t6 (hdep 6 (zdp (by kernel_rfl))).1
        rw [e7] at r35
        have d35 := zgD r35
        go_simp
        exact hK _ _ hR (fun h => by cases h) (fun u h => by cases h; rfl) (hD.pass (by decide) (by decide) (by decide) (by decide) (by decide) (by decide) (by decide) (by decide))
       | 10, _, _ =>
        intro o ho ac w' L rho hR hD hl hc hdep hX hF K hK
        simp only [zqA, zqZ, zqS, zqI] at ho
        subst ho
        go_simp
        exact hK _ _ (balloc hR _) (fun h => by cases h) (fun u h => by cases h) (hD.alloc10 hl (fun h => hc 12 h 10 (zdp (by kernel_rfl))) hR.size)
       | 11, _, _ =>
        intro o ho ac w' L rho hR hD hl hc hdep hX hF K hK
        simp only [zqA, zqZ, zqS, zqI] at ho
        subst ho
        go_simp
        exact hK _ _ (balloc hR _) (fun h => by cases h) (fun u h => by cases h) (hD.alloc11 hl (fun h => hc 13 h 11 (zdp (by kernel_rfl))) hR.size)
       | 12, _, _ =>
        intro o ho ac w' L rho hR hD hl hc hdep hX hF K hK
        simp only [zqA, zqZ, zqS, zqI] at ho
        subst ho
        have r8 : ac.tmps.getD 8 undef = rho 10 := (hdep 10 (zdp (by kernel_rfl))).2
        have r9 : ac.tmps.getD 9 undef = rho 11 := (hdep 11 (zdp (by kernel_rfl))).2
        have r35 : ac.tmps.getD 35 undef = rho 6 := (hdep 6 (zdp (by kernel_rfl))).2
        have e36 : ac.tmps.getD 36 undef = .agg (scl Z V s).toArray := hX 0 (zdp (by kernel_rfl)) _ rfl
        have d36 := zgD e36
        have e37 : ac.tmps.getD 37 undef = .slice (some ⟨fb, fo, none⟩) fp.length fcp := hX 1 (zdp (by kernel_rfl)) _ rfl
        have d37 := zgD e37
        have e38 : ac.tmps.getD 38 undef = .int .i64 (ix : Int) := hX 2 (zdp (by kernel_rfl)) _ rfl
        have d38 := zgD e38
        have e39 : ac.tmps.getD 39 undef = .pointer (some ⟨fb, fo + ix * 3, none⟩) := hX 3 (zdp (by kernel_rfl)) _ rfl
        have d39 := zgD e39
        have e40 : ac.tmps.getD 40 undef = .agg #[.int .i64 x.node, .int .i64 x.state, .int .i64 x.turn] := hX 4 (zdp (by kernel_rfl)) _ rfl
        have d40 := zgD e40
        have r41 : ac.tmps.getD 41 undef = rho 5 := (hdep 5 (zdp (by kernel_rfl))).2
        have r42 : ac.tmps.getD 42 undef = rho 7 := (hdep 7 (zdp (by kernel_rfl))).2
        obtain ⟨V7, e7, p7⟩ := hD.t7 (hdep 7 (zdp (by kernel_rfl))).1
        have q10 := (hdep 10 (zdp (by kernel_rfl))).1
        obtain ⟨g, e10, hg, h3, _⟩ := hD.b10 q10
        refine step_store (l := scl Z V7 cp.1) infoS1 (h3 hl) rfl rfl (scl_one _ _ _) rfl 8 42 rfl (r8.trans e10) (r42.trans e7) ?_
        intro w9' hrow hk
        exact hK _ _ (hk.below hR (fun j hj => by cases hj; exact hg)) (fun _ => rfl) (fun u h => by cases h) (hD.store12 hl q10 e10 hk hrow p7)
       | 13, _, _ =>
        intro o ho ac w' L rho hR hD hl hc hdep hX hF K hK
        simp only [zqA, zqZ, zqS, zqI] at ho
        subst ho
        have r8 : ac.tmps.getD 8 undef = rho 10 := (hdep 10 (zdp (by kernel_rfl))).2
        have r9 : ac.tmps.getD 9 undef = rho 11 := (hdep 11 (zdp (by kernel_rfl))).2
        have r35 : ac.tmps.getD 35 undef = rho 6 := (hdep 6 (zdp (by kernel_rfl))).2
        have e36 : ac.tmps.getD 36 undef = .agg (scl Z V s).toArray := hX 0 (zdp (by kernel_rfl)) _ rfl
        have d36 := zgD e36
        have e37 : ac.tmps.getD 37 undef = .slice (some ⟨fb, fo, none⟩) fp.length fcp := hX 1 (zdp (by kernel_rfl)) _ rfl
        have d37 := zgD e37
        have e38 : ac.tmps.getD 38 undef = .int .i64 (ix : Int) := hX 2 (zdp (by kernel_rfl)) _ rfl
        have d38 := zgD e38
        have e39 : ac.tmps.getD 39 undef = .pointer (some ⟨fb, fo + ix * 3, none⟩) := hX 3 (zdp (by kernel_rfl)) _ rfl
        have d39 := zgD e39
        have e40 : ac.tmps.getD 40 undef = .agg #[.int .i64 x.node, .int .i64 x.state, .int .i64 x.turn] := hX 4 (zdp (by kernel_rfl)) _ rfl
        have d40 := zgD e40
        have r41 : ac.tmps.getD 41 undef = rho 5 := (hdep 5 (zdp (by kernel_rfl))).2
        have r42 : ac.tmps.getD 42 undef = rho 7 := (hdep 7 (zdp (by kernel_rfl))).2
        have r43 : ac.tmps.getD 43 undef = rho 8 := (hdep 8 (zdp (by kernel_rfl))).2
        obtain ⟨fc7, e7, q7⟩ := hD.t8 (hdep 8 (zdp (by kernel_rfl))).1
        have q11 := (hdep 11 (zdp (by kernel_rfl))).1
        obtain ⟨g, e10, hg, h3, _⟩ := hD.b11 q11
        refine step_store (l := fc7) infoF1 (h3 hl) rfl q7.1 q7.2.1 rfl 9 43 rfl (r9.trans e10) (r43.trans e7) ?_
        intro w9' hrow hk
        exact hK _ _ (hk.below hR (fun j hj => by cases hj; exact hg)) (fun _ => rfl) (fun u h => by cases h) (hD.store13 hl q11 e10 hk hrow q7)
       | k + 14, hk, _ => omega
      ·rintro ⟨tm, df⟩ w6 rho hdf hsz hF hR9 hX hV hD
       obtain rfl : df = [] := hdf
       obtain ⟨q, rfl⟩ := frame59 tm hsz
       have hD' := hD (fun i => decide (i < 14)) (fun i hi => decide_eq_true hi) (fun i hi => decide_eq_false (by omega))
       obtain ⟨g8, e8, hg8, _, h12⟩ := hD'.b10 rfl
       obtain ⟨V', r8, pv⟩ := h12 rfl
       obtain ⟨g9, e9, hg9, _, h13⟩ := hD'.b11 rfl
       obtain ⟨fc, r9, qf⟩ := h13 rfl
       have hNL : ∀ j, N47 b4 b5 g8 g9 j → NL (N45 b4 b5) (fun i => decide (i < 14)) rho j := fun j hj => by
        rcases hj with hj | rfl | rfl
        ·exact .inl hj
        ·exact .inr (.inl ⟨rfl, e8⟩)
        ·exact .inr (.inr ⟨rfl, e9⟩)
       replace pv := Lib.hid (pv.into (Below.refl _ _) (fun j _ hj => hNL j hj))
       replace qf := Lib.hid (qf.into (Below.refl _ _) (fun j _ hj => hNL j hj))
       have k8 : q 8 = _ := (hV 10 (by decide)).trans e8
       have k9 : q 9 = _ := (hV 11 (by decide)).trans e9
       have k44 : q 44 = .bool cp.2.isSome := hX 9 _ (by decide) rfl
       rw [k8, k9, k44]
       clear k8 k9 k44 e8 e9 h12 h13 hD' hNL
       have kk := zbk hF [0, 1, 2, 3, 4, 5, 6, 7, 11, 12, 13, 14, 15, 16, 17, 18, 19, 20, 56, 57, 58] (by kernel_rfl)
       simp only [Bk, Array.getD_eq_getD_getElem?, zqA, zqS, zqZ, Option.getD_some] at kk
       simp only [kk]
       clear kk
       clear hF hX hV hD hsz
       have hap := Lib.hid (apartSF r8 r9)
       have hRb := Lib.hid (btrans hb5'.out hR9)
       have sh6 := Lib.hid (sh5.out.below hR9)
       replace r8 := Lib.hid r8
       replace r9 := Lib.hid r9
       replace hg8 := Lib.hid hg8
       replace hg9 := Lib.hid hg9
       replace hR9 := Lib.hid hR9
       clear sh CM
       change wpAny _ _ _ _ 1 _ _ _
       refine wpAny_ready (rs := [14]) (by kernel_rfl) (by simp) ?_
       refine AllReady.cons (i := 14) rfl (fun K hK => ?_) AllReady.nil
       go_simp
       refine hK _ _ ?_
       clear hK K
       refine ⟨by kernel_rfl, ?_⟩
       obtain ⟨s1, o⟩ := cp
       cases o with
       | some f =>
        have hov := Lib.hid (sh5.out.over hdr.out hm.out (fromF_some hcp.out.symm))
        go_upto_region 11 with (fail)
        refine wp_region_list ?_
        refine list_load undF infoF1 r9.out qf.out.1 rfl 9 rfl rfl ?_
        refine list_store (l := fc) infoF1 sh6.out.r4 rfl qf.out.1 qf.out.2.1 rfl 4 54 rfl rfl rfl ?_
        intro wz qz kz
        refine wpList_nil ?_
        have z3 : Below W.heap.size W wz := kz.below sh6.out.bw (fun j hj => by cases hj; exact hlo.out.1)
        have kz' := Lib.hid (show Keeps _ wz (N47 b4 b5 g8 g9) from ⟨kz.os, kz.tape, kz.output, kz.size, fun j hj hn => kz.block j hj (fun e => hn (.inl (.inl e)))⟩)
        replace qz := Lib.hid qz
        clear kz
        go_wp2
        refine bodyPost_ret (v := .agg (List.toArray fc)) (results1 (a := 4) (by kernel_rfl) rfl (loadVar_whole undF infoF1 qz.out qf.out.1)) rfl ?_
        rw [hov.out]
        exact ⟨_, rfl, qf.out.1, qf.out.2.1, z3, qf.out.out rfl kz'.out⟩
       | none =>
        obtain ⟨q1, q2, hs1⟩ := comeP_none hcp.out.symm
        have hfo := Lib.hid (fromF_none (inq := inP Z.G Z.sets Z.A) (nx := nextP Z.G Z.sets Z.A) hcp.out.symm)
        have hRZ : RpA w6 Z.X Z.G Z.sets Z.A := by rw [hZ.out]; exact hR.out.below sh6.out.bw
        have hNZ : Nice (nextP Z.G Z.sets Z.A) (vPP Z.G Z.sets Z.A) C := by rw [hZ.out]; exact NI.out
        have hvz : vPP Z.G Z.sets Z.A x := by rw [hZ.out]; exact hvx.out
        have hlt6 : ∀ j, N47 b4 b5 g8 g9 j → j < w6.heap.size := fun j hj => by
         rcases hj with hj | rfl | rfl
         ·have := hlt0.out j hj; have := hR9.out.size; omega
         ·exact r8.out.lt
         ·exact r9.out.lt
        have hmu : muO C s1 < FO := by rw [hs1]; exact muO_start C (reachS s x) x sh6.out.ho hC.out
        have hin : NInv Z.b (nextP Z.G Z.sets Z.A) (vPP Z.G Z.sets Z.A) s1 := by rw [hs1]; exact sh6.out.inv.come hm.out hvz q1 q2
        have hee : s1.edges + FO * (FI + 1) ≤ E := by rw [hs1]; exact sh6.out.ehe hil
        have RT := router_any (N47 b4 b5 g8 g9) w6 Z C E V' s1 hRZ hNZ hC.out hE.out pv.out.1 pv.out.2 hlt6 hZb.out.1 hZb.out.2 hin hmu hee
        obtain ⟨op, hop⟩ : ∃ op, op = outerF Z.b (nextP Z.G Z.sets Z.A) (inP Z.G Z.sets Z.A) FO s1 := ⟨_, rfl⟩
        rw [← hop] at RT
        replace hop := Lib.hid (hfo.out.trans hop.symm)
        replace RT := Lib.hid RT
        replace hNZ := Lib.hid hNZ
        replace hvz := Lib.hid hvz
        clear hRZ hlt6 hmu hin hee hs1 q1 q2 hfo
        go_upto_region 9 with (fail)
        refine wp_region_list ?_
        refine list_load undS infoS1 r8.out rfl rfl 8 rfl rfl ?_
        refine wpList_plain rfl (fun K hK => ?_)
        go_simp
        refine RT.out.mono ?_
        rintro e w7 ⟨sc, fc2, rfl, h16, h1c, h7, h7c, hb7, hno, hso⟩
        refine hK _ _ ?_
        clear hK K
        refine wpList_plain rfl (fun K hK => ?_)
        go_simp
        refine hK _ _ ?_
        clear hK K
        refine wpList_plain rfl (fun K hK => ?_)
        go_simp
        refine hK _ _ ?_
        clear hK K
        refine wpList_plain rfl (fun K hK => ?_)
        go_simp
        refine hK _ _ ?_
        clear hK K
        refine wpList_plain rfl (fun K hK => ?_)
        go_simp
        refine hK _ _ ?_
        clear hK K
        refine list_store (l := sc) infoS1 (r8.out.below hb7) rfl h16 h1c rfl 8 50 rfl rfl rfl ?_
        intro wx qa ka
        refine list_store (l := fc2) infoF1 ((r9.out.below hb7).keeps ka (fun e => hap.out e.symm)) qf.out.1 h7 h7c rfl 9 51 rfl rfl rfl ?_
        intro wy qb kb
        refine wpList_plain rfl (fun K hK => ?_)
        go_simp
        refine hK _ _ ?_
        clear hK K
        refine wpList_nil ?_
        have hb5y : Below w5.heap.size w5 wy := kb.below (ka.below (btrans hR9.out hb7) (fun j hj => by cases hj; exact hg8.out)) (fun j hj => by cases hj; exact hg9.out)
        have ka' := Lib.hid (show Keeps w7 wx (N47 b4 b5 g8 g9) from ⟨ka.os, ka.tape, ka.output, ka.size, fun j hj hn => ka.block j hj (fun e => hn (.inr (.inl e)))⟩)
        have kb' := Lib.hid (show Keeps wx wy (N47 b4 b5 g8 g9) from ⟨kb.os, kb.tape, kb.output, kb.size, fun j hj hn => kb.block j hj (fun e => hn (.inr (.inr e)))⟩)
        have shy := Lib.hid (sh5.out.below hb5y)
        have qay := Lib.hid (qa.keeps kb hap.out)
        replace qb := Lib.hid qb
        replace hb5y := Lib.hid hb5y
        have qfy : QF (N47 b4 b5 g8 g9) op fc2 wy := QF.keeps (QF.keeps (w := w7) ⟨h7, h7c, hso⟩ ka'.out) kb'.out
        replace qfy := Lib.hid qfy
        replace hno := Lib.hid hno
        clear qa ka kb hso h7 h7c hb7 RT
        obtain ⟨s2, o2⟩ := op
        cases o2 with
        | some f =>
         have hov := Lib.hid (sh5.out.over hdr.out hm.out hop.out)
         go_upto_region 11 with (fail)
         refine wp_region_list ?_
         refine list_load undF infoF1 qb.out qfy.out.1 rfl 9 rfl rfl ?_
         refine list_store (l := fc2) infoF1 shy.out.r4 rfl qfy.out.1 qfy.out.2.1 rfl 4 54 rfl rfl rfl ?_
         intro wz qz kz
         refine wpList_nil ?_
         have z3 : Below W.heap.size W wz := kz.below shy.out.bw (fun j hj => by cases hj; exact hlo.out.1)
         have kz' := Lib.hid (show Keeps _ wz (N47 b4 b5 g8 g9) from ⟨kz.os, kz.tape, kz.output, kz.size, fun j hj hn => kz.block j hj (fun e => hn (.inl (.inl e)))⟩)
         replace qz := Lib.hid qz
         clear kz
         go_wp2
         refine bodyPost_ret (v := .agg (List.toArray fc2)) (results1 (a := 4) (by kernel_rfl) rfl (loadVar_whole undF infoF1 qz.out qfy.out.1)) rfl ?_
         rw [hov.out]
         exact ⟨_, rfl, qfy.out.1, qfy.out.2.1, z3, qfy.out.out rfl kz'.out⟩
        | none =>
         obtain ⟨V2, hsc, hv2, hc2⟩ := hno.out rfl
         replace hsc := Lib.hid hsc
         replace hv2 := Lib.hid (((hv2.keeps ka'.out).keeps kb'.out).into (N' := N45 b4 b5) (Below.refl _ _) (fun j _ hj => .inl hj))
         replace hc2 := Lib.hid hc2
         clear hno
         go_upto_region 12 with (fail)
         refine wp_region_list ?_
         refine list_load undS infoS1 qay.out h16 rfl 8 rfl rfl ?_
         refine list_store (l := sc) infoS1 shy.out.r5 rfl h16 h1c rfl 5 55 rfl rfl rfl ?_
         intro wz qz kz
         refine wpList_nil ?_
         have shz : Hid (SH W Z C E res fp (some ⟨fb, fo, none⟩) b4 b5 (ix + 1) V2 s2 wz) := by
          have kz' : Keeps wy wz (N45 b4 b5) := ⟨kz.os, kz.tape, kz.output, kz.size, fun j hj hn => kz.block j hj (fun e => hn (.inr e))⟩
          rw [hsc.out] at qz
          exact sh5.out.next hNZ.out hC.out hil hdr.out hm.out hvz.out hop.out hb5y.out qz kz (hv2.out.keeps kz') hc2.out
         clear qz kz h16 h1c
         have hwi : IntKind.i64.wrap ((ix : Int) + 1) = (ix : Int) + 1 := IntWalk.i64_in _ (by omega)
         go_wp2
         go_roundw
         case rel => exact ⟨ix + 1, V2, s2, by go_num, by omega, shz⟩
         case measure => simp [intOf]; omega
   ·have hie : ix = fp.length := by omega
    have hr : Hid (res = ⟨1, 0, s.nodes, s.edges, s.depth, [], []⟩) := by
     have := sh.out.hr
     rw [hie, List.drop_length, searchF_nil] at this
     exact this.symm
    have hiI : ¬ (ix : Int) < (fp.length : Int) := by omega
    have c9 : wr.cell? ⟨b5, 9, none⟩ = some (.int .i64 (s.nodes : Int)) := sh.out.r5.cell 9
    have c10 : wr.cell? ⟨b5, 10, none⟩ = some (.int .i64 (s.edges : Int)) := sh.out.r5.cell 10
    have c11 : wr.cell? ⟨b5, 11, none⟩ = some (.int .i64 (s.depth : Int)) := sh.out.r5.cell 11
    clear hie
    go_upto_region 13 with (fail)
    refine wp_region_list ?_
    refine wpList_plain rfl (fun K hK => ?_)
    go_simp
    refine hK _ _ ?_
    clear hK K
    refine wpList_plain rfl (fun K hK => ?_)
    go_simp
    refine hK _ _ ?_
    clear hK K
    refine wpList_plain rfl (fun K hK => ?_)
    go_simp
    refine hK _ _ ?_
    clear hK K
    refine list_store (l := fcl ⟨1, 0, s.nodes, s.edges, s.depth, [], []⟩ none 0 none 0) infoF1 sh.out.r4 rfl rfl (fcl_one _ _ _ _ _) rfl 4 58 rfl rfl rfl ?_
    intro wz qz kz
    refine wpList_nil ?_
    have z3 : Below W.heap.size W wz := kz.below sh.out.bw (fun j hj => by cases hj; exact hlo.out.1)
    clear c9 c10 c11
    go_wp2
    refine bodyPost_ret (v := .agg (fcl ⟨1, 0, s.nodes, s.edges, s.depth, [], []⟩ none 0 none 0).toArray) (results1 (a := 4) (by kernel_rfl) rfl (loadVar_whole undF infoF1 qz rfl)) rfl ?_
    rw [hr.out]
    exact ⟨_, rfl, rfl, fcl_one _ _ _ _ _, z3, none, 0, none, 0, rfl, fun _ _ => ⟨PpsAt.none_ _ _, PpsAt.none_ _ _⟩⟩
end Go.Proofs.Ytfcpfcgcfaacnaa
