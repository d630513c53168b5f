/- The outer search, walked. Conditions: a search in memory, the bounds. -/
import Derived.Test.YtfcpfcgcfaacnaaSNdFrom
import Derived.Test.YtfcpfcgcfaacnaaSCut
namespace Go.Proofs.Ytfcpfcgcfaacnaa
open Go.RowKit
set_option maxRecDepth 10000 in
set_option maxHeartbeats 16000000 in
theorem from_any (K : KP) (hK : ∀ a c S, K.f a c S) (W : World) (p sB : Nat) (b : NB) (G : GR) (sets : List (List Bool)) (A : AU) (hP : PrAt W p G sets A) (lt : Lt G sets A) (C E : Nat) (N : Nice (nextP G sets A) (vPP G sets A) C) (hC : C ≤ 3200) (hE : E ≤ 4000000000000000000) (hok : ∀ y, vPP G sets A y → okPP y) (hbb : b.n ≤ 65536 ∧ b.d ≤ 65536) (s0 : NS) (w : World) (x0 : PP) (h : SrOk W p sB ⟨0, 0, W, K⟩ b (nextP G sets A) s0 [] s0.nodes w) (hI0 : NInv b (nextP G sets A) (vPP G sets A) s0) (ho : s0.ot = []) (hx0 : x0 ∉ s0.reached) (hpx : vPP G sets A x0) (he0 : s0.edges + FO * (FI + 2) ≤ E) :
  Calls Try.prog 39 #[.pointer (some ⟨sB, 0, none⟩), .agg #[.int .i64 x0.node, .int .i64 x0.state, .int .i64 x0.turn]] w (Goes W p sB ⟨0, 0, W, K⟩ b (nextP G sets A) [] (fromF b (nextP G sets A) (inP G sets A) s0 x0)) := by
 obtain ⟨res, hres⟩ : ∃ res, res = fromF b (nextP G sets A) (inP G sets A) s0 x0 := ⟨_, rfl⟩
 rw [← hres]
 replace hK := Lib.hid hK
 have hnx1 : Hid (∀ x, (nextP G sets A x).length ≤ 1000000) := fun x => Nat.le_trans (N.len x) (by decide)
 have RE0 : Hid (∀ v, SrOk W p sB ⟨0, 0, W, K⟩ b (nextP G sets A) s0 [] s0.nodes v → Calls Try.prog 68 #[.pointer (some ⟨sB, 0, none⟩), .agg #[.int .i64 x0.node, .int .i64 x0.state, .int .i64 x0.turn]] v fun e w' => (e = .returned (.bool false) ∧ ∃ s3 r, res = (s3, some r) ∧ EndAt W sB r w') ∨ (e = .returned (.bool true) ∧ ∃ s3, SrOk W p sB ⟨0, 0, W, K⟩ b (nextP G sets A) s3 [] s3.nodes w' ∧ outerF b (nextP G sets A) (inP G sets A) FO s3 = res ∧ muO C s3 < FO ∧ NInv b (nextP G sets A) (vPP G sets A) s3 ∧ s3.edges = s0.edges)) := fun v hv => by
  refine (reach_any W _ p sB b G sets A hP lt s0 v x0 hv (hok x0 hpx) (fun hh => hx0 (hI0.or_ _ hh)) hK.out ?_).mono ?_
  ·have q1 := hI0.ld
   have q2 := hI0.db
   have q3 := hI0.nb
   have q4 := hI0.nr
   omega
  ·intro e w' hG
   by_cases q1 : b.n ≤ s0.nodes
   ·have hc := comeP_n (x := x0) q1
    rw [hc] at hG
    exact .inl ⟨hG.1, _, _, hres.trans (fromF_some hc), hG.2⟩
   ·by_cases q2 : b.d < s0.ot.length + 1
    ·have hc := comeP_d (x := x0) q1 q2
     rw [hc] at hG
     exact .inl ⟨hG.1, _, _, hres.trans (fromF_some hc), hG.2⟩
    ·have hc := comeP_ok (x := x0) q1 q2
     rw [hc] at hG
     exact .inr ⟨hG.1, _, hG.2, (hres.trans (fromF_none hc)).symm, muO_start C (reachS s0 x0) x0 ho hC, hI0.come hx0 hpx q1 q2, rfl⟩
 have hptr := Lib.hid h.ptr
 have rb := Lib.hid (RowAt.new (w := w) (T := TPP) #[.int .i64 x0.node, .int .i64 x0.state, .int .i64 x0.turn] rfl)
 have hO0 : Hid (SrOk W p sB ⟨0, 0, W, K⟩ b (nextP G sets A) s0 [] s0.nodes (w.alloc (.cells #[.int .i64 x0.node, .int .i64 x0.state, .int .i64 x0.turn] TPP))) := h.below (balloc (Below.refl _ _) _)
 replace N := Lib.hid N
 replace hC := Lib.hid hC
 replace hok := Lib.hid hok
 replace hP := Lib.hid hP
 replace lt := Lib.hid lt
 replace hbb := Lib.hid hbb
 replace hE := Lib.hid hE
 clear hres hI0 h ho hx0 hpx
 go_enter Try.func39, Try.ntmps39
 go_wp2
 refine wp_scope_num 0 (FJ K W p sB b (nextP G sets A) (inP G sets A) (vPP G sets A) C E res) rfl ?_ ?_
 ·rintro n ⟨tm, df⟩ w ⟨m, s, rfl, hdf, hsz, e0, e4, hO, hr, hm, hI, hE1⟩
  obtain rfl : df = [] := hdf
  obtain ⟨q, hq⟩ := frame87 tm hsz
  subst hq
  have k0 : q 0 = _ := e0
  have k4 : q 4 = _ := e4
  rw [k0, k4]
  clear e0 e4 k0 k4 hsz hO0 rb hptr RE0
  have hbn := hbb.out
  have hnd := hI.nb
  have hdd := hI.db
  have hld := hI.ld
  have hnr := hI.nr
  have hee := hE.out
  rw [Nat.succ_mul] at hE1
  have hFI : 2 ≤ FI + 2 := by omega
  obtain ⟨X, S0, S1, h1, h2, h3, h4⟩ := hO
  have l0 : S0.length = s.ot.length := by have := congrArg List.length h1; simpa using this
  have hei : s.edges ≤ 4000000000000000000 := by omega
  have hnl := hnx1.out
  have hrow := h4.row
  have f6 := hrow.free 6
  have c6 : w.cell? ⟨sB, 6, none⟩ = some (.int .i64 (s.edges : Int)) := hrow.cell 6
  cases hot : s.ot with
  | nil =>
   obtain rfl : S0 = [] := List.eq_nil_of_length_eq_zero (by rw [l0, hot]; rfl)
   have c10 : w.cell? ⟨sB, 10, none⟩ = some (.slice X.a0 0 X.c0) := hrow.cell 10
   have hrs : Hid (res = (s, none)) := by
    show _ = _
    rw [← hr]
    exact outerF_nil hot
   have hOs : Hid (SrOk W p sB ⟨0, 0, W, K⟩ b (nextP G sets A) s [] s.nodes w) := ⟨X, [], S1, h1, h2, h3, h4⟩
   clear hrow f6 c6 hr hm hI h1 h2 h3 h4 l0 hnd hdd hld hE1 hei hot hnr hFI he0
   go_wp2
   simp only [Exit.jump]
   go_ret
   rw [hrs.out]
   exact ⟨rfl, hOs.out⟩
  | cons xk r =>
   obtain ⟨x, k⟩ := xk
   rw [hot] at h1
   obtain ⟨S0, an, cn, rfl, h1n⟩ := snoc_split h1
   replace h1 := h1n
   clear h1n
   have hown := h4.own0
   obtain ⟨g, hg, _, _⟩ := OwnR.addr hown (by simp)
   rw [hg] at hown
   obtain ⟨_, _, _, t3, t4, t4f⟩ := last_cells hown
   have hgs : g ≠ sB := h4.apart.2.2.2.1 g (by rw [hg]; rfl)
   have hfb := h4.nb0 hg ((x, k), an, cn) (by simp)
   have pf := h4.next0 ((x, k), an, cn) (by simp)
   have c10' : w.cell? ⟨sB, 10, none⟩ = some (.slice X.a0 (S0 ++ [((x, k), an, cn)]).length X.c0) := hrow.cell 10
   obtain ⟨n1, hn1⟩ : ∃ n1, n1 = S0.length + 1 := ⟨_, rfl⟩
   obtain ⟨m1, hm1⟩ : ∃ m1, m1 = S0.length := ⟨_, rfl⟩
   have c10 : w.cell? ⟨sB, 10, none⟩ = some (.slice (some ⟨g, 0, none⟩) n1 X.c0) := by rw [c10', hg, hn1]; simp
   rw [← hm1] at t3 t4 t4f
   have hkl : k ≤ (nextP G sets A x).length := hI.oa (x, k) (by rw [hot]; exact .head _)
   have hl1 : n1 = s.ot.length := by rw [← l0, hn1]; simp
   have hlr : n1 ≤ 70000 := by omega
   have n1I : (n1 : Int) ≤ 1000000 := by omega
   have hsub : (n1 : Int) - 1 = (m1 : Int) := by omega
   have hm1n : (m1 : Int) < (n1 : Int) := by omega
   have hn0 : (0 : Int) < (n1 : Int) := by omega
   have hn00 : 0 < n1 := by omega
   have hn1z : ((n1 : Int) == 0) = false := by simp; omega
   have hn1z2 : ¬ n1 = 0 := by omega
   have hn1z3 : decide (n1 = 0) = false := decide_eq_false hn1z2
   have hwr : IntKind.i64.wrap ((n1 : Int) - 1) = (m1 : Int) := by rw [hsub]; exact IntWalk.i64_in _ (by omega)
   by_cases hk : k < (nextP G sets A x).length
   ·have hyk : (nextP G sets A x)[k]? = some (nextP G sets A x)[k] := List.getElem?_eq_getElem hk
    obtain ⟨y, hyy⟩ : ∃ y, y = (nextP G sets A x)[k] := ⟨_, rfl⟩
    rw [← hyy] at hyk
    have hA := Lib.hid (AdvO.of (inq := inP G sets A) N.out hot hI hr hm hyk)
    have ST := Lib.hid (step_more w sB g (m1 * 5) k s.edges an cn (nextP G sets A x) y t3 t4 t4f c6 f6 hgs pf hyk hfb (hnl x) hei)
    have AF : Hid (∀ v, Below w.heap.size ((w.setCell ⟨sB, 6, none⟩ (.int .i64 ((s.edges + 1 : Nat) : Int))).setCell ⟨g, m1 * 5 + 4, none⟩ (.int .i64 ((k + 1 : Nat) : Int))) v → SrOk W p sB ⟨0, 0, W, K⟩ b (nextP G sets A) (atS (edgeS s) ((x, k + 1) :: r)) [] s.nodes v) := fun v hb => adv_outer (S0 := S0) (an := an) (cn := cn) hot h1 h2 h3.1 hK.out h4 hg (by rw [← hm1]; exact hb)
    obtain ⟨s1, hs1⟩ : ∃ s1, s1 = atS (edgeS s) ((x, k + 1) :: r) := ⟨_, rfl⟩
    have hsn : s.nodes = s1.nodes := by rw [hs1]; rfl
    rw [hsn, ← hs1] at AF
    rw [← hs1] at hA
    have hE2 : Hid (s1.edges + m * (FI + 2) ≤ E) := by
     show _ ≤ _
     have : s1.edges = s.edges + 1 := by rw [hs1]; rfl
     omega
    clear hrow f6 c6 pf hfb t3 t4 t4f hkl hk hyk hyy hr hm hI h1 h2 h3 h4 l0 hnd hdd hld hE1 hei c10' hown hg hgs hn1 hm1 hlr hwr hot hnr hFI he0 hl1 hs1 hsn
    go_wp2_with fail
    refine ST.out.mono ?_
    rintro e w1 ⟨rfl, hb1⟩
    have hO1 := AF.out w1 hb1
    have hO2 : Hid (SrOk W p sB ⟨0, 0, W, K⟩ b (nextP G sets A) s1 [] s1.nodes (w1.alloc (.cells #[.int .i64 y.node, .int .i64 y.state, .int .i64 y.turn] TPP))) := SrOk.below hO1 (balloc (Below.refl _ _) _)
    have rY : Hid (RowAt (w1.alloc (.cells #[.int .i64 y.node, .int .i64 y.state, .int .i64 y.turn] TPP)) w1.heap.size TPP [.int .i64 y.node, .int .i64 y.state, .int .i64 y.turn]) := RowAt.new #[.int .i64 y.node, .int .i64 y.state, .int .i64 y.turn] rfl
    clear ST AF hb1 hO1
    obtain ⟨yb, hyb⟩ : ∃ yb, yb = w1.heap.size := ⟨_, rfl⟩
    rw [← hyb] at rY
    go_wp2
    rw [← hyb]
    clear hyb c10 hsub n1I hm1n hn0 hn00 hn1z hn1z2 hn1z3
    generalize w1.alloc (.cells #[.int .i64 y.node, .int .i64 y.state, .int .i64 y.turn] TPP) = w2 at hO2 rY ⊢
    obtain ⟨X, S0, S1, h1, h2, h3, h4⟩ := hO2.out
    have d13 : w2.cell? ⟨sB, 13, none⟩ = some (.map (some X.mr)) := h4.row.cell 13
    have y0 : w2.cell? ⟨yb, 0, none⟩ = some (.int .i64 y.node) := rY.out.cell 0
    have y1 : w2.cell? ⟨yb, 1, none⟩ = some (.int .i64 y.state) := rY.out.cell 1
    have y2 : w2.cell? ⟨yb, 2, none⟩ = some (.int .i64 y.turn) := rY.out.cell 2
    have hoky := hok.out y hA.out.py
    have hlk := (h4.below (Below.refl _ _).drew).mr.look hoky
    have hO3 : Hid (SrOk W p sB ⟨0, 0, W, K⟩ b (nextP G sets A) s1 [] s1.nodes w2.drew) := hO2.out.below (Below.refl _ _).drew
    have rY3 := Lib.hid (rY.out.below (Below.refl _ _).drew)
    clear h1 h2 h3 h4
    by_cases hy : y ∈ s1.reached
    ·rw [decide_eq_true hy] at hlk
     simp only [ppv] at hlk
     have q1 := Lib.hid (hA.out.skip hy)
     clear hy
     go_region
     go_wp2
     clear hlk y0 y1 y2 d13
     go_step3
     exact ⟨rfl, m, Nat.lt_succ_self _, FJ.of s1 rfl rfl rfl rfl hO3.out q1.out hA.out.mu hA.out.inv hE2.out⟩
    ·rw [decide_eq_false hy] at hlk
     simp only [ppv] at hlk
     have RE : Hid (∀ v, SrOk W p sB ⟨0, 0, W, K⟩ b (nextP G sets A) s1 [] s1.nodes v → Calls Try.prog 68 #[.pointer (some ⟨sB, 0, none⟩), .agg #[.int .i64 y.node, .int .i64 y.state, .int .i64 y.turn]] v fun e w' => (e = .returned (.bool false) ∧ ∃ s3 r, res = (s3, some r) ∧ EndAt W sB r w') ∨ (e = .returned (.bool true) ∧ ∃ s3, SrOk W p sB ⟨0, 0, W, K⟩ b (nextP G sets A) s3 [] s3.nodes w' ∧ outerF b (nextP G sets A) (inP G sets A) m s3 = res ∧ muO C s3 < m ∧ NInv b (nextP G sets A) (vPP G sets A) s3 ∧ s3.edges = s1.edges)) := fun v hv => by
      have hI1 := hA.out.inv
      refine (reach_any W _ p sB b G sets A hP.out lt.out s1 v y hv hoky (fun hh => hy (hI1.or_ _ hh)) hK.out ?_).mono ?_
      ·have q1 := hI1.ld
       have q2 := hI1.db
       have q3 := hI1.nb
       have q4 := hI1.nr
       omega
      ·intro e w' hG
       by_cases q1 : b.n ≤ s1.nodes
       ·have hc := comeP_n (x := y) q1
        rw [hc] at hG
        exact .inl ⟨hG.1, _, _, hA.out.over _ _ hy hc, hG.2⟩
       ·by_cases q2 : b.d < s1.ot.length + 1
        ·have hc := comeP_d (x := y) q1 q2
         rw [hc] at hG
         exact .inl ⟨hG.1, _, _, hA.out.over _ _ hy hc, hG.2⟩
        ·have hc := comeP_ok (x := y) q1 q2
         rw [hc] at hG
         exact .inr ⟨hG.1, _, hG.2, hA.out.come _ hy hc⟩
     clear hy hbn
     go_region
     go_wp2_with fail
     clear hlk y0 y1 y2 d13 hO2 rY
     generalize w2.drew = w3 at hO3 rY3 ⊢
     have y0 : w3.cell? ⟨yb, 0, none⟩ = some (.int .i64 y.node) := rY3.out.cell 0
     have y1 : w3.cell? ⟨yb, 1, none⟩ = some (.int .i64 y.state) := rY3.out.cell 1
     have y2 : w3.cell? ⟨yb, 2, none⟩ = some (.int .i64 y.turn) := rY3.out.cell 2
     have RW := Lib.hid (RE.out w3 hO3.out)
     clear RE
     go_wp2_with fail
     refine RW.out.mono ?_
     rintro e w6 (⟨rfl, s3, r3, hres, hEnd⟩ | ⟨rfl, s3, hO6, q1, q2, q3, q4⟩)
     ·replace hres := Lib.hid hres
      replace hEnd := Lib.hid hEnd
      clear y0 y1 y2 RW
      simp only [Bool.not_false]
      go_wp2
      simp only [Exit.jump]
      go_ret
      rw [hres.out]
      exact ⟨rfl, hEnd.out⟩
     ·replace hO6 := Lib.hid hO6
      replace q1 := Lib.hid q1
      replace q2 := Lib.hid q2
      replace q3 := Lib.hid q3
      replace q4 := Lib.hid q4
      clear y0 y1 y2 RW
      simp only [Bool.not_true]
      go_wp2
      go_step3
      exact ⟨rfl, m, Nat.lt_succ_self _, FJ.of s3 rfl rfl rfl rfl hO6.out q1.out q2.out q3.out (by rw [q4.out]; exact hE2.out)⟩
   ·have hke : k = (nextP G sets A x).length := by omega
    rw [← hke] at t3
    have ST := Lib.hid (step_none w sB g (m1 * 5) k an cn t3 t4)
    have hnone : (nextP G sets A x)[k]? = none := List.getElem?_eq_none (by omega)
    have hA := Lib.hid (AdvE.of (inq := inP G sets A) N.out hot hI hr hm hnone)
    have TOP : Hid (∀ v, Below w.heap.size w v → TopAt K W p sB b (nextP G sets A) s r x k g m1 v) := fun v hb => ⟨X, S0, S1, an, cn, h1, h2, h3.1, hg, hm1, h4.below hb⟩
    have hTOT := Lib.hid hot
    have IN := Lib.hid (fun v (hb : Below w.heap.size w v) => in_any v p G sets A (hP.out.below (btrans h4.low hb)) x)
    have WI : Hid (inP G sets A x = true → (∃ s3 r3, res = (s3, some r3) ∧ ∀ v, Below w.heap.size w v → Calls Try.prog 71 #[.pointer (some ⟨sB, 0, none⟩), .agg #[.int .i64 x.node, .int .i64 x.state, .int .i64 x.turn]] v fun e w' => e = .returned (.bool false) ∧ EndAt W sB r3 w') ∨ (∃ s3, s3.ot = (x, k) :: r ∧ outerF b (nextP G sets A) (inP G sets A) m (atS s3 r) = res ∧ muO C (atS s3 r) < m ∧ NInv b (nextP G sets A) (vPP G sets A) (atS s3 r) ∧ s3.edges + m * (FI + 2) ≤ E ∧ ∀ v, Below w.heap.size w v → Calls Try.prog 71 #[.pointer (some ⟨sB, 0, none⟩), .agg #[.int .i64 x.node, .int .i64 x.state, .int .i64 x.turn]] v fun e w' => e = .returned (.bool true) ∧ TopAt K W p sB b (nextP G sets A) s3 r x k g m1 w')) := fun hin => by
     have hc : ∀ v, Below w.heap.size w v → Calls Try.prog 71 #[.pointer (some ⟨sB, 0, none⟩), .agg #[.int .i64 x.node, .int .i64 x.state, .int .i64 x.turn]] v (Goes W p sB ⟨0, 0, W, K.keep (fun a c S' => a = X.a0 ∧ c = X.c0 ∧ S' = S0 ++ [((x, k), an, cn)])⟩ b (nextP G sets A) [] (innerF b (nextP G sets A) FI s [(x, 0)])) := fun v hb => by
      have hz : SrOk W p sB ⟨0, 0, W, K.keep (fun a c S' => a = X.a0 ∧ c = X.c0 ∧ S' = S0 ++ [((x, k), an, cn)])⟩ b (nextP G sets A) s [] s.nodes v := ⟨X, _, S1, by rw [hot, List.map_append, h1]; simp, h2, ⟨h3.1, rfl, rfl, rfl⟩, (h4.below hb).forget W (fun a c S' => a = X.a0 ∧ c = X.c0 ∧ S' = S0 ++ [((x, k), an, cn)])⟩
      exact within_any W p sB b G sets A hP.out lt.out C E N.out hC.out hE.out hok.out hbb.out s _ v x k r hz hI hot (by omega)
     obtain ⟨ri, hri⟩ : ∃ ri, ri = innerF b (nextP G sets A) FI s [(x, 0)] := ⟨_, rfl⟩
     rw [← hri] at hc
     match ri, hri, hc with
     | (s3, some r3), hri, hc => exact .inl ⟨s3, r3, hA.out.over _ _ hin hri.symm, hc⟩
     | (s3, none), hri, hc =>
      obtain ⟨q1, q2, q3, q4, q5, q6⟩ := hA.out.into _ hin hri.symm
      have ho3 : s3.ot = (x, k) :: r := q4.trans hot
      exact .inr ⟨s3, ho3, q1, q2, q3, by omega, fun v hb => (hc v hb).mono fun e w' hG => ⟨hG.1, TopAt.again hG.2 ho3 hg hm1⟩⟩
    have hE2 : Hid ((atS s r).edges + m * (FI + 2) ≤ E) := by
     show s.edges + m * (FI + 2) ≤ E
     omega
    have hnm : Hid (n1 = m1 + 1) := by show _ = _; omega
    clear hrow f6 c6 pf hfb t3 t4 t4f hkl hk hr hm hI h1 h2 h3 h4 l0 hnd hdd hld hE1 hei c10' hown hg hgs hn1 hm1 hlr hke hnone hot hnr hFI he0 hl1
    go_wp2_with fail
    refine ST.out.mono ?_
    rintro e w1 ⟨rfl, hb1⟩
    have hbb1 : Below w.heap.size w (w1.alloc (.cells #[.int .i64 0, .int .i64 0, .int .i64 0] TPP)) := btrans hb1 (balloc (Below.refl _ _) _)
    clear ST hb1
    go_wp2
    generalize w1.alloc (.cells #[.int .i64 0, .int .i64 0, .int .i64 0] TPP) = w2 at hbb1 ⊢
    clear c10 hn0 hn00 hn1z hn1z2 hn1z3
    go_region
    go_wp2
    obtain ⟨w3, hw3⟩ : ∃ w3, w3 = w2.drew := ⟨_, rfl⟩
    have hbb3 : Below w.heap.size w w3 := by rw [hw3]; exact btrans hbb1 (Below.refl _ _).drew
    rw [← hw3]
    clear hw3 hbb1
    have K0 : Hid (∀ v, Below w.heap.size w v → v.cell? ⟨sB, 0, none⟩ = some (.pointer (some ⟨p, 0, none⟩)) ∧ v.cell? ⟨g, m1 * 5, none⟩ = some (.int .i64 x.node) ∧ v.cell? ⟨g, m1 * 5 + 1, none⟩ = some (.int .i64 x.state) ∧ v.cell? ⟨g, m1 * 5 + 2, none⟩ = some (.int .i64 x.turn)) := fun v hb => by
     obtain ⟨u0, u1, u2, u3, _⟩ := (TOP.out v hb).cells
     exact ⟨u3, u0, u1, u2⟩
    obtain ⟨v0, v1, v2, v3⟩ := K0.out _ hbb3
    obtain ⟨z0, z1, z2, z3⟩ := K0.out _ (btrans hbb3 (Below.refl _ _).drew)
    have INx := Lib.hid (IN.out _ (btrans hbb3 (Below.refl _ _).drew))
    cases hin : inP G sets A x with
    | false =>
     rw [hin] at INx
     obtain ⟨q1, q2, q3⟩ := hA.out.pop hin
     replace q1 := Lib.hid q1
     replace q2 := Lib.hid q2
     replace q3 := Lib.hid q3
     have q4 := hE2
     clear hin WI IN hA
     refine wp_region_held_drew (S := (fun w' => w'.cell? ⟨sB, 0, none⟩ = some (.pointer (some ⟨p, 0, none⟩)) ∧ w'.cell? ⟨g, m1 * 5, none⟩ = some (.int .i64 x.node) ∧ w'.cell? ⟨g, m1 * 5 + 1, none⟩ = some (.int .i64 x.state) ∧ w'.cell? ⟨g, m1 * 5 + 2, none⟩ = some (.int .i64 x.turn))) (by kernel_rfl) (K0.out _ (btrans hbb3 (Below.refl _ _).drew)) (fun hHeld => ?_)
     refine wpAnyH_take (i := 0) (oi := ({ dst := some 49, op := .move (.tmp 0), type := 103, pos := "ndfs.go:146", after := #[], guard := none } : Oper)) (v := ?_) rfl (by kernel_rfl) (by kernel_rfl) (by kernel_rfl) (fun _ _ _ h => h) (Or.inl ⟨by rfl, ?_⟩) (by assumption) ?_
     case refine_2 => (intro w hSw; (try dsimp only at hSw); go_simp; try with_reducible rfl)
     try simp only [Act.put, zsA, zsZ, zsS]
     refine wpAnyH_take (i := 1) (oi := ({ dst := some 50, op := .nilCheck (.tmp 49), type := 0, pos := "ndfs.go:146", after := #[{ on := 0, ground := .data }], guard := none } : Oper)) (v := ?_) rfl (by kernel_rfl) (by kernel_rfl) (by kernel_rfl) (fun _ _ _ h => h) (Or.inl ⟨by rfl, ?_⟩) (by assumption) ?_
     case refine_2 => (intro w hSw; (try dsimp only at hSw); go_simp; try with_reducible rfl)
     try simp only [Act.put, zsA, zsZ, zsS]
     refine wpAnyH_take (i := 2) (oi := ({ dst := some 51, op := .fieldAddr 109 (.tmp 50) 0, type := 0, pos := "ndfs.go:146", after := #[{ on := 1, ground := .data }], guard := none } : Oper)) (v := ?_) rfl (by kernel_rfl) (by kernel_rfl) (by kernel_rfl) (fun _ _ _ h => h) (Or.inl ⟨by rfl, ?_⟩) (by assumption) ?_
     case refine_2 => (intro w hSw; (try dsimp only at hSw); go_simp; try with_reducible rfl)
     try simp only [Act.put, zsA, zsZ, zsS]
     refine wpAnyH_take (i := 3) (oi := ({ dst := some 52, op := .load 41 (.tmp 51), type := 41, pos := "ndfs.go:146", after := #[{ on := 2, ground := .data }], guard := none } : Oper)) (v := ?_) rfl (by kernel_rfl) (by kernel_rfl) (by kernel_rfl) (fun _ _ _ h => h) (Or.inl ⟨by rfl, ?_⟩) (by assumption) ?_
     case refine_2 => (intro w hSw; (try dsimp only at hSw); go_simp; try with_reducible rfl)
     try simp only [Act.put, zsA, zsZ, zsS]
     refine wpAnyH_take (i := 4) (oi := ({ dst := some 53, op := .move (.tmp 6), type := 141, pos := "ndfs.go:146", after := #[], guard := none } : Oper)) (v := ?_) rfl (by kernel_rfl) (by kernel_rfl) (by kernel_rfl) (fun _ _ _ h => h) (Or.inl ⟨by rfl, ?_⟩) (by assumption) ?_
     case refine_2 => (intro w hSw; (try dsimp only at hSw); go_simp; try with_reducible rfl)
     try simp only [Act.put, zsA, zsZ, zsS]
     refine wpAnyH_take (i := 5) (oi := ({ dst := some 54, op := .nilCheck (.tmp 53), type := 0, pos := "ndfs.go:146", after := #[{ on := 4, ground := .data }], guard := none } : Oper)) (v := ?_) rfl (by kernel_rfl) (by kernel_rfl) (by kernel_rfl) (fun _ _ _ h => h) (Or.inl ⟨by rfl, ?_⟩) (by assumption) ?_
     case refine_2 => (intro w hSw; (try dsimp only at hSw); go_simp; try with_reducible rfl)
     try simp only [Act.put, zsA, zsZ, zsS]
     refine wpAnyH_take (i := 6) (oi := ({ dst := some 55, op := .fieldAddr 143 (.tmp 54) 0, type := 0, pos := "ndfs.go:146", after := #[{ on := 5, ground := .data }], guard := none } : Oper)) (v := ?_) rfl (by kernel_rfl) (by kernel_rfl) (by kernel_rfl) (fun _ _ _ h => h) (Or.inl ⟨by rfl, ?_⟩) (by assumption) ?_
     case refine_2 => (intro w hSw; (try dsimp only at hSw); go_simp; try with_reducible rfl)
     try simp only [Act.put, zsA, zsZ, zsS]
     refine wpAnyH_take (i := 7) (oi := ({ dst := some 56, op := .load 82 (.tmp 55), type := 82, pos := "ndfs.go:146", after := #[{ on := 6, ground := .data }], guard := none } : Oper)) (v := ?_) rfl (by kernel_rfl) (by kernel_rfl) (by kernel_rfl) (fun _ _ _ h => h) (Or.inl ⟨by rfl, ?_⟩) (by assumption) ?_
     case refine_2 => (intro w hSw; (try dsimp only at hSw); go_simp; try with_reducible rfl)
     try simp only [Act.put, zsA, zsZ, zsS]
     refine wpAnyH_ready (rs := [8]) (by kernel_rfl) (by simp) ?_
     refine AllReadyH.cons (o := ({ dst := some 57, op := .call { callee := .value (.func 70), args := #[.tmp 52, .tmp 56], argTypes := #[41, 82] }, type := 4, pos := "ndfs.go:146", after := #[{ on := 3, ground := .data }, { on := 7, ground := .data }], guard := none } : Oper)) rfl (fun K hK => ?_) AllReadyH.nil
     go_simp
     go_at_call 70
     (with_reducible refine INx.out.mono ?_)
     rintro e w6 ⟨rfl, hb6⟩
     have hbb6 : Below w.heap.size w w6 := (btrans (btrans hbb3 (Below.refl _ _).drew) hb6)
     clear hHeld
     refine hK.out _ _ (K0.out _ hbb6) (fun hHeld => ?_)
     clear hK K
     try simp only [Act.put, zsA, zsZ, zsS]
     refine wpAnyH_take (i := 9) (oi := ({ dst := some 58, op := .move (.tmp 57), type := 4, pos := "ndfs.go:146", after := #[{ on := 8, ground := .data }, { on := 8, ground := .chain }], guard := none } : Oper)) (v := ?_) rfl (by kernel_rfl) (by kernel_rfl) (by kernel_rfl) (fun _ _ _ h => h) (Or.inl ⟨by rfl, ?_⟩) (by assumption) ?_
     case refine_2 => (intro w hSw; (try dsimp only at hSw); go_simp; try with_reducible rfl)
     try simp only [Act.put, zsA, zsZ, zsS]
     refine wpAnyH_take (i := 10) (oi := ({ dst := some 59, op := .move (.tmp 0), type := 103, pos := "ndfs.go:146", after := #[{ on := 9, ground := .guard }], guard := some (9, true) } : Oper)) (v := undef) rfl (by kernel_rfl) (by kernel_rfl) (by kernel_rfl) (fun _ _ _ h => h) (Or.inr ⟨by rfl, rfl⟩) (by assumption) ?_
     try simp only [Act.put, zsA, zsZ, zsS]
     refine wpAnyH_take (i := 11) (oi := ({ dst := some 60, op := .move (.tmp 6), type := 141, pos := "ndfs.go:146", after := #[{ on := 9, ground := .guard }], guard := some (9, true) } : Oper)) (v := undef) rfl (by kernel_rfl) (by kernel_rfl) (by kernel_rfl) (fun _ _ _ h => h) (Or.inr ⟨by rfl, rfl⟩) (by assumption) ?_
     try simp only [Act.put, zsA, zsZ, zsS]
     refine wpAnyH_take (i := 12) (oi := ({ dst := some 61, op := .nilCheck (.tmp 60), type := 0, pos := "ndfs.go:146", after := #[{ on := 11, ground := .data }, { on := 9, ground := .guard }], guard := some (9, true) } : Oper)) (v := undef) rfl (by kernel_rfl) (by kernel_rfl) (by kernel_rfl) (fun _ _ _ h => h) (Or.inr ⟨by rfl, rfl⟩) (by assumption) ?_
     try simp only [Act.put, zsA, zsZ, zsS]
     refine wpAnyH_take (i := 13) (oi := ({ dst := some 62, op := .fieldAddr 143 (.tmp 61) 0, type := 0, pos := "ndfs.go:146", after := #[{ on := 12, ground := .data }, { on := 9, ground := .guard }], guard := some (9, true) } : Oper)) (v := undef) rfl (by kernel_rfl) (by kernel_rfl) (by kernel_rfl) (fun _ _ _ h => h) (Or.inr ⟨by rfl, rfl⟩) (by assumption) ?_
     try simp only [Act.put, zsA, zsZ, zsS]
     refine wpAnyH_take (i := 14) (oi := ({ dst := some 63, op := .load 82 (.tmp 62), type := 82, pos := "ndfs.go:146", after := #[{ on := 13, ground := .data }, { on := 9, ground := .guard }], guard := some (9, true) } : Oper)) (v := undef) rfl (by kernel_rfl) (by kernel_rfl) (by kernel_rfl) (fun _ _ _ h => h) (Or.inr ⟨by rfl, rfl⟩) (by assumption) ?_
     try simp only [Act.put, zsA, zsZ, zsS]
     refine wpAnyH_take (i := 15) (oi := ({ dst := some 64, op := .call { callee := .value (.func 71), args := #[.tmp 59, .tmp 63], argTypes := #[103, 82] }, type := 4, pos := "ndfs.go:146", after := #[{ on := 10, ground := .data }, { on := 14, ground := .data }, { on := 9, ground := .chain }, { on := 9, ground := .guard }], guard := some (9, true) } : Oper)) (v := undef) rfl (by kernel_rfl) (by kernel_rfl) (by kernel_rfl) (fun _ _ _ h => h) (Or.inr ⟨by rfl, rfl⟩) (by assumption) ?_
     try simp only [Act.put, zsA, zsZ, zsS]
     refine wpAnyH_take (i := 16) (oi := ({ dst := some 65, op := .unOp .not 4 (.tmp 64), type := 4, pos := "ndfs.go:146", after := #[{ on := 15, ground := .data }, { on := 9, ground := .guard }], guard := some (9, true) } : Oper)) (v := undef) rfl (by kernel_rfl) (by kernel_rfl) (by kernel_rfl) (fun _ _ _ h => h) (Or.inr ⟨by rfl, rfl⟩) (by assumption) ?_
     try simp only [Act.put, zsA, zsZ, zsS]
     refine wpAnyH_take (i := 17) (oi := ({ dst := some 66, op := .pick (.tmp 58) (.tmp 65) (.const (.bool false)), type := 4, pos := "ndfs.go:146", after := #[{ on := 9, ground := .data }, { on := 16, ground := .data }], guard := none } : Oper)) (v := ?_) rfl (by kernel_rfl) (by kernel_rfl) (by kernel_rfl) (fun _ _ _ h => h) (Or.inl ⟨by rfl, ?_⟩) (by assumption) ?_
     case refine_2 => (intro w hSw; (try dsimp only at hSw); go_simp; try with_reducible rfl)
     try simp only [Act.put, zsA, zsZ, zsS]
     refine wpAnyH_done (by kernel_rfl) ?_ _
     clear v0 v1 v2 v3 z0 z1 z2 z3
     have hTOP := Lib.hid (TOP.out w6 hbb6)
     clear hHeld
     obtain ⟨sT, hsT⟩ : ∃ sT, sT = s := ⟨_, rfl⟩
     rw [← hsT] at q1 q2 q3 q4 hTOP hTOT
     clear hsT
     go_wp2
     obtain ⟨mp, d12, w8, cap, hrun, hg8, hD, hD2⟩ := hTOP.out.drop hK.out hTOT.out
     obtain ⟨u0, u1, u2, _⟩ := hTOP.out.cells
     have hFO := Lib.hid hD2.fin
     have d10 := hD.c10
     have d10b := hD2.c10
     have df := hD.f10
     have dfb := hD2.f10
     have hsl3 := hD.lt
     have hcap := hD.hi
     rw [← hnm] at d10 d10b
     have hcut := fun w' => run_cut_h (P := Try.prog) Try.underlying106 Try.sizeSp (some ⟨g, 0, none⟩) n1 cap m1 (kh := .i64) (H := (m1 : Int)) rfl (by omega) w'
     clear hg8 hD hD2 hcap
     go_region
     go_wp2
     clear hrun u0 u1 u2 d12
     go_region
     go_wp2
     clear d10 d10b df dfb hcut
     go_step3
     exact ⟨rfl, m, Nat.lt_succ_self _, FJ.of (atS sT r) rfl rfl rfl rfl hFO.out q1.out q2.out q3.out q4.out⟩
    | true =>
     rw [hin] at INx
     have WX := WI.out hin
     clear hin WI IN hE2
     -- how the inner search ends
     have W2 : (∃ s3 r3, res = (s3, some r3) ∧ ∀ v, Below w.heap.size w v → Calls Try.prog 71 #[.pointer (some ⟨sB, 0, none⟩), .agg #[.int .i64 x.node, .int .i64 x.state, .int .i64 x.turn]] v fun e w' => e = .returned (.bool false) ∧ EndAt W sB r3 w') ∨ (∃ s3, s3.ot = (x, k) :: r ∧ outerF b (nextP G sets A) (inP G sets A) m (atS s3 r) = res ∧ muO C (atS s3 r) < m ∧ NInv b (nextP G sets A) (vPP G sets A) (atS s3 r) ∧ s3.edges + m * (FI + 2) ≤ E ∧ ∀ v, Below w.heap.size w v → Calls Try.prog 71 #[.pointer (some ⟨sB, 0, none⟩), .agg #[.int .i64 x.node, .int .i64 x.state, .int .i64 x.turn]] v fun e w' => e = .returned (.bool true) ∧ TopAt K W p sB b (nextP G sets A) s3 r x k g m1 w') := WX
     clear WX hA
     rcases W2 with ⟨s3, r3, hres, WX⟩ | ⟨sT, hTOT, q1, q2, q3, q4, WX⟩
     ·replace WX := Lib.hid WX
      replace hres := Lib.hid hres
      go_region_with (first
       | (go_at_call 71; refine (WX.out _ hbb6).mono ?_; rintro e w7 ⟨rfl, hEnd⟩)
       | (go_at_call 70; refine INx.out.mono ?_; rintro e w6 ⟨rfl, hb6⟩; have hbb6 : Below w.heap.size w w6 := (btrans (btrans hbb3 (Below.refl _ _).drew) hb6); obtain ⟨v0, v1, v2, v3⟩ := K0.out _ hbb6))
      all_goals (clear v0 v1 v2 v3 z0 z1 z2 z3 TOP K0 hTOT; replace hEnd := Lib.hid hEnd; go_wp2; simp only [Exit.jump]; go_ret; rw [hres.out]; exact ⟨rfl, hEnd.out⟩)
     ·replace WX := Lib.hid WX
      replace hTOT := Lib.hid hTOT
      replace q1 := Lib.hid q1
      replace q2 := Lib.hid q2
      replace q3 := Lib.hid q3
      replace q4 := Lib.hid q4
      refine wp_region_held_drew (S := (fun w' => w'.cell? ⟨sB, 0, none⟩ = some (.pointer (some ⟨p, 0, none⟩)) ∧ w'.cell? ⟨g, m1 * 5, none⟩ = some (.int .i64 x.node) ∧ w'.cell? ⟨g, m1 * 5 + 1, none⟩ = some (.int .i64 x.state) ∧ w'.cell? ⟨g, m1 * 5 + 2, none⟩ = some (.int .i64 x.turn))) (by kernel_rfl) (K0.out _ (btrans hbb3 (Below.refl _ _).drew)) (fun hHeld => ?_)
      refine wpAnyH_take (i := 0) (oi := ({ dst := some 49, op := .move (.tmp 0), type := 103, pos := "ndfs.go:146", after := #[], guard := none } : Oper)) (v := ?_) rfl (by kernel_rfl) (by kernel_rfl) (by kernel_rfl) (fun _ _ _ h => h) (Or.inl ⟨by rfl, ?_⟩) (by assumption) ?_
      case refine_2 => (intro w hSw; (try dsimp only at hSw); go_simp; try with_reducible rfl)
      try simp only [Act.put, zsA, zsZ, zsS]
      refine wpAnyH_take (i := 1) (oi := ({ dst := some 50, op := .nilCheck (.tmp 49), type := 0, pos := "ndfs.go:146", after := #[{ on := 0, ground := .data }], guard := none } : Oper)) (v := ?_) rfl (by kernel_rfl) (by kernel_rfl) (by kernel_rfl) (fun _ _ _ h => h) (Or.inl ⟨by rfl, ?_⟩) (by assumption) ?_
      case refine_2 => (intro w hSw; (try dsimp only at hSw); go_simp; try with_reducible rfl)
      try simp only [Act.put, zsA, zsZ, zsS]
      refine wpAnyH_take (i := 2) (oi := ({ dst := some 51, op := .fieldAddr 109 (.tmp 50) 0, type := 0, pos := "ndfs.go:146", after := #[{ on := 1, ground := .data }], guard := none } : Oper)) (v := ?_) rfl (by kernel_rfl) (by kernel_rfl) (by kernel_rfl) (fun _ _ _ h => h) (Or.inl ⟨by rfl, ?_⟩) (by assumption) ?_
      case refine_2 => (intro w hSw; (try dsimp only at hSw); go_simp; try with_reducible rfl)
      try simp only [Act.put, zsA, zsZ, zsS]
      refine wpAnyH_take (i := 3) (oi := ({ dst := some 52, op := .load 41 (.tmp 51), type := 41, pos := "ndfs.go:146", after := #[{ on := 2, ground := .data }], guard := none } : Oper)) (v := ?_) rfl (by kernel_rfl) (by kernel_rfl) (by kernel_rfl) (fun _ _ _ h => h) (Or.inl ⟨by rfl, ?_⟩) (by assumption) ?_
      case refine_2 => (intro w hSw; (try dsimp only at hSw); go_simp; try with_reducible rfl)
      try simp only [Act.put, zsA, zsZ, zsS]
      refine wpAnyH_take (i := 4) (oi := ({ dst := some 53, op := .move (.tmp 6), type := 141, pos := "ndfs.go:146", after := #[], guard := none } : Oper)) (v := ?_) rfl (by kernel_rfl) (by kernel_rfl) (by kernel_rfl) (fun _ _ _ h => h) (Or.inl ⟨by rfl, ?_⟩) (by assumption) ?_
      case refine_2 => (intro w hSw; (try dsimp only at hSw); go_simp; try with_reducible rfl)
      try simp only [Act.put, zsA, zsZ, zsS]
      refine wpAnyH_take (i := 5) (oi := ({ dst := some 54, op := .nilCheck (.tmp 53), type := 0, pos := "ndfs.go:146", after := #[{ on := 4, ground := .data }], guard := none } : Oper)) (v := ?_) rfl (by kernel_rfl) (by kernel_rfl) (by kernel_rfl) (fun _ _ _ h => h) (Or.inl ⟨by rfl, ?_⟩) (by assumption) ?_
      case refine_2 => (intro w hSw; (try dsimp only at hSw); go_simp; try with_reducible rfl)
      try simp only [Act.put, zsA, zsZ, zsS]
      refine wpAnyH_take (i := 6) (oi := ({ dst := some 55, op := .fieldAddr 143 (.tmp 54) 0, type := 0, pos := "ndfs.go:146", after := #[{ on := 5, ground := .data }], guard := none } : Oper)) (v := ?_) rfl (by kernel_rfl) (by kernel_rfl) (by kernel_rfl) (fun _ _ _ h => h) (Or.inl ⟨by rfl, ?_⟩) (by assumption) ?_
      case refine_2 => (intro w hSw; (try dsimp only at hSw); go_simp; try with_reducible rfl)
      try simp only [Act.put, zsA, zsZ, zsS]
      refine wpAnyH_take (i := 7) (oi := ({ dst := some 56, op := .load 82 (.tmp 55), type := 82, pos := "ndfs.go:146", after := #[{ on := 6, ground := .data }], guard := none } : Oper)) (v := ?_) rfl (by kernel_rfl) (by kernel_rfl) (by kernel_rfl) (fun _ _ _ h => h) (Or.inl ⟨by rfl, ?_⟩) (by assumption) ?_
      case refine_2 => (intro w hSw; (try dsimp only at hSw); go_simp; try with_reducible rfl)
      try simp only [Act.put, zsA, zsZ, zsS]
      refine wpAnyH_ready (rs := [8]) (by kernel_rfl) (by simp) ?_
      refine AllReadyH.cons (o := ({ dst := some 57, op := .call { callee := .value (.func 70), args := #[.tmp 52, .tmp 56], argTypes := #[41, 82] }, type := 4, pos := "ndfs.go:146", after := #[{ on := 3, ground := .data }, { on := 7, ground := .data }], guard := none } : Oper)) rfl (fun K hK => ?_) AllReadyH.nil
      go_simp
      go_at_call 70
      (with_reducible refine INx.out.mono ?_)
      rintro e w6 ⟨rfl, hb6⟩
      have hbb6 : Below w.heap.size w w6 := (btrans (btrans hbb3 (Below.refl _ _).drew) hb6)
      clear hHeld
      refine hK.out _ _ (K0.out _ hbb6) (fun hHeld => ?_)
      clear hK K
      try simp only [Act.put, zsA, zsZ, zsS]
      refine wpAnyH_take (i := 9) (oi := ({ dst := some 58, op := .move (.tmp 57), type := 4, pos := "ndfs.go:146", after := #[{ on := 8, ground := .data }, { on := 8, ground := .chain }], guard := none } : Oper)) (v := ?_) rfl (by kernel_rfl) (by kernel_rfl) (by kernel_rfl) (fun _ _ _ h => h) (Or.inl ⟨by rfl, ?_⟩) (by assumption) ?_
      case refine_2 => (intro w hSw; (try dsimp only at hSw); go_simp; try with_reducible rfl)
      try simp only [Act.put, zsA, zsZ, zsS]
      refine wpAnyH_take (i := 10) (oi := ({ dst := some 59, op := .move (.tmp 0), type := 103, pos := "ndfs.go:146", after := #[{ on := 9, ground := .guard }], guard := some (9, true) } : Oper)) (v := ?_) rfl (by kernel_rfl) (by kernel_rfl) (by kernel_rfl) (fun _ _ _ h => h) (Or.inl ⟨by rfl, ?_⟩) (by assumption) ?_
      case refine_2 => (intro w hSw; (try dsimp only at hSw); go_simp; try with_reducible rfl)
      try simp only [Act.put, zsA, zsZ, zsS]
      refine wpAnyH_take (i := 11) (oi := ({ dst := some 60, op := .move (.tmp 6), type := 141, pos := "ndfs.go:146", after := #[{ on := 9, ground := .guard }], guard := some (9, true) } : Oper)) (v := ?_) rfl (by kernel_rfl) (by kernel_rfl) (by kernel_rfl) (fun _ _ _ h => h) (Or.inl ⟨by rfl, ?_⟩) (by assumption) ?_
      case refine_2 => (intro w hSw; (try dsimp only at hSw); go_simp; try with_reducible rfl)
      try simp only [Act.put, zsA, zsZ, zsS]
      refine wpAnyH_take (i := 12) (oi := ({ dst := some 61, op := .nilCheck (.tmp 60), type := 0, pos := "ndfs.go:146", after := #[{ on := 11, ground := .data }, { on := 9, ground := .guard }], guard := some (9, true) } : Oper)) (v := ?_) rfl (by kernel_rfl) (by kernel_rfl) (by kernel_rfl) (fun _ _ _ h => h) (Or.inl ⟨by rfl, ?_⟩) (by assumption) ?_
      case refine_2 => (intro w hSw; (try dsimp only at hSw); go_simp; try with_reducible rfl)
      try simp only [Act.put, zsA, zsZ, zsS]
      refine wpAnyH_take (i := 13) (oi := ({ dst := some 62, op := .fieldAddr 143 (.tmp 61) 0, type := 0, pos := "ndfs.go:146", after := #[{ on := 12, ground := .data }, { on := 9, ground := .guard }], guard := some (9, true) } : Oper)) (v := ?_) rfl (by kernel_rfl) (by kernel_rfl) (by kernel_rfl) (fun _ _ _ h => h) (Or.inl ⟨by rfl, ?_⟩) (by assumption) ?_
      case refine_2 => (intro w hSw; (try dsimp only at hSw); go_simp; try with_reducible rfl)
      try simp only [Act.put, zsA, zsZ, zsS]
      refine wpAnyH_take (i := 14) (oi := ({ dst := some 63, op := .load 82 (.tmp 62), type := 82, pos := "ndfs.go:146", after := #[{ on := 13, ground := .data }, { on := 9, ground := .guard }], guard := some (9, true) } : Oper)) (v := ?_) rfl (by kernel_rfl) (by kernel_rfl) (by kernel_rfl) (fun _ _ _ h => h) (Or.inl ⟨by rfl, ?_⟩) (by assumption) ?_
      case refine_2 => (intro w hSw; (try dsimp only at hSw); go_simp; try with_reducible rfl)
      try simp only [Act.put, zsA, zsZ, zsS]
      refine wpAnyH_ready (rs := [15]) (by kernel_rfl) (by simp) ?_
      refine AllReadyH.cons (o := ({ dst := some 64, op := .call { callee := .value (.func 71), args := #[.tmp 59, .tmp 63], argTypes := #[103, 82] }, type := 4, pos := "ndfs.go:146", after := #[{ on := 10, ground := .data }, { on := 14, ground := .data }, { on := 9, ground := .chain }, { on := 9, ground := .guard }], guard := some (9, true) } : Oper)) rfl (fun K hK => ?_) AllReadyH.nil
      go_simp
      go_at_call 71
      (with_reducible refine (WX.out _ hbb6).mono ?_)
      rintro e w7 ⟨rfl, hTOP⟩
      clear hHeld
      refine hK.out _ _ (hTOP.held) (fun hHeld => ?_)
      clear hK K
      try simp only [Act.put, zsA, zsZ, zsS]
      refine wpAnyH_take (i := 16) (oi := ({ dst := some 65, op := .unOp .not 4 (.tmp 64), type := 4, pos := "ndfs.go:146", after := #[{ on := 15, ground := .data }, { on := 9, ground := .guard }], guard := some (9, true) } : Oper)) (v := ?_) rfl (by kernel_rfl) (by kernel_rfl) (by kernel_rfl) (fun _ _ _ h => h) (Or.inl ⟨by rfl, ?_⟩) (by assumption) ?_
      case refine_2 => (intro w hSw; (try dsimp only at hSw); go_simp; try with_reducible rfl)
      try simp only [Act.put, zsA, zsZ, zsS]
      refine wpAnyH_take (i := 17) (oi := ({ dst := some 66, op := .pick (.tmp 58) (.tmp 65) (.const (.bool false)), type := 4, pos := "ndfs.go:146", after := #[{ on := 9, ground := .data }, { on := 16, ground := .data }], guard := none } : Oper)) (v := ?_) rfl (by kernel_rfl) (by kernel_rfl) (by kernel_rfl) (fun _ _ _ h => h) (Or.inl ⟨by rfl, ?_⟩) (by assumption) ?_
      case refine_2 => (intro w hSw; (try dsimp only at hSw); go_simp; try with_reducible rfl)
      try simp only [Act.put, zsA, zsZ, zsS]
      refine wpAnyH_done (by kernel_rfl) ?_ _
      clear v0 v1 v2 v3 z0 z1 z2 z3 TOP K0 hHeld
      replace hTOP := Lib.hid hTOP
      go_wp2
      obtain ⟨mp, d12, w8, cap, hrun, hg8, hD, hD2⟩ := hTOP.out.drop hK.out hTOT.out
      obtain ⟨u0, u1, u2, _⟩ := hTOP.out.cells
      have hFO := Lib.hid hD2.fin
      have d10 := hD.c10
      have d10b := hD2.c10
      have df := hD.f10
      have dfb := hD2.f10
      have hsl3 := hD.lt
      have hcap := hD.hi
      rw [← hnm] at d10 d10b
      have hcut := fun w' => run_cut_h (P := Try.prog) Try.underlying106 Try.sizeSp (some ⟨g, 0, none⟩) n1 cap m1 (kh := .i64) (H := (m1 : Int)) rfl (by omega) w'
      clear hg8 hD hD2 hcap
      go_region
      go_wp2
      clear hrun u0 u1 u2 d12
      go_region
      go_wp2
      clear d10 d10b df dfb hcut
      go_step3
      exact ⟨rfl, m, Nat.lt_succ_self _, FJ.of (atS sT r) rfl rfl rfl rfl hFO.out q1.out q2.out q3.out q4.out⟩
 ·intro PASS
  have rbb := rb.out
  have y0 := rbb.cell 0
  have y1 := rbb.cell 1
  have y2 := rbb.cell 2
  simp only [List.getElem?_cons_zero, List.getElem?_cons_succ] at y0 y1 y2
  have RW := Lib.hid (RE0.out _ hO0.out)
  clear RE0 hO0 rb rbb hptr
  go_wp2_with fail
  refine RW.out.mono ?_
  rintro e w6 (⟨rfl, s3, r3, hres, hEnd⟩ | ⟨rfl, s3, hO6, q1, q2, q3, q4⟩)
  ·replace hres := Lib.hid hres
   replace hEnd := Lib.hid hEnd
   clear y0 y1 y2 RW PASS
   simp only [Bool.not_false]
   go_wp2
   simp only [Exit.jump]
   go_ret
   rw [hres.out]
   exact ⟨rfl, hEnd.out⟩
  ·replace hO6 := Lib.hid hO6
   replace q1 := Lib.hid q1
   replace q2 := Lib.hid q2
   replace q3 := Lib.hid q3
   replace q4 := Lib.hid q4
   clear y0 y1 y2 RW
   simp only [Bool.not_true]
   go_wp2
   go_step3
   simp only [Exit.then]
   apply_assumption
   refine PASS FO _ _ ?_
   exact FJ.of s3 rfl rfl rfl rfl hO6.out q1.out q2.out q3.out (by rw [q4.out]; exact he0)
end Go.Proofs.Ytfcpfcgcfaacnaa
