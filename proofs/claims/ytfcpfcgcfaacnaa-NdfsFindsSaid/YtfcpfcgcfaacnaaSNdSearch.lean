/- The search whole. Conditions: the product in memory, small. -/
import Derived.Test.YtfcpfcgcfaacnaaSNdSearchP
import Derived.Deep.DeepCutAuto
namespace Go.Proofs.Ytfcpfcgcfaacnaa
open Go.RowKit
theorem heldI (n : Int) : min (max n 0) 65536 = ((heldP n : Nat) : Int) := by unfold heldP; omega
set_option maxHeartbeats 8000000 in
theorem search_any (W0 : World) (p : Nat) (G : GR) (sets : List (List Bool)) (A : AU) (hP : PrAt W0 p G sets A) (lt : Lt G sets A) (C : Nat) (N : Nice (nextP G sets A) (vPP G sets A) C) (hC : C ≤ 3200) (hok : ∀ y, vPP G sets A y → okPP y) (hfv : ∀ y ∈ firstP G A, vPP G sets A y) (hfl : (firstP G A).length ≤ 400) (bn bd : Int) :
  Calls Try.prog 14 #[.pointer (some ⟨p, 0, none⟩), .agg #[.int .i64 bn, .int .i64 bd]] W0 fun e w' => ∃ v, e = .returned v ∧ Below W0.heap.size W0 w' ∧ FoundNew W0.heap.size w' v (searchP G sets A bn bd) := by
 obtain ⟨res, hres⟩ : ∃ res, res = searchP G sets A bn bd := ⟨_, rfl⟩
 rw [← hres]
 have h1 := heldI bn
 have h2 := heldI bd
 obtain ⟨n1, hn1⟩ : ∃ n, n = heldP bn := ⟨_, rfl⟩
 obtain ⟨n2, hn2⟩ : ∃ n, n = heldP bd := ⟨_, rfl⟩
 rw [← hn1] at h1
 rw [← hn2] at h2
 have hbb : Hid ((⟨n1, n2⟩ : NB).n ≤ 65536 ∧ (⟨n1, n2⟩ : NB).d ≤ 65536) := ⟨by show n1 ≤ _; omega, by show n2 ≤ _; omega⟩
 replace hres := Lib.hid hres
 replace hn1 := Lib.hid hn1
 replace hn2 := Lib.hid hn2
 replace N := Lib.hid N
 replace hC := Lib.hid hC
 replace hok := Lib.hid hok
 replace hP := Lib.hid hP
 replace lt := Lib.hid lt
 replace hfv := Lib.hid hfv
 replace hfl := Lib.hid hfl
 go_enter Try.func14, Try.ntmps14
 go_upto_region 1 with (fail)
 go_cut [5] (fun c wx => c = .pointer (some ⟨W0.heap.size + 1 + 1, 0, none⟩) ∧ (∃ a b : Int, RowAt wx (W0.heap.size + 1 + 1) 34 [.int .i64 a, .int .i64 b] ∧ a = n1 ∧ b = n2) ∧ RowAt wx (W0.heap.size + 1) TFd [.int .i64 0, .int .i64 0, .int .i64 0, .int .i64 0, .int .i64 0, .slice none 0 0, .slice none 0 0] ∧ Below W0.heap.size W0 wx)
 case first =>
  obtain ⟨wB, hwB⟩ : ∃ wB, wB = W0.alloc (.cells #[.int .i64 bn, .int .i64 bd] 34) := ⟨_, rfl⟩
  obtain ⟨wC, hwC⟩ : ∃ wC, wC = wB.alloc (.cells #[.int .i64 0, .int .i64 0, .int .i64 0, .int .i64 0, .int .i64 0, .slice none 0 0, .slice none 0 0] TFd) := ⟨_, rfl⟩
  have zB : wB.heap.size = W0.heap.size + 1 := by rw [hwB]; simp
  have zC : wC.heap.size = W0.heap.size + 1 + 1 := by rw [hwC]; simp [zB]
  have rf : RowAt wC (W0.heap.size + 1) TFd [.int .i64 0, .int .i64 0, .int .i64 0, .int .i64 0, .int .i64 0, .slice none 0 0, .slice none 0 0] := by rw [hwC, ← zB]; exact RowAt.new #[.int .i64 0, .int .i64 0, .int .i64 0, .int .i64 0, .int .i64 0, .slice none 0 0, .slice none 0 0] rfl
  have bC : Below W0.heap.size W0 wC := by rw [hwC, hwB]; exact balloc (balloc (Below.refl _ _) _) _
  have FIN : Hid (∀ a b : Int, a = n1 → b = n2 → (∃ c d : Int, RowAt (wC.alloc (.cells #[.int .i64 a, .int .i64 b] 34)) (W0.heap.size + 1 + 1) 34 [.int .i64 c, .int .i64 d] ∧ c = n1 ∧ d = n2) ∧ RowAt (wC.alloc (.cells #[.int .i64 a, .int .i64 b] 34)) (W0.heap.size + 1) TFd [.int .i64 0, .int .i64 0, .int .i64 0, .int .i64 0, .int .i64 0, .slice none 0 0, .slice none 0 0] ∧ Below W0.heap.size W0 (wC.alloc (.cells #[.int .i64 a, .int .i64 b] 34))) := fun a b ha hb =>
   ⟨⟨a, b, by rw [← zC]; exact RowAt.new #[.int .i64 a, .int .i64 b] rfl, ha, hb⟩, rf.below (balloc (Below.refl _ _) _), btrans bC (balloc (Below.refl _ _) _)⟩
  replace FIN : Hid (∀ a b : Int, a = n1 → b = n2 → ∀ v, v = wC.alloc (.cells #[.int .i64 a, .int .i64 b] 34) → (∃ a b : Int, RowAt v (W0.heap.size + 1 + 1) 34 [.int .i64 a, .int .i64 b] ∧ a = n1 ∧ b = n2) ∧ RowAt v (W0.heap.size + 1) TFd [.int .i64 0, .int .i64 0, .int .i64 0, .int .i64 0, .int .i64 0, .slice none 0 0, .slice none 0 0] ∧ Below W0.heap.size W0 v) := fun a b ha hb v hv => by subst hv; exact FIN.out a b ha hb
  subst hwC hwB
  clear zB zC rf bC
  go_wp2
  all_goals (go_meet; exact ⟨rfl, FIN.out _ _ (by omega) (by omega) _ rfl⟩)
 case rest =>
  obtain ⟨rfl, ⟨_, _, hrb, rfl, rfl⟩, hrf, hbw⟩ := hcut
  obtain ⟨W, hW⟩ : ∃ W, W = wc := ⟨_, rfl⟩
  rw [← hW] at hrb hrf hbw ⊢
  clear hW h1 h2
  have t0 : W.cell? ⟨W0.heap.size + 1 + 1, 0, none⟩ = some (.int .i64 (n1 : Int)) := hrb.cell 0
  have t1 : W.cell? ⟨W0.heap.size + 1 + 1, 1, none⟩ = some (.int .i64 (n2 : Int)) := hrb.cell 1
  have hlt := hrb.lt
  have PW := Lib.hid (hP.out.below hbw)
  replace hrf := Lib.hid hrf
  replace hbw := Lib.hid hbw
  clear hrb
  have hmm := @run_makeMap Try.prog
  obtain ⟨K0, hK0⟩ : ∃ K0 : KP, K0 = ⟨fun _ _ _ => True, 0, 0, W⟩ := ⟨_, rfl⟩
  have MD : SrOk W p (W.heap.size + 1 + 1 + 1) ⟨0, 0, W, K0⟩ ⟨n1, n2⟩ (nextP G sets A) startS [] startS.nodes ((((W.alloc (.map #[] 0)).alloc (.map #[] 0)).alloc (.map #[] 0)).alloc (.cells #[.pointer (some ⟨p, 0, none⟩), .int .i64 (n1 : Int), .int .i64 (n2 : Int), .int .i64 0, .int .i64 0, .int .i64 0, .int .i64 0, .int .i64 0, .slice none 0 0, .slice none 0 0, .slice none 0 0, .slice none 0 0, .map (some W.heap.size), .map (some (W.heap.size + 1)), .map (some (W.heap.size + 1 + 1))] TSr)) := SrOk.made W p ⟨n1, n2⟩ (nextP G sets A) K0 (by rw [hK0]; exact fun _ _ _ => trivial) (by rw [hK0])
  obtain ⟨sB, hsB⟩ : ∃ sB, sB = W.heap.size + 1 + 1 + 1 := ⟨_, rfl⟩
  rw [← hsB] at MD
  go_wp2_with fail
  rw [← hsB]
  generalize (((W.alloc (.map #[] 0)).alloc (.map #[] 0)).alloc (.map #[] 0)).alloc (.cells #[.pointer (some ⟨p, 0, none⟩), .int .i64 (n1 : Int), .int .i64 (n2 : Int), .int .i64 0, .int .i64 0, .int .i64 0, .int .i64 0, .int .i64 0, .slice none 0 0, .slice none 0 0, .slice none 0 0, .slice none 0 0, .map (some W.heap.size), .map (some (W.heap.size + 1)), .map (some (W.heap.size + 1 + 1))] TSr) = W4 at MD ⊢
  clear hsB hmm t0 t1 hK0
  have FA := first_any W4 p G sets A (PW.out.below MD.low) lt.out
  replace MD := Lib.hid MD
  replace FA := Lib.hid FA
  refine FA.out.mono ?_
  rintro e w5 ⟨fa, fc, rfl, hQ, hb5⟩
  clear FA
  obtain ⟨K, hK⟩ : ∃ K : KP, K = ⟨fun _ _ _ => True, W4.heap.size, w5.heap.size, w5⟩ := ⟨_, rfl⟩
  have hO5 : Hid (SrOk W p sB ⟨0, 0, W, K⟩ ⟨n1, n2⟩ (nextP G sets A) startS [] startS.nodes w5) := by
   show SrOk _ _ _ _ _ _ _ _ _ _
   rw [hK]
   exact MD.out.reserve2 hb5 (fun _ _ _ => True) (fun _ _ _ => trivial)
  have hKf : Hid (∀ a c S, K.f a c S) := by
   show ∀ a c S, K.f a c S
   rw [hK]
   exact fun _ _ _ => trivial
  have FR : Hid (∀ (s : NS) v, SrOk W p sB ⟨0, 0, W, K⟩ ⟨n1, n2⟩ (nextP G sets A) s [] s.nodes v → PpsAt v fa (firstP G A)) := fun s v hv => by
   refine SrOk.first hv (a := fa) (l := firstP G A) ?_ (fun ad had => ?_)
   ·show PpsAt K.w fa (firstP G A)
    rw [hK]
    exact PpsAt.of_own hQ
   ·show K.lo ≤ ad.block ∧ ad.block < K.hi
    rw [hK]
    exact OwnR.lt hQ (j := ad.block) (by rw [had]; rfl)
  obtain ⟨M, hM⟩ : ∃ M, M = FO * (FI + 2) := ⟨_, rfl⟩
  have hE : Hid (400 * M ≤ 4000000000000000000) := by
   show _ ≤ _
   rw [hM]
   unfold FO FI
   decide
  replace hM := Lib.hid hM
  have hst : Hid (searchF ⟨n1, n2⟩ (nextP G sets A) (inP G sets A) ((firstP G A).drop 0) startS = res) := by
   show _ = _
   rw [hres.out, hn1.out, hn2.out]
   rfl
  obtain ⟨nf, hnf⟩ : ∃ nf, nf = (firstP G A).length := ⟨_, rfl⟩
  have hnf4 : nf ≤ 400 := by rw [hnf]; exact hfl.out
  rw [← hnf]
  replace hnf := Lib.hid hnf
  clear hK hQ hb5 MD hres hn1 hn2
  go_wp2
  go_loopw [28] (fun kv wr => ∃ (k : Nat) (s : NS), kv = .int .i64 (k : Int) ∧ k ≤ nf ∧ Hid (SrOk W p sB ⟨0, 0, W, K⟩ ⟨n1, n2⟩ (nextP G sets A) s [] s.nodes wr) ∧ Hid (searchF ⟨n1, n2⟩ (nextP G sets A) (inP G sets A) ((firstP G A).drop k) s = res) ∧ Hid (NInv ⟨n1, n2⟩ (nextP G sets A) (vPP G sets A) s) ∧ Hid (s.ot = []) ∧ Hid (s.edges + (400 - k) * M ≤ 400 * M)) (fun kv _ => nf - (intOf kv).toNat)
  case atStart => exact ⟨0, startS, rfl, Nat.zero_le _, hO5, hst, NInv.start _ _ _, rfl, (by show 0 + (400 - 0) * M ≤ 400 * M; omega)⟩
  case round =>
   obtain ⟨k, s, rfl, hk, hO, hr, hI, ho, hEk⟩ := hrel
   clear hst hO5
   by_cases hkn : k < nf
   ·have hkN : (k : Int) < (nf : Int) := by omega
    have hkl : k < (firstP G A).length := by have := hnf.out; omega
    obtain ⟨y, hy⟩ : ∃ y, y = (firstP G A)[k] := ⟨_, rfl⟩
    have hyv := hfv.out y (by rw [hy]; exact List.getElem_mem _)
    have hdr : (firstP G A).drop k = y :: (firstP G A).drop (k + 1) := by rw [hy]; exact List.drop_eq_getElem_cons hkl
    obtain ⟨fb, fo, rfl, hfbl, y0, y1, y2⟩ := (FR.out s wr hO.out).at k hkl
    rw [← hy] at y0 y1 y2
    replace hy := Lib.hid hy
    have hO2 : Hid (SrOk W p sB ⟨0, 0, W, K⟩ ⟨n1, n2⟩ (nextP G sets A) s [] s.nodes (wr.alloc (.cells #[.int .i64 y.node, .int .i64 y.state, .int .i64 y.turn] TPP))) := hO.out.below (balloc (Below.refl _ _) _)
    have rY : Hid (RowAt (wr.alloc (.cells #[.int .i64 y.node, .int .i64 y.state, .int .i64 y.turn] TPP)) wr.heap.size TPP [.int .i64 y.node, .int .i64 y.state, .int .i64 y.turn]) := RowAt.new #[.int .i64 y.node, .int .i64 y.state, .int .i64 y.turn] rfl
    obtain ⟨yb, hyb⟩ : ∃ yb, yb = wr.heap.size := ⟨_, rfl⟩
    rw [← hyb] at rY
    rw [hdr] at hr
    replace hyv := Lib.hid hyv
    clear hdr hy hkl
    go_wp2
    rw [← hyb]
    clear hyb y0 y1 y2
    generalize wr.alloc (.cells #[.int .i64 y.node, .int .i64 y.state, .int .i64 y.turn] TPP) = w2 at hO2 rY ⊢
    obtain ⟨mr, d13, hlk⟩ := hO2.out.cells
    replace hlk := hlk y (hok.out y hyv.out)
    have y0 : w2.cell? ⟨yb, 0, none⟩ = some (.int .i64 y.node) := rY.out.cell 0
    have y1 : w2.cell? ⟨yb, 1, none⟩ = some (.int .i64 y.state) := rY.out.cell 1
    have y2 : w2.cell? ⟨yb, 2, none⟩ = some (.int .i64 y.turn) := rY.out.cell 2
    have hO3 : Hid (SrOk W p sB ⟨0, 0, W, K⟩ ⟨n1, n2⟩ (nextP G sets A) s [] s.nodes w2.drew) := hO2.out.below (Below.refl _ _).drew
    by_cases hin : y ∈ s.reached
    ·rw [decide_eq_true hin] at hlk
     have hr2 := Lib.hid ((searchF_skip (l := (firstP G A).drop (k + 1)) hin).symm.trans hr.out)
     have hE2 : Hid (s.edges + (400 - (k + 1)) * M ≤ 400 * M) := by
      show _ ≤ _
      have h1 := hEk.out
      have h2 : (400 - (k + 1)) * M ≤ (400 - k) * M := Nat.mul_le_mul_right _ (by omega)
      omega
     clear hin
     go_region
     go_wp2
     clear hlk y0 y1 y2 d13
     go_roundw
     case rel => exact ⟨k + 1, s, by go_num, by omega, hO3, hr2, hI, ho, hE2⟩
     case measure => simp [intOf]; omega
    ·rw [decide_eq_false hin] at hlk
     have hwM : s.edges + FO * (FI + 2) ≤ 400 * M := by
      have h1 := hEk.out
      rw [← hM.out]
      have h2 : 1 * M ≤ (400 - k) * M := Nat.mul_le_mul_right _ (by omega)
      omega
     have FM := fun v hv => from_any K hKf.out W p sB ⟨n1, n2⟩ G sets A (PW.out) lt.out C (400 * M) N.out hC.out hE.out hok.out hbb.out s v y hv hI.out ho.out hin hyv.out hwM
     have FX : (∃ s3 r3, res = r3 ∧ ∀ v, SrOk W p sB ⟨0, 0, W, K⟩ ⟨n1, n2⟩ (nextP G sets A) s [] s.nodes v → Calls Try.prog 39 #[.pointer (some ⟨sB, 0, none⟩), .agg #[.int .i64 y.node, .int .i64 y.state, .int .i64 y.turn]] v fun e w' => e = .returned (.bool false) ∧ EndAt W sB r3 w' ∧ s3 = s) ∨ (∃ s3, searchF ⟨n1, n2⟩ (nextP G sets A) (inP G sets A) ((firstP G A).drop (k + 1)) s3 = res ∧ NInv ⟨n1, n2⟩ (nextP G sets A) (vPP G sets A) s3 ∧ s3.ot = [] ∧ s3.edges + (400 - (k + 1)) * M ≤ 400 * M ∧ ∀ v, SrOk W p sB ⟨0, 0, W, K⟩ ⟨n1, n2⟩ (nextP G sets A) s [] s.nodes v → Calls Try.prog 39 #[.pointer (some ⟨sB, 0, none⟩), .agg #[.int .i64 y.node, .int .i64 y.state, .int .i64 y.turn]] v fun e w' => e = .returned (.bool true) ∧ SrOk W p sB ⟨0, 0, W, K⟩ ⟨n1, n2⟩ (nextP G sets A) s3 [] s3.nodes w') := by
      obtain ⟨ri, hri⟩ : ∃ ri, ri = fromF ⟨n1, n2⟩ (nextP G sets A) (inP G sets A) s y := ⟨_, rfl⟩
      rw [← hri] at FM
      match ri, hri, FM with
      | (s3, some r3), hri, FM => exact .inl ⟨s, r3, hr.out.symm.trans (searchF_end hin hri.symm), fun v hv => (FM v hv).mono fun e w' hG => ⟨hG.1, hG.2, rfl⟩⟩
      | (s3, none), hri, FM =>
       obtain ⟨q1, q2, q3⟩ := fromF_done N.out hC.out hI.out ho.out hin hyv.out hri.symm
       refine .inr ⟨s3, (searchF_go hin hri.symm).symm.trans hr.out, q1, q2, ?_, FM⟩
       have h1 := hEk.out
       rw [← hM.out] at q3
       have h2 : (400 - k) * M = (400 - (k + 1)) * M + M := by
        have : 400 - k = (400 - (k + 1)) + 1 := by omega
        rw [this, Nat.succ_mul]
       omega
     clear hin FM hwM hr hI ho hEk hO hO2
     rcases FX with ⟨s3, rr, hres, FX⟩ | ⟨s3, q1, q2, q3, q4, FX⟩
     ·replace FX := Lib.hid (FX _ hO3.out)
      replace hres := Lib.hid hres
      go_region_with (go_at_call 39; refine FX.out.mono ?_; rintro e w6 ⟨rfl, hEnd, _⟩)
      all_goals (
       obtain ⟨hlo, rv, sa, sc, la, lc, hrw, hle, r3, r4, r5, r6, r7, r8, r9, p1, p2⟩ := hEnd
       have d3 := (hrw.cell 3).trans r3
       have d4 := (hrw.cell 4).trans r4
       have d5 := (hrw.cell 5).trans r5
       have d6 := (hrw.cell 6).trans r6
       have d7 := (hrw.cell 7).trans r7
       have d8 := (hrw.cell 8).trans r8
       have d9 := (hrw.cell 9).trans r9
       have rF := hrf.out.below hlo
       have g0 := rF.free 0
       have g1 := rF.free 1
       have g2 := rF.free 2
       have g3 := rF.free 3
       have g4 := rF.free 4
       have g5 := rF.free 5
       have g6 := rF.free 6
       have e0 := rF.cell 0
       have e1 := rF.cell 1
       have e2 := rF.cell 2
       have e3 := rF.cell 3
       have e4 := rF.cell 4
       have e5 := rF.cell 5
       have e6 := rF.cell 6
       simp only [List.getElem?_cons_zero, List.getElem?_cons_succ] at e0 e1 e2 e3 e4 e5 e6
       have gl := rF.lt
       have hne : W0.heap.size + 1 ≠ sB := by omega
       clear hrw r3 r4 r5 r6 r7 r8 r9 hrf
       obtain ⟨p1, q1⟩ := p1
       obtain ⟨p2, q2⟩ := p2
       have FIN := Lib.hid (fun w' hw => found_end (w' := w') (sc := sc) (lc := lc) rF (btrans hbw.out hlo) (Nat.le_succ _) p1 (fun ad had => by have := q1 ad had; omega) p2 (fun ad had => by have := q2 ad had; omega) hw)
       have q1' : Hid (∀ ad, sa = some ad → W0.heap.size ≤ ad.block) := fun ad had => by have := q1 ad had; omega
       have q2' : Hid (∀ ad, la = some ad → W0.heap.size ≤ ad.block) := fun ad had => by have := q2 ad had; omega
       clear p1 p2 q1 q2
       replace hlo := Lib.hid hlo
       replace rF := Lib.hid rF
       clear hlk y0 y1 y2 d13 FX
       go_wp2)
      all_goals (
       obtain ⟨rr7, b7, s7, l7⟩ := FIN.out _ rfl
       have c0 := rr7.cell 0
       have c1 := rr7.cell 1
       have c2 := rr7.cell 2
       have c3 := rr7.cell 3
       have c4 := rr7.cell 4
       have c5 := rr7.cell 5
       have c6 := rr7.cell 6
       simp only [fcells, List.getElem?_cons_zero, List.getElem?_cons_succ] at c0 c1 c2 c3 c4 c5 c6
       generalize (((((((w6.setCell _ _).setCell _ _).setCell _ _).setCell _ _).setCell _ _).setCell _ _).setCell _ _) = w7 at rr7 b7 s7 l7 c0 c1 c2 c3 c4 c5 c6 ⊢
       refine bodyPost_ret (v := .agg (fcells rr sa sc la lc).toArray) (by simp [results, Try.results14, go_sem, c0, c1, c2, c3, c4, c5, c6, fcells]) rfl ⟨_, rfl, b7, ?_⟩
       rw [hres.out]
       exact ⟨sa, sc, la, lc, rfl, ⟨s7, q1'.out⟩, ⟨l7, q2'.out⟩⟩)
     ·replace FX := Lib.hid (FX _ hO3.out)
      replace q1 := Lib.hid q1
      replace q2 := Lib.hid q2
      replace q3 := Lib.hid q3
      replace q4 := Lib.hid q4
      go_region_with (go_at_call 39; refine FX.out.mono ?_; rintro e w6 ⟨rfl, hO6⟩)
      all_goals (replace hO6 := Lib.hid hO6; clear hlk y0 y1 y2 d13 FX)
      all_goals (go_wp2; go_roundw)
      all_goals first
       | exact ⟨k + 1, s3, by go_num, by omega, hO6, q1, q2, q3, q4⟩
       | (simp [intOf]; omega)
   ·obtain rfl : k = nf := by omega
    have hk0 : Hid (res = ⟨1, 0, s.nodes, s.edges, s.depth, [], []⟩) := by
     show _ = _
     have h1 := hr.out
     rw [List.drop_eq_nil_of_le (by rw [hnf.out]; exact Nat.le_refl _)] at h1
     exact h1.symm
    obtain ⟨rv, hrw, hle, r3, r4, r5, r6, r7, r8, r9⟩ := hO.out.found
    have d4 : wr.cell? ⟨sB, 4, none⟩ = some (.int .i64 0) := (hrw.cell 4).trans r4
    have d5 : wr.cell? ⟨sB, 5, none⟩ = some (.int .i64 (s.nodes : Int)) := (hrw.cell 5).trans r5
    have d6 : wr.cell? ⟨sB, 6, none⟩ = some (.int .i64 (s.edges : Int)) := (hrw.cell 6).trans r6
    have d7 : wr.cell? ⟨sB, 7, none⟩ = some (.int .i64 (s.depth : Int)) := (hrw.cell 7).trans r7
    have d8 : wr.cell? ⟨sB, 8, none⟩ = some (.slice none 0 0) := (hrw.cell 8).trans r8
    have d9 : wr.cell? ⟨sB, 9, none⟩ = some (.slice none 0 0) := (hrw.cell 9).trans r9
    have d3 : wr.cell? ⟨sB, 3, none⟩ = some (.int .i64 0) := (hrw.cell 3).trans r3
    have f3 := hrw.free 3
    have hlo := hO.out.low
    have rF := hrf.out.below hlo
    have g0 := rF.free 0
    have g1 := rF.free 1
    have g2 := rF.free 2
    have g3 := rF.free 3
    have g4 := rF.free 4
    have g5 := rF.free 5
    have g6 := rF.free 6
    have e0 := rF.cell 0
    have e1 := rF.cell 1
    have e2 := rF.cell 2
    have e3 := rF.cell 3
    have e4 := rF.cell 4
    have e5 := rF.cell 5
    have e6 := rF.cell 6
    simp only [List.getElem?_cons_zero, List.getElem?_cons_succ] at e0 e1 e2 e3 e4 e5 e6
    have gl := rF.lt
    have hne : W0.heap.size + 1 ≠ sB := by omega
    clear hrw r3 r4 r5 r6 r7 r8 r9 hrf
    have rF3 := rF.other (Ne.symm hne) 3 (.int .i64 1)
    have b3 : Below W0.heap.size W0 (wr.setCell ⟨sB, 3, none⟩ (.int .i64 1)) := bsetN (btrans hbw.out hlo) (by omega)
    have FIN := Lib.hid (fun w' hw => found_end (w' := w') (rr := ⟨1, 0, s.nodes, s.edges, s.depth, [], []⟩) (sa := none) (la := none) (sc := 0) (lc := 0) rF3 b3 (Nat.le_succ _) (fun h => by cases h) (fun ad had => by cases had) (fun h => by cases h) (fun ad had => by cases had) hw)
    clear rF3 b3
    replace rF := Lib.hid rF
    replace hlo := Lib.hid hlo
    go_wp2
    obtain ⟨rr7, b7, s7, l7⟩ := FIN.out _ rfl
    have c0 := rr7.cell 0
    have c1 := rr7.cell 1
    have c2 := rr7.cell 2
    have c3 := rr7.cell 3
    have c4 := rr7.cell 4
    have c5 := rr7.cell 5
    have c6 := rr7.cell 6
    simp only [fcells, List.getElem?_cons_zero, List.getElem?_cons_succ, List.length_nil, Int.natCast_one, Int.natCast_zero] at c0 c1 c2 c3 c4 c5 c6
    refine bodyPost_ret (v := .agg (fcells ⟨1, 0, s.nodes, s.edges, s.depth, [], []⟩ none 0 none 0).toArray) (by simp [results, Try.results14, go_sem, c0, c1, c2, c3, c4, c5, c6, fcells]) rfl ⟨_, rfl, b7, ?_⟩
    rw [hk0.out]
    exact ⟨none, 0, none, 0, rfl, ⟨s7, fun ad had => by cases had⟩, ⟨l7, fun ad had => by cases had⟩⟩
end Go.Proofs.Ytfcpfcgcfaacnaa
