/- The document's all. Conditions: the bounds of a graph and an automaton. -/
import Derived.Test.YtnllgigolfakpaaGrAllP
namespace Go.Proofs.Ytnllgigolfakpaa
open Go.RowKit

set_option maxRecDepth 10000 in
set_option maxHeartbeats 8000000 in
theorem all_any (W : World) (ai an : Option Addr) (ni ci cn : Nat) (A : AU) (hN : NodesAt W an A.nodes) (s : Nat) (hs : A.sets = (s : Int)) (hs16 : s ≤ 16) (ae : Option Addr) (ce : Nat) (es : List (List Nat)) (hE : GrAt W ae es) (ok : GrOk 1000000 es)
    (af : Option Addr) (cf : Nat) (fl : List Nat) (hF : NumsAt .i64 W af (ints fl)) (hfe : fl.length = es.length) (hfl : ∀ q ∈ fl, q < A.nodes.length) :
    Calls Try.prog 31 #[.agg #[.int .i64 A.sets, .slice ai ni ci, .slice an A.nodes.length cn], GV none 0 0 ae es.length ce none 0 0, .slice af fl.length cf] W (GivesMarks W es.length (GoodG A fl es s)) := by
  have WI := Lib.hid (fun w' (hb : Below W.heap.size W w') az cz zs (hZ : BsAt w' az zs) (hzl : zs.length = es.length) => within_any w' none 0 0 ae ce none 0 0 es (hE.below hb) ok az cz zs hZ hzl)
  have LI := Lib.hid (fun w' (hb : Below W.heap.size W w') az cz zs (hZ : BsAt w' az zs) (hzl : zs.length = es.length) (i : Int) (hi : -1 ≤ i ∧ i < 64) => by
    have h1 := lies_any w' ai an ni ci cn A (hN.below hb) az cz zs hZ af cf fl (hF.below hb) (by rw [hzl, hfe]) hfl (by rw [hfe]; exact ok.len) i hi
    rw [hfe] at h1
    exact h1)
  have BE := Lib.hid (fun w' zs (hzl : zs.length = es.length) ag cg gl g c (hE' : GrAt w' (some ⟨g, 0, none⟩) (wiL zs es)) (hG : BsAt w' ag gl) (hgl : gl.length = es.length) => by
    have h1 := behind_any w' (some ⟨g, 0, none⟩) c (wiL zs es) hE' (wiL_ok ok) ag cg gl hG (by rw [wiL_len]; exact hgl)
    rw [wiL_len] at h1
    exact h1)
  have hlen := ok.len
  obtain ⟨n, hn⟩ : ∃ n, n = es.length := ⟨_, rfl⟩
  rw [hfe]
  rw [← hn] at WI LI BE hlen ⊢
  replace hn := Lib.hid hn
  obtain ⟨nn, hnn⟩ : ∃ nn, nn = A.nodes.length := ⟨_, rfl⟩
  rw [← hnn] at LI ⊢
  obtain ⟨w1, hw1⟩ : ∃ w1, w1 = (W.alloc (.cells #[.int .i64 A.sets, .slice ai ni ci, .slice an nn cn] AUT)).alloc (.cells #[.slice none 0 0, .slice ae n ce, .slice none 0 0] TGr) := ⟨_, rfl⟩
  have hb1 : Below W.heap.size W w1 := by rw [hw1]; exact balloc (balloc (Below.refl _ _) _) _
  have r1 : RowAt w1 W.heap.size AUT [.int .i64 A.sets, .slice ai ni ci, .slice an nn cn] := by rw [hw1]; exact (RowAt.new (w := W) #[.int .i64 A.sets, .slice ai ni ci, .slice an nn cn] rfl).alloc _
  have r2 : RowAt w1 (W.heap.size + 1) TGr (GC none 0 0 ae n ce none 0 0) := by rw [hw1]; exact RowAt.new #[.slice none 0 0, .slice ae n ce, .slice none 0 0] (by simp)
  have hby : Hid (1 * n ≤ 281474976710656) := by show _ ≤ _; omega
  have hn2 : (n : Int) ≤ 1000000 := by omega
  have hn0 : 0 ≤ (n : Int) := by omega
  rw [hs] at r1 LI hw1 ⊢
  have hs2 : (s : Int) ≤ 16 := by omega
  replace hb1 := Lib.hid hb1
  replace r1 := Lib.hid r1
  replace r2 := Lib.hid r2
  clear hN hE ok hF hfe hfl hlen hnn hs
  go_enter Try.func31, Try.ntmps31
  go_wp2_with (at_make; refine wp_makeRow rfl _ _ _ TyB (.bool false) 1 rfl Try.underlying32 infoBl rfl n rfl rfl hby.out (by decide) ?_)
  intro w2 hM hb2 hlt2
  have hz1 : w1.heap.size = W.heap.size + 1 + 1 := by rw [hw1]; simp
  have hb2 : Below w1.heap.size w1 w2 := by rw [hw1]; simpa using hb2
  obtain ⟨g, hg⟩ : ∃ g, g = W.heap.size + 1 + 1 := ⟨_, rfl⟩
  rw [← hg] at hM hlt2 hz1
  have rw0 : Hid (RowAt w2 g TyB ((firstT n 0).map .bool)) := by show RowAt _ _ _ _; rw [firstT_start, List.map_replicate]; exact hM
  have bw2 := Lib.hid (btrans hb1.out hb2)
  have t1 := Lib.hid (r1.out.below hb2)
  have t2 := Lib.hid (r2.out.below hb2)
  have hXg : W.heap.size + 1 < g := by omega
  have e2 : W.heap.size + 1 + 1 = g := hg.symm
  try rw [e2]
  clear hM hb2 hlt2 hb1 r1 r2 hg e2 hz1 hw1 hby
  go_wp2
  go_loopw [8] (fun kv wr => ∃ k : Nat, k ≤ n ∧ kv = .int .i64 k ∧ Hid (RowAt wr g TyB ((firstT n k).map .bool)) ∧ Hid (Below W.heap.size W wr) ∧ Hid (RowAt wr W.heap.size AUT [.int .i64 (s : Int), .slice ai ni ci, .slice an nn cn]) ∧ Hid (RowAt wr (W.heap.size + 1) TGr (GC none 0 0 ae n ce none 0 0))) (fun kv _ => n - (intOf kv).toNat)
  case atStart => exact ⟨0, Nat.zero_le _, rfl, rw0, bw2, t1, t2⟩
  case round =>
    obtain ⟨k, hk, rfl, row, lo, q1, q2⟩ := hrel
    clear rw0 bw2 t1 t2
    by_cases hkn : k < n
    · have hkn2 : (k : Int) < (n : Int) := by omega
      have hcur : wr.cell? ⟨g, k, none⟩ = some (.bool (decide (k < k))) := by
        rw [row.out.cell]
        simp [firstT, hkn]
      have hfz := row.out.free k
      have hk9 := Keeps.set wr g k (.bool true) (S := fun j => j = g) rfl
      have n1 : Hid (RowAt (wr.setCell ⟨g, k, none⟩ (.bool true)) g TyB ((firstT n (k + 1)).map .bool)) := by
        have h1 := row.out.set k (.bool true)
        rw [← List.map_set, firstT_set] at h1
        exact h1
      have n2 := Lib.hid (hk9.below lo.out (fun j hj => by omega))
      have n3 := Lib.hid (q1.out.keeps hk9 (by omega))
      have n4 := Lib.hid (q2.out.keeps hk9 (by omega))
      replace hk9 := Lib.hid hk9
      clear row lo q1 q2
      go_wp2
      go_roundw
      case rel => exact ⟨k + 1, by omega, by go_num, n1, n2, n3, n4⟩
      case measure => simp [intOf]; omega
    · obtain rfl : k = n := by omega
      have fin0 : Hid (∃ zs : List Bool, RowAt wr g TyB (zs.map .bool) ∧ zs.length = k ∧ ∀ Y, ClosedG A fl es s Y → ∀ p, Y p → inZ zs p = true) := ⟨firstT k k, row.out, by simp [firstT], fun Y hY p hp => firstT_all (by have := (hY p hp).1; have := hn.out; omega)⟩
      obtain ⟨zs0, hz0, hzl0, hza0⟩ := fin0.out
      replace hz0 := Lib.hid hz0
      replace hzl0 := Lib.hid hzl0
      replace hza0 := Lib.hid hza0
      have hgW : W.heap.size ≤ g := by omega
      have hq1 := q1
      have hq2 := q2
      have hlo := lo
      obtain ⟨wo, hwo⟩ : ∃ wo, wo = wr := ⟨_, rfl⟩
      subst hwo
      clear row hkn fin0 lo q1 q2
      go_wp2
      go_loopg [6, 7] (cntB k zs0) (fun q res zv wr => ∃ (gz : Nat) (zs : List Bool), res = .slice none 0 0 ∧ zv = .slice (some ⟨gz, 0, none⟩) k k ∧ W.heap.size ≤ gz ∧ Hid (RowAt wr gz TyB (zs.map .bool)) ∧ Hid (zs.length = k) ∧ Hid (∀ Y, ClosedG A fl es s Y → ∀ p, Y p → inZ zs p = true) ∧ Hid (cntB k zs ≤ q) ∧ Hid (Below wo.heap.size wo wr)) 
      case atStart => exact ⟨g, zs0, rfl, rfl, hgW, hz0, hzl0, hza0, Nat.le_refl _, Below.refl _ _⟩
      case round =>
        obtain ⟨gz, zs, rfl, rfl, hgz, hz, hzl, hza, hcq, lo⟩ := hrel
        clear hz0 hzl0 hza0
        have inv0 : Hid (AllInv A fl es s zs zs (-1)) := AllInv.start (by rw [hzl.out]; exact hn.out) hza.out
        go_wp2
        go_loopw [9, 10] (fun nv iv wr => ∃ (i : Int) (gn : Nat) (nx : List Bool), -1 ≤ i ∧ i ≤ (s : Int) ∧ iv = .int .i64 i ∧ nv = .slice (some ⟨gn, 0, none⟩) k k ∧ W.heap.size ≤ gn ∧ Hid (RowAt wr gn TyB (nx.map .bool)) ∧ Hid (RowAt wr gz TyB (zs.map .bool)) ∧ Hid (AllInv A fl es s zs nx i) ∧ Hid (Below wo.heap.size wo wr)) (fun _ iv _ => ((s : Int) - intOf iv).toNat)
        case atStart => exact ⟨-1, gz, zs, by omega, by omega, rfl, rfl, hgz, hz, hz, inv0, lo⟩
        case round =>
          obtain ⟨i, gn, nx, hi1, hi2, rfl, rfl, hgn, hx, hz, inv, lo⟩ := hrel
          clear inv0
          have a0 : wr.cell? ⟨W.heap.size, 0, none⟩ = some (.int .i64 (s : Int)) := (hq1.out.below lo.out).cell 0
          have a1 : wr.cell? ⟨W.heap.size, 1, none⟩ = some (.slice ai ni ci) := (hq1.out.below lo.out).cell 1
          have a2 : wr.cell? ⟨W.heap.size, 2, none⟩ = some (.slice an nn cn) := (hq1.out.below lo.out).cell 2
          have b0 : wr.cell? ⟨W.heap.size + 1, 0, none⟩ = some (.slice none 0 0) := (hq2.out.below lo.out).cell 0
          have b1 : wr.cell? ⟨W.heap.size + 1, 1, none⟩ = some (.slice ae k ce) := (hq2.out.below lo.out).cell 1
          have b2 : wr.cell? ⟨W.heap.size + 1, 2, none⟩ = some (.slice none 0 0) := (hq2.out.below lo.out).cell 2
          by_cases his : i < (s : Int)
          · have hnl : Hid (nx.length = k) := by show _ = _; rw [inv.out.len]; exact hn.out.symm
            have SB : Hid (∀ w', Below wr.heap.size wr w' → w'.cell? ⟨W.heap.size, 0, none⟩ = some (.int .i64 (s : Int)) ∧ w'.cell? ⟨W.heap.size, 1, none⟩ = some (.slice ai ni ci) ∧ w'.cell? ⟨W.heap.size, 2, none⟩ = some (.slice an nn cn) ∧ w'.cell? ⟨W.heap.size + 1, 0, none⟩ = some (.slice none 0 0) ∧ w'.cell? ⟨W.heap.size + 1, 1, none⟩ = some (.slice ae k ce) ∧ w'.cell? ⟨W.heap.size + 1, 2, none⟩ = some (.slice none 0 0)) := fun w' hb => ⟨bcell hb a0, bcell hb a1, bcell hb a2, bcell hb b0, bcell hb b1, bcell hb b2⟩
            have hBW := Lib.hid (btrans hlo.out lo.out)
            have BX := Lib.hid (BsAt.of_row hx.out)
            have hli : Hid (-1 ≤ i ∧ i < 64) := ⟨hi1, by omega⟩
            have hll : Hid ((liesT A nx fl i k k).length = k) := liesT_len _ _ _ _ _ _
            have hstep : Hid (∀ xs : List Bool, xs.length = k → (∀ v, v < k → (xs.getD v false = true ↔ ∃ t, (liesT A nx fl i k k).getD t false = true ∧ Way (GE (wiL nx es)) All v t)) → AllInv A fl es s zs xs (i + 1)) := fun xs hxl hxp => by
              refine inv.out.step ⟨hi1, his⟩ (by rw [hxl]; exact hn.out) (fun v hv => ?_)
              have hvk : v < k := by have := hn.out; omega
              rw [show inZ xs v = xs.getD v false from rfl, hxp v hvk]
              have hto : ∀ t, Way (GE (wiL nx es)) All v t → t < k := fun t ht => by
                have h1 := (wi_way inv.out.len).1 ht
                have h2 := inZ_lt h1.lst
                rw [hnl.out] at h2
                exact h2
              constructor
              · rintro ⟨t, h1, h2⟩
                rw [liesT_done (hto t h2)] at h1
                exact ⟨t, h1, h2⟩
              · rintro ⟨t, h1, h2⟩
                refine ⟨t, ?_, h2⟩
                rw [liesT_done (hto t h2)]
                exact h1
            clear inv
            go_wp2
            go_region_held3 (fun w' => w'.cell? ⟨W.heap.size, 0, none⟩ = some (.int .i64 (s : Int)) ∧ w'.cell? ⟨W.heap.size, 1, none⟩ = some (.slice ai ni ci) ∧ w'.cell? ⟨W.heap.size, 2, none⟩ = some (.slice an nn cn) ∧ w'.cell? ⟨W.heap.size + 1, 0, none⟩ = some (.slice none 0 0) ∧ w'.cell? ⟨W.heap.size + 1, 1, none⟩ = some (.slice ae k ce) ∧ w'.cell? ⟨W.heap.size + 1, 2, none⟩ = some (.slice none 0 0)) (first | exact SB.out _ B3 | exact SB.out _ B2 | exact SB.out _ B1 | exact SB.out _ (Below.refl _ _) | exact SB.out _ (Below.refl _ _).drew) (first
              | (go_at_call 37; (with_reducible refine (BE.out _ nx hnl.out _ _ (liesT A nx fl i k k) gW cW (hWi.below hbL) (BsAt.of_row hLr) hll.out).mono ?_); rintro e w5 ⟨gR, xs, rfl, hR1, hR2, hR3, hbR, hR4⟩; have B3 : Below wr.heap.size wr w5 := btrans B2 hbR)
              | (go_at_call 39; (with_reducible refine (LI.out _ (btrans hBW.out B1) _ _ nx (BX.out.below B1) hnl.out i hli.out).mono ?_); rintro e w4 ⟨gL, rfl, hLr, hbL⟩; have B2 : Below wr.heap.size wr w4 := btrans B1 hbL)
              | (go_at_call 38; (with_reducible refine (WI.out _ hBW.out.drew _ _ nx (BX.out.below (Below.refl _ _).drew) hnl.out).mono ?_); rintro e w3 ⟨gW, cW, rfl, hWi, hbW⟩; have B1 : Below wr.heap.size wr w3 := ⟨hbW.os, hbW.tape, hbW.output, hbW.size, hbW.block⟩))
            have inv2 := Lib.hid (hstep.out xs hR2 hR3)
            have lo5 := Lib.hid (btrans lo.out B3)
            have hz5 := Lib.hid (hz.out.below B3)
            have hgR : W.heap.size ≤ gR := by have := hBW.out.size; have := B2.size; omega
            replace hR1 := Lib.hid hR1
            clear a0 a1 a2 b0 b1 b2 SB hBW BX hli hll hstep hWi hLr hR2 hR3 hR4 hbR hbL hbW B1 B2 B3 lo hz hx
            go_wp2
            go_roundw
            case rel => exact ⟨i + 1, gR, xs, by omega, by omega, by go_num, rfl, hgR, hR1, hz5, inv2, lo5⟩
            case measure => simp [intOf]; omega
          · obtain rfl : i = (s : Int) := by omega
            obtain ⟨wi, hwi⟩ : ∃ wi, wi = wr := ⟨_, rfl⟩
            subst hwi
            have hnl : Hid (nx.length = k) := by show _ = _; rw [inv.out.len]; exact hn.out.symm
            go_wp2
            clear a0 a1 a2 b0 b1 b2
            go_loopw [11, 12] (fun bv vv wr => ∃ (v m : Nat) (b : Bool), v ≤ k ∧ vv = .int .i64 v ∧ bv = .bool b ∧ Hid (b = lost zs nx v) ∧ wr = wi.drewN m) (fun _ vv _ => k - (intOf vv).toNat)
            case atStart => exact ⟨0, 0, false, Nat.zero_le _, rfl, rfl, rfl, rfl⟩
            case round =>
              obtain ⟨v, m, b, hv, rfl, rfl, hb, rfl⟩ := hrel
              by_cases hvk : v < k
              · have hvk2 : (v : Int) < (k : Int) := by omega
                have hls := lost_succ zs nx v
                rw [← hb.out] at hls
                have c1 : wi.cell? ⟨gz, v, none⟩ = some (.bool (inZ zs v)) := by
                  have h3 : v < zs.length := by rw [hzl.out]; exact hvk
                  rw [hz.out.cell, List.getElem?_map, List.getElem?_eq_getElem h3]
                  unfold inZ
                  rw [List.getD_eq_getElem?_getD, List.getElem?_eq_getElem h3]
                  rfl
                have c2 : wi.cell? ⟨gn, v, none⟩ = some (.bool (inZ nx v)) := by
                  have h3 : v < nx.length := by rw [hnl.out]; exact hvk
                  rw [hx.out.cell, List.getElem?_map, List.getElem?_eq_getElem h3]
                  unfold inZ
                  rw [List.getD_eq_getElem?_getD, List.getElem?_eq_getElem h3]
                  rfl
                have hls' := Lib.hid hls
                clear hls hb
                generalize hp : inZ zs v = p at c1 hls'
                generalize hq : inZ nx v = q at c2 hls'
                replace hp := Lib.hid hp
                replace hq := Lib.hid hq
                cases b with
                | true =>
                  have hb2 : Hid (true = lost zs nx (v + 1)) := by show _ = _; rw [hls'.out]; rfl
                  clear hls' hp hq
                  go_wp2
                  go_quiet (fail)
                  go_wp2
                  go_roundw
                  case rel => exact ⟨v + 1, _, true, by omega, by go_num, rfl, hb2, by first | rfl | exact World.drewN_drewN _ _ _⟩
                  case measure => simp [intOf]; omega
                | false =>
                  have hb2 : Hid ((p != q) = lost zs nx (v + 1)) := by show _ = _; rw [hls'.out]; rfl
                  clear hls' hp hq
                  cases p <;> cases q
                  all_goals
                    go_wp2
                    go_quiet (fail)
                    go_wp2
                    go_roundw
                    case rel => exact ⟨v + 1, _, _, by omega, by go_num, rfl, hb2, by first | rfl | exact World.drewN_drewN _ _ _⟩
                    case measure => simp [intOf]; omega
              · obtain rfl : v = k := by omega
                cases b with
                | false =>
                  have hfin : Hid (∀ u, u < v → (zs.getD u false = true ↔ GoodG A fl es s u)) := fun u hu => inv.out.done (by rw [hzl.out]; exact hn.out) (fun w hw => lost_no hb.out.symm w (by have := hn.out; omega)) (by have := hn.out; omega)
                  clear hb inv
                  go_wp2
                  go_ret
                  exact ⟨gz, zs, rfl, hz.out, hzl.out, hfin.out, bdrewN (btrans hlo.out lo.out) _, hgz⟩
                | true =>
                  have hlt : Hid (cntB v nx < gk) := by
                    obtain ⟨u, hu, hne⟩ := lost_yes hb.out.symm
                    have h1 := cntB_lt inv.out.sub hu hne
                    have h2 := hcq.out
                    show _ < _
                    omega
                  have hall : Hid (∀ Y, ClosedG A fl es s Y → ∀ p, Y p → inZ nx p = true) := inv.out.all
                  have lo9 : Hid (Below wo.heap.size wo (wi.drewN m)) := bdrewN lo.out _
                  have hx9 : Hid (RowAt (wi.drewN m) gn TyB (nx.map .bool)) := hx.out
                  clear hb inv hx hz
                  go_wp2
                  go_roundg (cntB v nx)
                  case measure => exact hlt.out
                  case rel => exact ⟨gn, nx, rfl, rfl, hgn, hx9, hnl, hall, Nat.le_refl _, lo9⟩
end Go.Proofs.Ytnllgigolfakpaa
