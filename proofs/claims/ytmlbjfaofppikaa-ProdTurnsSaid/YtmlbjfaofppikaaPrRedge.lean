/- The document's Edge. Conditions: a product that the document's New tells. -/
import Derived.Test.YtmlbjfaofppikaaPrRnext
namespace Go.Proofs.Ytmlbjfaofppikaa
open Go.RowKit

set_option maxRecDepth 20000 in
set_option maxHeartbeats 8000000 in
theorem redge_any (w : World) (X : RX) (G : GR) (sets : List (List Bool)) (A : AU) (h : RpA w X G sets A) (x y : PP) :
    Calls Try.prog 18 #[rpv X G sets A, ppv x, ppv y] w fun e w' => e = .returned (.tuple #[edv (edgeP G sets A x y), .bool (edgeP G sets A x y).isSome]) ∧ Below w.heap.size w w' := by
  have rp := RowAt.new (w := w) (T := TRP) #[.slice X.ai G.init.length X.ci, .slice X.ae G.edges.length X.ce, .slice X.al G.labels.length X.cl, .slice X.as_ sets.length X.cs, .int .i64 A.sets, .slice X.bi A.init.length X.di, .slice X.bn A.nodes.length X.dn] rfl
  have z1 : (w.alloc (.cells #[.slice X.ai G.init.length X.ci, .slice X.ae G.edges.length X.ce, .slice X.al G.labels.length X.cl, .slice X.as_ sets.length X.cs, .int .i64 A.sets, .slice X.bi A.init.length X.di, .slice X.bn A.nodes.length X.dn] TRP)).heap.size = w.heap.size + 1 := by simp
  have ra := RowAt.new (w := w.alloc (.cells #[.slice X.ai G.init.length X.ci, .slice X.ae G.edges.length X.ce, .slice X.al G.labels.length X.cl, .slice X.as_ sets.length X.cs, .int .i64 A.sets, .slice X.bi A.init.length X.di, .slice X.bn A.nodes.length X.dn] TRP)) (T := TRq) #[.int .i64 x.node, .int .i64 x.state, .int .i64 x.turn] rfl
  have z2 : ((w.alloc (.cells #[.slice X.ai G.init.length X.ci, .slice X.ae G.edges.length X.ce, .slice X.al G.labels.length X.cl, .slice X.as_ sets.length X.cs, .int .i64 A.sets, .slice X.bi A.init.length X.di, .slice X.bn A.nodes.length X.dn] TRP)).alloc (.cells #[.int .i64 x.node, .int .i64 x.state, .int .i64 x.turn] TRq)).heap.size = w.heap.size + 1 + 1 := by simp
  have rb := RowAt.new (w := (w.alloc (.cells #[.slice X.ai G.init.length X.ci, .slice X.ae G.edges.length X.ce, .slice X.al G.labels.length X.cl, .slice X.as_ sets.length X.cs, .int .i64 A.sets, .slice X.bi A.init.length X.di, .slice X.bn A.nodes.length X.dn] TRP)).alloc (.cells #[.int .i64 x.node, .int .i64 x.state, .int .i64 x.turn] TRq)) (T := TRq) #[.int .i64 y.node, .int .i64 y.state, .int .i64 y.turn] rfl
  have z3 : (((w.alloc (.cells #[.slice X.ai G.init.length X.ci, .slice X.ae G.edges.length X.ce, .slice X.al G.labels.length X.cl, .slice X.as_ sets.length X.cs, .int .i64 A.sets, .slice X.bi A.init.length X.di, .slice X.bn A.nodes.length X.dn] TRP)).alloc (.cells #[.int .i64 x.node, .int .i64 x.state, .int .i64 x.turn] TRq)).alloc (.cells #[.int .i64 y.node, .int .i64 y.state, .int .i64 y.turn] TRq)).heap.size = w.heap.size + 1 + 1 + 1 := by simp
  have re := RowAt.new (w := ((w.alloc (.cells #[.slice X.ai G.init.length X.ci, .slice X.ae G.edges.length X.ce, .slice X.al G.labels.length X.cl, .slice X.as_ sets.length X.cs, .int .i64 A.sets, .slice X.bi A.init.length X.di, .slice X.bn A.nodes.length X.dn] TRP)).alloc (.cells #[.int .i64 x.node, .int .i64 x.state, .int .i64 x.turn] TRq)).alloc (.cells #[.int .i64 y.node, .int .i64 y.state, .int .i64 y.turn] TRq)) (T := TE) #[.int .i64 0, .int .i64 0] rfl
  have rp' := ((rp.alloc (.cells #[.int .i64 x.node, .int .i64 x.state, .int .i64 x.turn] TRq)).alloc (.cells #[.int .i64 y.node, .int .i64 y.state, .int .i64 y.turn] TRq)).alloc (.cells #[.int .i64 0, .int .i64 0] TE)
  have ra' := (ra.alloc (.cells #[.int .i64 y.node, .int .i64 y.state, .int .i64 y.turn] TRq)).alloc (.cells #[.int .i64 0, .int .i64 0] TE)
  have rb' := rb.alloc (.cells #[.int .i64 0, .int .i64 0] TE)
  rw [z1] at ra'
  rw [z2] at rb'
  rw [z3] at re
  have hb4 := balloc (balloc (balloc (balloc (Below.refl w.heap.size w) (.cells #[.slice X.ai G.init.length X.ci, .slice X.ae G.edges.length X.ce, .slice X.al G.labels.length X.cl, .slice X.as_ sets.length X.cs, .int .i64 A.sets, .slice X.bi A.init.length X.di, .slice X.bn A.nodes.length X.dn] TRP)) (.cells #[.int .i64 x.node, .int .i64 x.state, .int .i64 x.turn] TRq)) (.cells #[.int .i64 y.node, .int .i64 y.state, .int .i64 y.turn] TRq)) (.cells #[.int .i64 0, .int .i64 0] TE)
  have hsz : ((((w.alloc (.cells #[.slice X.ai G.init.length X.ci, .slice X.ae G.edges.length X.ce, .slice X.al G.labels.length X.cl, .slice X.as_ sets.length X.cs, .int .i64 A.sets, .slice X.bi A.init.length X.di, .slice X.bn A.nodes.length X.dn] TRP)).alloc (.cells #[.int .i64 x.node, .int .i64 x.state, .int .i64 x.turn] TRq)).alloc (.cells #[.int .i64 y.node, .int .i64 y.state, .int .i64 y.turn] TRq)).alloc (.cells #[.int .i64 0, .int .i64 0] TE)).heap.size = w.heap.size + 1 + 1 + 1 + 1 := by simp
  have NX := Lib.hid (fun wr (hb : Below w.heap.size w wr) => rnext_any wr X G sets A (h.below hb) x)
  have hnl := nextP_len h.lt x
  have hel := edgesP_len h.lt x.node
  obtain ⟨R, hR⟩ : ∃ R, R = edgeP G sets A x y := ⟨_, rfl⟩
  rw [← hR]
  replace hR : Hid (R = if y ∈ nextP G sets A x then (edgesP G x.node).find? (fun e => e.1 == y.node) else none) := hR
  have hin : Hid (y ∈ nextP G sets A x → inG G.edges.length x.node = true) := fun hm => by
    cases hi : inG G.edges.length x.node with
    | true => rfl
    | false =>
      unfold nextP edgesP at hm
      rw [hi] at hm
      split at hm <;> simp at hm
  obtain ⟨nl, hnle⟩ : ∃ nl, nl = nextP G sets A x := ⟨_, rfl⟩
  rw [← hnle] at NX hnl hR hin
  obtain ⟨es, hes⟩ : ∃ es, es = edgesP G x.node := ⟨_, rfl⟩
  rw [← hes] at hel hR
  have hE : Hid (∀ n0 : Nat, x.node = n0 → inG G.edges.length x.node = true → ∃ be oe a2 c2, X.ae = some ⟨be, oe, none⟩ ∧ n0 < G.edges.length ∧ PairsAt w a2 es ∧ w.cell? ⟨be, oe + n0, none⟩ = some (.slice a2 es.length c2)) := fun n0 hx hi => by
    have hi2 := hi
    unfold inG at hi2
    simp only [Bool.and_eq_true, decide_eq_true_eq] at hi2
    have hn0 : n0 < G.edges.length := by omega
    obtain ⟨be, oe, a2, c2', hae, _, e0, _, hp⟩ := h.g.edges.at n0 hn0
    have : es = G.edges[n0] := by rw [hes, hx]; rw [hx] at hi; unfold edgesP; rw [hi, if_pos rfl]; simp [List.getD, hn0]
    rw [← this] at hp e0
    exact ⟨be, oe, a2, c2', hae, hn0, hp, e0⟩
  obtain ⟨xn, xs, xt⟩ := x
  obtain ⟨yn, ys, yt⟩ := y
  simp only at rp' ra' rb' re hb4 hsz NX hR hin hE
  obtain ⟨w4, hw4⟩ : ∃ w4, (((w.alloc (.cells #[.slice X.ai G.init.length X.ci, .slice X.ae G.edges.length X.ce, .slice X.al G.labels.length X.cl, .slice X.as_ sets.length X.cs, .int .i64 A.sets, .slice X.bi A.init.length X.di, .slice X.bn A.nodes.length X.dn] TRP)).alloc (.cells #[.int .i64 xn, .int .i64 xs, .int .i64 xt] TRq)).alloc (.cells #[.int .i64 yn, .int .i64 ys, .int .i64 yt] TRq)).alloc (.cells #[.int .i64 0, .int .i64 0] TE) = w4 := ⟨_, rfl⟩
  rw [hw4] at rp' ra' rb' re hb4 hsz
  have CC : Hid (∀ wr, Below w4.heap.size w4 wr → wr.cell? ⟨w.heap.size, 0, none⟩ = some (.slice X.ai G.init.length X.ci) ∧ wr.cell? ⟨w.heap.size, 1, none⟩ = some (.slice X.ae G.edges.length X.ce) ∧ wr.cell? ⟨w.heap.size, 2, none⟩ = some (.slice X.al G.labels.length X.cl) ∧ wr.cell? ⟨w.heap.size, 3, none⟩ = some (.slice X.as_ sets.length X.cs) ∧ wr.cell? ⟨w.heap.size, 4, none⟩ = some (.int .i64 A.sets) ∧ wr.cell? ⟨w.heap.size, 5, none⟩ = some (.slice X.bi A.init.length X.di) ∧ wr.cell? ⟨w.heap.size, 6, none⟩ = some (.slice X.bn A.nodes.length X.dn) ∧ wr.cell? ⟨w.heap.size + 1, 0, none⟩ = some (.int .i64 xn) ∧ wr.cell? ⟨w.heap.size + 1, 1, none⟩ = some (.int .i64 xs) ∧ wr.cell? ⟨w.heap.size + 1, 2, none⟩ = some (.int .i64 xt) ∧ wr.cell? ⟨w.heap.size + 1 + 1, 0, none⟩ = some (.int .i64 yn) ∧ wr.cell? ⟨w.heap.size + 1 + 1, 1, none⟩ = some (.int .i64 ys) ∧ wr.cell? ⟨w.heap.size + 1 + 1, 2, none⟩ = some (.int .i64 yt)) := fun wr hb => by
    have p := rp'.below hb
    have a := ra'.below hb
    have b := rb'.below hb
    exact ⟨p.cell 0, p.cell 1, p.cell 2, p.cell 3, p.cell 4, p.cell 5, p.cell 6, a.cell 0, a.cell 1, a.cell 2, b.cell 0, b.cell 1, b.cell 2⟩
  obtain ⟨c0, c1, c2, c3, c4, c5, c6, x0, x1, x2, y0, y1, y2⟩ := CC.out w4 (Below.refl _ _)
  replace hb4 := Lib.hid hb4
  replace re := Lib.hid re
  clear rp ra rb rp' ra' rb' z1 z2 z3 h hnle hes
  go_enter Try.func18, Try.ntmps18
  go_wp2_with fail
  refine (NX.out w4 hb4.out).mono ?_
  rintro e w5 ⟨an, cn, rfl, hO, hb5⟩
  clear hw4 c0 c1 c2 c3 c4 c5 c6 x0 x1 x2 y0 y1 y2 NX
  obtain ⟨c0, c1, c2, c3, c4, c5, c6, x0, x1, x2, y0, y1, y2⟩ := CC.out w5 hb5
  have hP := Lib.hid (PpsAt.of_own hO)
  replace hb5 := Lib.hid hb5
  clear hO
  go_wp2
  go_loopw [8, 10] (fun bv iv wr => ∃ (k m : Nat) (b : Bool), bv = .bool b ∧ Hid (b = decide ((⟨yn, ys, yt⟩ : PP) ∈ nl.take k)) ∧ k ≤ nl.length ∧ iv = .int .i64 k ∧ wr = w5.drewN m) (fun _ iv _ => nl.length - (intOf iv).toNat)
  case atStart => exact ⟨0, 0, false, rfl, by simp [Hid], Nat.zero_le _, rfl, rfl⟩
  case round =>
    obtain ⟨k, m, b, rfl, hbk, hk, rfl, rfl⟩ := hrel
    by_cases hlt : k < nl.length
    · have hk2 : (k : Int) < (nl.length : Int) := by omega
      obtain ⟨g, off, ha, _, f0, f1, f2⟩ := hP.out.at k hlt
      have hst : Hid (decide ((⟨yn, ys, yt⟩ : PP) ∈ nl.take (k + 1)) = (b || decide (nl[k] = ⟨yn, ys, yt⟩))) := by
        show _ = _
        have hm : (⟨yn, ys, yt⟩ : PP) ∈ nl.take (k + 1) ↔ ((⟨yn, ys, yt⟩ : PP) ∈ nl.take k ∨ nl[k] = ⟨yn, ys, yt⟩) := by
          rw [List.take_add_one, List.getElem?_eq_getElem hlt, Option.toList_some, List.mem_append, List.mem_singleton, eq_comm (a := (⟨yn, ys, yt⟩ : PP)) (b := nl[k])]
        rw [hbk.out, decide_eq_decide.2 hm, Bool.decide_or]
      generalize nl[k] = z at f0 f1 f2 hst
      obtain ⟨zn, zs, zt⟩ := z
      simp only at f0 f1 f2
      subst ha
      clear hbk
      cases b with
      | true =>
        have hs2 : Hid (true = decide ((⟨yn, ys, yt⟩ : PP) ∈ nl.take (k + 1))) := by show _ = _; rw [hst.out]; rfl
        clear hst
        go_wp2
        go_quiet (fail)
        go_wp2
        go_roundw
        case rel => exact ⟨k + 1, _, true, rfl, hs2, by omega, by go_num, by first | rfl | exact World.drewN_drewN _ _ _⟩
        case measure => simp [intOf]; omega
      | false =>
        by_cases h1 : zn = yn
        · subst h1
          by_cases h2 : zs = ys
          · subst h2
            by_cases h3 : zt = yt
            · subst h3
              have hs2 : Hid (true = decide ((⟨zn, zs, zt⟩ : PP) ∈ nl.take (k + 1))) := by show _ = _; rw [hst.out]; simp
              clear hst
              go_wp2
              go_quiet (fail)
              go_wp2
              go_roundw
              case rel => exact ⟨k + 1, _, true, rfl, hs2, by omega, by go_num, by first | rfl | exact World.drewN_drewN _ _ _⟩
              case measure => simp [intOf]; omega
            · have hz : (zt == yt) = false := by simpa using h3
              have hs2 : Hid (false = decide ((⟨zn, zs, yt⟩ : PP) ∈ nl.take (k + 1))) := by show _ = _; rw [hst.out]; simp [h3]
              clear hst h3
              go_wp2
              go_quiet (fail)
              go_wp2
              go_roundw
              case rel => exact ⟨k + 1, _, false, rfl, hs2, by omega, by go_num, by first | rfl | exact World.drewN_drewN _ _ _⟩
              case measure => simp [intOf]; omega
          · have hz : (zs == ys) = false := by simpa using h2
            have hs2 : Hid (false = decide ((⟨zn, ys, yt⟩ : PP) ∈ nl.take (k + 1))) := by show _ = _; rw [hst.out]; simp [h2]
            clear hst h2
            go_wp2
            go_quiet (fail)
            go_wp2
            go_roundw
            case rel => exact ⟨k + 1, _, false, rfl, hs2, by omega, by go_num, by first | rfl | exact World.drewN_drewN _ _ _⟩
            case measure => simp [intOf]; omega
        · have hz : (zn == yn) = false := by simpa using h1
          have hs2 : Hid (false = decide ((⟨yn, ys, yt⟩ : PP) ∈ nl.take (k + 1))) := by show _ = _; rw [hst.out]; simp [h1]
          clear hst h1
          go_wp2
          go_quiet (fail)
          go_wp2
          go_roundw
          case rel => exact ⟨k + 1, _, false, rfl, hs2, by omega, by go_num, by first | rfl | exact World.drewN_drewN _ _ _⟩
          case measure => simp [intOf]; omega
    · obtain rfl : k = nl.length := by omega
      rw [List.take_length] at hbk
      clear c0 c1 c2 c3 c4 c5 c6 x0 x1 x2 y0 y1 y2
      have hb6 : Below w4.heap.size w4 (w5.drewN m) := bdrewN hb5.out m
      generalize w5.drewN m = w6 at hb6 ⊢
      have hb6' := Lib.hid (btrans hb4.out hb6)
      have re6 := Lib.hid (re.out.below hb6)
      have v0 : w6.cell? ⟨w.heap.size + 1 + 1 + 1, 0, none⟩ = some (.int .i64 0) := re6.out.cell 0
      have g0 : w6.frozen? ⟨w.heap.size + 1 + 1 + 1, 0, none⟩ = false := re6.out.free 0
      have v1 : w6.cell? ⟨w.heap.size + 1 + 1 + 1, 1, none⟩ = some (.int .i64 0) := re6.out.cell 1
      have g1 : w6.frozen? ⟨w.heap.size + 1 + 1 + 1, 1, none⟩ = false := re6.out.free 1
      have hz6 : w.heap.size + 1 + 1 + 1 + 1 ≤ w6.heap.size := by have := hb6.size; omega
      cases b with
      | false =>
        have hR2 : Hid (R = none) := by
          show _ = _
          have := hbk.out
          rw [hR.out, if_neg (by intro hm; rw [decide_eq_true hm] at this; cases this)]
        clear hbk
        go_wp2
        have rE := Lib.hid ((re6.out.set 0 (.int .i64 0)).set 1 (.int .i64 0))
        have f0 := rE.out.cell 0
        have f1 := rE.out.cell 1
        refine bodyPost_ret (v := .tuple #[.agg #[.int .i64 0, .int .i64 0], .bool false]) (by simp [results, Try.results18, go_sem, f0, f1]) rfl ⟨by rw [hR2.out]; rfl, bsetN (bsetN hb6'.out (by omega)) (by omega)⟩
      | true =>
        have hm : (⟨yn, ys, yt⟩ : PP) ∈ nl := by have := hbk.out; simpa using this.symm
        have hR2 : Hid (R = es.find? (fun e => e.1 == yn)) := by show _ = _; rw [hR.out, if_pos hm]
        have hi := hin.out hm
        have hx0 : 0 ≤ xn := by unfold inG at hi; simp at hi; exact hi.1
        obtain ⟨n0, rfl⟩ := Int.eq_ofNat_of_zero_le hx0
        obtain ⟨be, oe, a2, c2', hae, hn0, hp, e0⟩ := hE.out n0 rfl hi
        have hn02 : (n0 : Int) < (G.edges.length : Int) := by omega
        have e6 := bcell hb6'.out e0
        have hp6 := Lib.hid (hp.below hb6'.out)
        obtain ⟨c0, c1, c2, c3, c4, c5, c6, x0, x1, x2, y0, y1, y2⟩ := CC.out w6 hb6
        replace hb6 := Lib.hid hb6
        clear hbk hm hR hi hx0 hE hin hp e0 hn0 hP hb5
        obtain ⟨ai, ae, al, as_, bi, bn, ci, ce, cl, cs, di, dn⟩ := X
        dsimp only at hae c0 c1 c2 c3 c4 c5 c6 CC
        subst hae
        go_wp2
        go_loopw [7, 11, 51] (fun bv iv _ wr => ∃ k : Nat, bv = .bool false ∧ k ≤ es.length ∧ iv = .int .i64 k ∧ Below w6.heap.size w6 wr ∧ Hid ((es.take k).find? (fun e => e.1 == yn) = none)) (fun _ iv _ _ => es.length - (intOf iv).toNat)
        case atStart => exact ⟨0, rfl, Nat.zero_le _, rfl, Below.refl _ _, rfl⟩
        case round =>
          obtain ⟨k, rfl, hk, rfl, hbr, hn⟩ := hrel
          clear c0 c1 c2 c3 c4 c5 c6 x0 x1 x2 y0 y1 y2 v0 v1 g0 g1
          obtain ⟨c0, c1, c2, c3, c4, c5, c6, x0, x1, x2, y0, y1, y2⟩ := CC.out wr (btrans hb6.out hbr)
          have e7 := bcell hbr e6
          by_cases hlt : k < es.length
          · obtain ⟨g, off, ha0, hgl, f0, f1⟩ := (hp6.out.below hbr).at k hlt
            have hst : Hid (∀ o, (if es[k].1 == yn then some es[k] else none) = o → (es.take (k + 1)).find? (fun e => e.1 == yn) = o) := fun o ho => by
              rw [List.take_add_one, List.getElem?_eq_getElem hlt, Option.toList_some, List.find?_append, hn.out, ← ho]
              simp only [Option.none_or, List.find?_cons, List.find?_nil]
              cases es[k].1 == yn <;> rfl
            have hfin : Hid (es[k].1 = yn → R = some es[k]) := fun he => by
              rw [hR2.out]
              have h1 := hst.out _ rfl
              rw [he, if_pos (by simp)] at h1
              calc es.find? (fun e => e.1 == yn) = (es.take (k + 1) ++ es.drop (k + 1)).find? (fun e => e.1 == yn) := by rw [List.take_append_drop]
                _ = some es[k] := by rw [List.find?_append, h1]; rfl
            obtain ⟨ev, hev⟩ : ∃ ev, ev = es[k] := ⟨_, rfl⟩
            rw [← hev] at f0 f1 hst hfin
            obtain ⟨u, v⟩ := ev
            simp only at f0 f1 hst hfin
            have hlt2 : (k : Int) < (es.length : Int) := by omega
            subst ha0
            replace hbr := Lib.hid hbr
            clear hev hn
            by_cases huv : u = yn
            · have hub : (u == yn) = true := by simpa using huv
              have hr := Lib.hid (hfin.out huv)
              clear hst hfin huv
              go_wp2
              go_quiet (fail)
              obtain ⟨w7, hw7⟩ : ∃ w7, wr.drewN nq = w7 := ⟨_, rfl⟩
              have hb7 : Below wr.heap.size wr w7 := by rw [← hw7]; exact bdrewN (Below.refl _ _) nq
              rw [hw7]
              have f0' := bcell hb7 f0
              have f1' := bcell hb7 f1
              have e8 := bcell hb7 e7
              have r7 := Lib.hid (re6.out.below (btrans hbr.out hb7))
              have hbw7 := Lib.hid (btrans hb6'.out (btrans hbr.out hb7))
              clear hw7 f0 f1 e7 c0 c1 c2 c3 c4 c5 c6 x0 x1 x2 y0 y1 y2
              obtain ⟨c0, c1, c2, c3, c4, c5, c6, x0, x1, x2, y0, y1, y2⟩ := CC.out w7 (btrans hb6.out (btrans hbr.out hb7))
              replace hb7 := Lib.hid hb7
              have v0 : w7.cell? ⟨w.heap.size + 1 + 1 + 1, 0, none⟩ = some (.int .i64 0) := r7.out.cell 0
              have g0 : w7.frozen? ⟨w.heap.size + 1 + 1 + 1, 0, none⟩ = false := r7.out.free 0
              have v1 : w7.cell? ⟨w.heap.size + 1 + 1 + 1, 1, none⟩ = some (.int .i64 0) := r7.out.cell 1
              have g1 : w7.frozen? ⟨w.heap.size + 1 + 1 + 1, 1, none⟩ = false := r7.out.free 1
              go_wp2
              have rE := Lib.hid ((r7.out.set 0 (.int .i64 u)).set 1 (.int .i64 v))
              have k0 := rE.out.cell 0
              have k1 := rE.out.cell 1
              refine bodyPost_ret (v := .tuple #[.agg #[.int .i64 u, .int .i64 v], .bool true]) (by simp [results, Try.results18, go_sem, k0, k1]) rfl ⟨by rw [hr.out]; rfl, bsetN (bsetN hbw7.out (by omega)) (by omega)⟩
            · have hub : (u == yn) = false := by simpa using huv
              have hs2 : Hid ((es.take (k + 1)).find? (fun e => e.1 == yn) = none) := hst.out _ (by rw [hub]; rfl)
              clear hst hfin huv
              go_wp2
              go_quiet (fail)
              go_wp2
              go_roundw
              case rel => exact ⟨k + 1, rfl, by omega, by go_num, btrans hbr.out (bdrewN (Below.refl _ _) _), hs2⟩
              case measure => simp [intOf]; omega
          · have hke : k = es.length := by omega
            subst hke
            rw [List.take_length] at hn
            have hR3 : Hid (R = none) := hR2.out.trans hn.out
            have r7 := Lib.hid (re6.out.below hbr)
            have hb7 := Lib.hid (btrans hb6'.out hbr)
            have v0 : wr.cell? ⟨w.heap.size + 1 + 1 + 1, 0, none⟩ = some (.int .i64 0) := r7.out.cell 0
            have g0 : wr.frozen? ⟨w.heap.size + 1 + 1 + 1, 0, none⟩ = false := r7.out.free 0
            have v1 : wr.cell? ⟨w.heap.size + 1 + 1 + 1, 1, none⟩ = some (.int .i64 0) := r7.out.cell 1
            have g1 : wr.frozen? ⟨w.heap.size + 1 + 1 + 1, 1, none⟩ = false := r7.out.free 1
            go_wp2
            have rE := Lib.hid ((r7.out.set 0 (.int .i64 0)).set 1 (.int .i64 0))
            have k0 := rE.out.cell 0
            have k1 := rE.out.cell 1
            refine bodyPost_ret (v := .tuple #[.agg #[.int .i64 0, .int .i64 0], .bool false]) (by simp [results, Try.results18, go_sem, k0, k1]) rfl ⟨by rw [hR3.out]; rfl, bsetN (bsetN hb7.out (by omega)) (by omega)⟩
end Go.Proofs.Ytmlbjfaofppikaa
