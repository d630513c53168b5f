/- The document's Next. Conditions: a product that the document's New tells. -/
import Derived.Test.YtmlbjfaofppikaaPrRfirst
namespace Go.Proofs.Ytmlbjfaofppikaa
open Go.RowKit

abbrev rcells (w3 : World) (B : Nat) (ai : Option Addr) (ni ci : Nat) (ae : Option Addr) (ne ce : Nat) (al : Option Addr) (nl cl : Nat) (as_ : Option Addr) (ns cs : Nat) (S : Int) (bi : Option Addr) (nbi di : Nat) (bn : Option Addr) (nbn dn : Nat) (xn xs xt : Int) : Prop :=
  w3.cell? ⟨B, 0, none⟩ = some (.slice ai ni ci) ∧ w3.cell? ⟨B, 1, none⟩ = some (.slice ae ne ce) ∧ w3.cell? ⟨B, 2, none⟩ = some (.slice al nl cl) ∧ w3.cell? ⟨B, 3, none⟩ = some (.slice as_ ns cs) ∧ w3.cell? ⟨B, 4, none⟩ = some (.int .i64 S) ∧ w3.cell? ⟨B, 5, none⟩ = some (.slice bi nbi di) ∧ w3.cell? ⟨B, 6, none⟩ = some (.slice bn nbn dn) ∧ w3.cell? ⟨B + 1, 0, none⟩ = some (.int .i64 xn) ∧ w3.cell? ⟨B + 1, 1, none⟩ = some (.int .i64 xs) ∧ w3.cell? ⟨B + 1, 2, none⟩ = some (.int .i64 xt)
set_option maxRecDepth 20000 in
set_option maxHeartbeats 8000000 in
theorem rnext_any (w : World) (X : RX) (G : GR) (sets : List (List Bool)) (A : AU) (h : RpA w X G sets A) (x : PP) :
    Calls Try.prog 21 #[rpv X G sets A, ppv x] w (GivesR w (nextP G sets A x)) := by
  have r1 := RowAt.new (w := w) (T := TRP) #[.slice X.ai G.init.length X.ci, .slice X.ae G.edges.length X.ce, .slice X.al G.labels.length X.cl, .slice X.as_ sets.length X.cs, .int .i64 A.sets, .slice X.bi A.init.length X.di, .slice X.bn A.nodes.length X.dn] rfl
  have r2 := RowAt.new (w := w.alloc (.cells #[.slice X.ai G.init.length X.ci, .slice X.ae G.edges.length X.ce, .slice X.al G.labels.length X.cl, .slice X.as_ sets.length X.cs, .int .i64 A.sets, .slice X.bi A.init.length X.di, .slice X.bn A.nodes.length X.dn] TRP)) (T := TRq) #[.int .i64 x.node, .int .i64 x.state, .int .i64 x.turn] rfl
  have r1' := r1.alloc (.cells #[.int .i64 x.node, .int .i64 x.state, .int .i64 x.turn] TRq)
  have hb2 := balloc (balloc (Below.refl w.heap.size w) (.cells #[.slice X.ai G.init.length X.ci, .slice X.ae G.edges.length X.ce, .slice X.al G.labels.length X.cl, .slice X.as_ sets.length X.cs, .int .i64 A.sets, .slice X.bi A.init.length X.di, .slice X.bn A.nodes.length X.dn] TRP)) (.cells #[.int .i64 x.node, .int .i64 x.state, .int .i64 x.turn] TRq)
  have hz1 : (w.alloc (.cells #[.slice X.ai G.init.length X.ci, .slice X.ae G.edges.length X.ce, .slice X.al G.labels.length X.cl, .slice X.as_ sets.length X.cs, .int .i64 A.sets, .slice X.bi A.init.length X.di, .slice X.bn A.nodes.length X.dn] TRP)).heap.size = w.heap.size + 1 := by simp
  rw [hz1] at r2
  have H := Lib.hid (fun wr (hb : Below w.heap.size w wr) => h.below hb)
  obtain ⟨xn, xs, xt⟩ := x
  simp only at r1' r2 hb2
  obtain ⟨w2, hw2⟩ : ∃ w2, (w.alloc (.cells #[.slice X.ai G.init.length X.ci, .slice X.ae G.edges.length X.ce, .slice X.al G.labels.length X.cl, .slice X.as_ sets.length X.cs, .int .i64 A.sets, .slice X.bi A.init.length X.di, .slice X.bn A.nodes.length X.dn] TRP)).alloc (.cells #[.int .i64 xn, .int .i64 xs, .int .i64 xt] TRq) = w2 := ⟨_, rfl⟩
  rw [hw2] at r1' r2 hb2
  have RR := Lib.hid (rright_any w2 X G sets A (H.out w2 hb2) ⟨xn, xs, xt⟩)
  have CC : Hid (∀ w3, Below w2.heap.size w2 w3 → rcells w3 w.heap.size X.ai G.init.length X.ci X.ae G.edges.length X.ce X.al G.labels.length X.cl X.as_ sets.length X.cs A.sets X.bi A.init.length X.di X.bn A.nodes.length X.dn xn xs xt) := fun w3 hb => by
    have a := r1'.below hb
    have b := r2.below hb
    exact ⟨a.cell 0, a.cell 1, a.cell 2, a.cell 3, a.cell 4, a.cell 5, a.cell 6, b.cell 0, b.cell 1, b.cell 2⟩
  obtain ⟨c0, c1, c2, c3, c4, c5, c6, x0, x1, x2⟩ := CC.out w2 (Below.refl _ _)
  replace hb2 := Lib.hid hb2
  have hlt := Lib.hid h.lt
  have hchk := Lib.hid h.chk
  have hsrc := Lib.hid h.src
  clear r1 r2 r1' hz1 h
  cases hi : isP sets A ⟨xn, xs, xt⟩ with
  | false =>
    have hr : Hid (nextP G sets A ⟨xn, xs, xt⟩ = []) := by show _ = _; unfold nextP; rw [hi]; rfl
    rw [hi] at RR
    rw [hr.out]
    clear hi hr
    go_enter Try.func21, Try.ntmps21
    go_wp2_with fail
    refine RR.out.mono ?_
    rintro e w3 ⟨rfl, hb3⟩
    clear hw2 c0 c1 c2 c3 c4 c5 c6 x0 x1 x2
    go_wp2
    go_ret
    exact ⟨none, 0, rfl, OwnR.nil _ _ _ _, btrans hb2.out hb3⟩
  | true =>
    rw [hi] at RR
    have hN : Hid (nextP G sets A ⟨xn, xs, xt⟩ = nextTo G (turnP G sets A ⟨xn, xs, xt⟩) (edgesP G xn) (nodeP A xs).to A) := by show _ = _; unfold nextP; rw [hi]; rfl
    by_cases hin : inG G.edges.length xn = true
    · obtain ⟨k, t, hxs, hxt, hk, htm⟩ := isP_range hi
      simp only at hxs hxt
      subst hxs hxt
      have hin2 := hin
      unfold inG at hin2
      simp only [Bool.and_eq_true, decide_eq_true_eq] at hin2
      obtain ⟨n0, rfl⟩ := Int.eq_ofNat_of_zero_le hin2.1
      have hn0 : n0 < G.edges.length := by omega
      obtain ⟨be, oe, a2, c2', hae, d1, e0, d2, hp⟩ := (H.out w (Below.refl _ _)).g.edges.at n0 hn0
      obtain ⟨b4, o4, hbn, d3, d4, d5, a3, x3, n3, hto⟩ := (H.out w (Below.refl _ _)).au.nodes.at k hk
      have hes : edgesP G (n0 : Int) = G.edges[n0] := by unfold edgesP; rw [hin, if_pos rfl]; simp [List.getD, hn0]
      have hes12 : G.edges[n0].length ≤ 12 := hlt.out.r _ (List.getElem_mem hn0)
      have hto12 : A.nodes[k].to.length ≤ 12 := hlt.out.t _ (List.getElem_mem hk)
      have htr := ((chk_good hchk.out).2.2.2.2 _ (List.getElem_mem hk)).1
      rw [hes, nodeP_at hk] at hN
      obtain ⟨es, hesd⟩ : ∃ es, es = G.edges[n0] := ⟨_, rfl⟩
      obtain ⟨tt, httd⟩ : ∃ tt, tt = A.nodes[k].to := ⟨_, rfl⟩
      rw [← hesd] at hN hes12 hp e0
      rw [← httd] at hN hto12 htr hto n3
      rw [hN.out]
      obtain ⟨T, hT⟩ : ∃ T, T = turnP G sets A ⟨n0, k, t⟩ := ⟨_, rfl⟩
      rw [← hT]
      obtain ⟨m, hm⟩ : ∃ m, m = allS sets A := ⟨_, rfl⟩
      rw [← hm] at htm
      obtain ⟨r, hr⟩ : ∃ r, r = ofP G sets A ⟨n0, k, t⟩ := ⟨_, rfl⟩
      have hT2 : Hid (T = if 0 < m ∧ r = true then ((t : Int) + 1) % (m : Int) else (t : Int)) := by show _ = _; rw [hT, hr, hm]; rfl
      have hm40 : m ≤ 40 := by
        obtain ⟨s0, s16, _⟩ := chk_sets hchk.out
        obtain ⟨_, t16, _⟩ := src_sets hsrc.out
        rw [hm]; unfold allS; omega
      have ht40 : (t : Int) ≤ 41 := by omega
      have AL := Lib.hid (fun wr (hb : Below w.heap.size w wr) => rall_any wr X G sets A (H.out wr hb))
      rw [← hm] at AL
      have IS := Lib.hid (fun wr (hb : Below w.heap.size w wr) (h0 : 0 < m) => ris_any wr X G sets A (H.out wr hb) ⟨n0, k, t⟩ k t hk rfl (by rw [← hm]; omega))
      simp only at IS
      rw [← hr] at IS
      have LB := Lib.hid (fun wr (hb : Below w.heap.size w wr) x => rlabel_any wr X G sets A (H.out wr hb) x)
      have RD := Lib.hid (fun wr (hb : Below w.heap.size w wr) k hk n => rreads_any wr X A (H.out wr hb).au (H.out wr hb).aok k hk (labP G n) (labP_lt (H.out wr hb).ok n))
      obtain ⟨q, hq⟩ : ∃ q, q = (decide (0 < m) && r) := ⟨_, rfl⟩
      replace hq := Lib.hid hq
      replace htr := Lib.hid htr
      replace hp := Lib.hid hp
      replace hto := Lib.hid hto
      have hn02 : (n0 : Int) < (G.edges.length : Int) := by omega
      have hk2 : (k : Int) < (A.nodes.length : Int) := by omega
      have hn03 : decide ((n0 : Int) < 0) = false := by simp
      have hsz := Lib.hid hb2.out.size
      replace hk := Lib.hid hk
      clear d1 d2 d3 d4 d5 hin hin2 hes hesd httd hN hT hm hr htm hn0 hlt hchk hsrc H hi
      obtain ⟨ai, ae, al, as_, bi, bn, ci, ce, cl, cs, di, dn⟩ := X
      dsimp only at hae hbn hw2 c0 c1 c2 c3 c4 c5 c6 CC
      subst hae hbn
      have EC : Hid (∀ wr, Below w.heap.size w wr → wr.cell? ⟨be, oe + n0, none⟩ = some (.slice a2 es.length c2') ∧ wr.cell? ⟨b4, o4 + k * 4 + 3, none⟩ = some (.slice a3 tt.length x3)) := fun wr hb => ⟨bcell hb e0, bcell hb n3⟩
      clear e0 n3
      go_enter Try.func21, Try.ntmps21
      go_wp2_with fail
      refine RR.out.mono ?_
      rintro e w3 ⟨rfl, hb3⟩
      clear hw2 c0 c1 c2 c3 c4 c5 c6 x0 x1 x2
      have hbw3 := Lib.hid (btrans hb2.out hb3)
      obtain ⟨c0, c1, c2, c3, c4, c5, c6, x0, x1, x2⟩ := CC.out w3 hb3
      go_upto_region 5 with (fail)
      go_cut [39] (fun c wx => c = .bool q ∧ Below w3.heap.size w3 wx)
      case first =>
        go_wp2_with fail
        refine (AL.out w3 hbw3.out).mono ?_
        rintro e w4 ⟨rfl, hb4⟩
        clear c0 c1 c2 c3 c4 c5 c6 x0 x1 x2
        obtain ⟨c0, c1, c2, c3, c4, c5, c6, x0, x1, x2⟩ := CC.out w4 (btrans hb3 hb4)
        by_cases h0 : 0 < m
        · have h0'' : Hid (decide (0 < m) = true) := by show _ = _; simpa using h0
          have I2 := Lib.hid (IS.out w4 (btrans hbw3.out hb4) h0)
          go_wp2_with fail
          refine I2.out.mono ?_
          rintro e w5 ⟨rfl, hb5⟩
          clear c0 c1 c2 c3 c4 c5 c6 x0 x1 x2
          go_wp2
          go_meet
          exact ⟨by rw [hq.out, h0''.out]; rfl, btrans hb4 hb5⟩
        · have h0'' : Hid (decide (0 < m) = false) := by show _ = _; simpa using h0
          go_wp2
          go_meet
          exact ⟨by rw [hq.out, h0''.out]; rfl, hb4⟩
      case rest =>
        obtain ⟨rfl, hwc⟩ := hcut
        clear c0 c1 c2 c3 c4 c5 c6 x0 x1 x2
        have hb4 := btrans hb3 hwc
        generalize wc = w4 at hb4 ⊢
        have hbw4 := Lib.hid (btrans hb2.out hb4)
        obtain ⟨c0, c1, c2, c3, c4, c5, c6, x0, x1, x2⟩ := CC.out w4 hb4
        go_upto_if 39 with (fail)
        go_cut [6] (fun v wx => v = .int .i64 T ∧ Below w4.heap.size w4 wx)
        case first =>
          cases q with
          | true =>
            have hT3 : Hid (T = ((t : Int) + 1) % (m : Int) ∧ 0 < m) := by
              have := hq.out
              simp at this
              show _ ∧ _
              rw [hT2.out, if_pos this]
              exact ⟨rfl, this.1⟩
            have h0 := hT3.out.2
            go_wp2_with fail
            refine (AL.out w4 hbw4.out).mono ?_
            rintro e w5 ⟨rfl, hb5⟩
            clear c0 c1 c2 c3 c4 c5 c6 x0 x1 x2
            go_wp2
            go_meet
            exact ⟨by rw [hT3.out.1], hb5⟩
          | false =>
            have hT3 : Hid (T = t) := by
              show _ = _
              have := hq.out
              rw [hT2.out, if_neg]
              rintro ⟨h1, h2⟩
              rw [h2, decide_eq_true h1] at this
              cases this
            go_wp2
            go_meet
            exact ⟨by rw [hT3.out], Below.refl _ _⟩
        case rest =>
          obtain ⟨rfl, hwc2⟩ := hcut
          clear c0 c1 c2 c3 c4 c5 c6 x0 x1 x2
          have hb5 := btrans hb4 hwc2
          generalize wc = w5 at hb5 ⊢
          have hbw5 := Lib.hid (btrans hb2.out hb5)
          replace hb5 := Lib.hid hb5
          clear RR AL IS hT2 hq
          go_wp2
          go_loopw [5, 7] (fun lv iv wr => ∃ (i : Nat) (l : List PP) (a : Option Addr) (c : Nat), i ≤ es.length ∧ iv = .int .i64 i ∧ lv = .slice a l.length c ∧ Hid (l = nextTo G T (es.take i) tt A) ∧ l.length ≤ i * 12 ∧ Hid (OwnQ wr w2.heap.size TRq a c l) ∧ Below w2.heap.size w2 wr) (fun _ iv _ => es.length - (intOf iv).toNat)
          case atStart => exact ⟨0, [], none, 0, Nat.zero_le _, rfl, rfl, rfl, Nat.zero_le _, OwnR.nil _ _ _ _, hb5.out⟩
          case round =>
            obtain ⟨i, l, a, c, hi, rfl, rfl, hs, hll, hO, hbr⟩ := hrel
            obtain ⟨c0, c1, c2, c3, c4, c5, c6, x0, x1, x2⟩ := CC.out wr hbr
            obtain ⟨e0, n3⟩ := EC.out wr (btrans hb2.out hbr)
            by_cases hlt : i < es.length
            · have hi2 : (i : Int) < (es.length : Int) := by omega
              have hst : Hid (nextTo G T (es.take (i + 1)) tt A = pairsP A (labP G es[i].1) es[i].1 T l tt) := by
                show _ = _
                rw [List.take_add_one, List.getElem?_eq_getElem hlt, Option.toList_some, nextTo_snoc, ← hs.out]
              obtain ⟨ba, oa, ha2, _, f0, _⟩ := hp.out.at i hlt
              obtain ⟨n, hn⟩ : ∃ n, n = es[i].1 := ⟨_, rfl⟩
              rw [← hn] at hst f0
              have f0' := bcell (btrans hb2.out hbr) f0
              replace hn := Lib.hid hn
              replace hbr := Lib.hid hbr
              subst ha2
              clear hs f0
              go_wp2
              go_loopw [5, 9] (fun lv iv wr => ∃ (j : Nat) (l2 : List PP) (a : Option Addr) (c : Nat), j ≤ tt.length ∧ iv = .int .i64 j ∧ lv = .slice a l2.length c ∧ Hid (l2 = pairsP A (labP G n) n T l (tt.take j)) ∧ l2.length ≤ i * 12 + j ∧ Hid (OwnQ wr w2.heap.size TRq a c l2) ∧ Below w2.heap.size w2 wr) (fun _ iv _ => tt.length - (intOf iv).toNat)
              case atStart => exact ⟨0, l, a, c, Nat.zero_le _, rfl, rfl, rfl, by omega, hO, hbr.out⟩
              case round =>
                clear hO hbr c0 c1 c2 c3 c4 c5 c6 x0 x1 x2 e0 n3 f0'
                obtain ⟨j, l2, a, c, hj, rfl, rfl, hs, hll2, hO, hbr⟩ := hrel
                obtain ⟨c0, c1, c2, c3, c4, c5, c6, x0, x1, x2⟩ := CC.out _ hbr
                obtain ⟨e0, n3⟩ := EC.out _ (btrans hb2.out hbr)
                by_cases hlt2 : j < tt.length
                · obtain ⟨b6, o6, q6, ha3, cq, hq⟩ := hto.out.at j hlt2
                  have hq2 : q6 = tt[j] := by rw [hq.out, List.getD_eq_getElem?_getD, List.getElem?_eq_getElem hlt2]; rfl
                  have hqr := htr.out _ (List.getElem_mem hlt2)
                  rw [← hq2] at hqr
                  obtain ⟨s, rfl⟩ := Int.eq_ofNat_of_zero_le hqr.1
                  have hsn : s < A.nodes.length := by omega
                  have hj2 : (j : Int) < (tt.length : Int) := by omega
                  have hst2 := pairsP_snoc A (labP G n) n T l (tt.take j) s
                  rw [← hs.out, hq2, show tt.take j ++ [tt[j]] = tt.take (j + 1) by rw [List.take_add_one, List.getElem?_eq_getElem hlt2, Option.toList_some], ← hq2] at hst2
                  have RDs := Lib.hid (fun wr hb => RD.out wr hb s hsn n)
                  generalize readsB (nodeP A s) (labP G n) = rd at RDs hst2
                  replace hst2 := Lib.hid hst2
                  have cq' := bcell (btrans hb2.out hbr) cq
                  replace hbr := Lib.hid hbr
                  clear hq hq2 hqr hs cq
                  subst ha3
                  go_upto_region 15 with (fail)
                  have hbw := Lib.hid (btrans hb2.out hbr.out)
                  go_region_held3 (fun w' => w'.cell? ⟨w.heap.size, 0, none⟩ = some (.slice ai G.init.length ci) ∧ w'.cell? ⟨w.heap.size, 1, none⟩ = some (.slice (some ⟨be, oe, none⟩) G.edges.length ce) ∧ w'.cell? ⟨w.heap.size, 2, none⟩ = some (.slice al G.labels.length cl) ∧ w'.cell? ⟨w.heap.size, 3, none⟩ = some (.slice as_ sets.length cs) ∧ w'.cell? ⟨w.heap.size, 4, none⟩ = some (.int .i64 A.sets) ∧ w'.cell? ⟨w.heap.size, 5, none⟩ = some (.slice bi A.init.length di) ∧ w'.cell? ⟨w.heap.size, 6, none⟩ = some (.slice (some ⟨b4, o4, none⟩) A.nodes.length dn) ∧ w'.cell? ⟨w.heap.size + 1, 0, none⟩ = some (.int .i64 (n0 : Int)) ∧ w'.cell? ⟨w.heap.size + 1, 1, none⟩ = some (.int .i64 (k : Int)) ∧ w'.cell? ⟨w.heap.size + 1, 2, none⟩ = some (.int .i64 (t : Int))) (first | exact CC.out _ B2 | exact CC.out _ B1 | exact CC.out _ hbr.out.drew | exact CC.out _ hbr.out) (first
                    | (go_at_call 40; (with_reducible refine (LB.out _ hbw.out.drew n).mono ?_); rintro e w6 ⟨rfl, hb6⟩; have K1 : Below wr.heap.size wr w6 := btrans (Below.refl _ _).drew hb6; have B1 : Below w2.heap.size w2 w6 := btrans hbr.out K1)
                    | (go_at_call 39; (with_reducible refine (RDs.out _ (btrans hb2.out B1)).mono ?_); rintro e w7 ⟨rfl, hb7⟩; have K2 : Below wr.heap.size wr w7 := btrans K1 hb7; have B2 : Below w2.heap.size w2 w7 := btrans B1 hb7))
                  have hO4 : Hid (OwnQ w7 w2.heap.size TRq a c l2) := OwnR.keeps (S := fun _ => False) hO.out (Keeps.of_below K2) (fun _ _ h => h)
                  replace B2 := Lib.hid B2
                  clear c0 c1 c2 c3 c4 c5 c6 x0 x1 x2 e0 n3 cq' hO hbr B1 K1 K2 hb6 hb7
                  cases rd with
                  | false =>
                    have hs3 : Hid (l2 = pairsP A (labP G n) n T l (tt.take (j + 1))) := by show _ = _; rw [hst2.out, if_neg (by decide)]
                    clear hst2
                    go_wp2
                    go_roundw
                    case rel => exact ⟨j + 1, l2, a, c, by omega, by go_num, rfl, hs3, by omega, hO4, B2.out⟩
                    case measure => simp [intOf]; omega
                  | true =>
                    have hs3 : Hid (addP l2 ⟨n, s, T⟩ = pairsP A (labP G n) n T l (tt.take (j + 1))) := by show _ = _; rw [hst2.out, if_pos rfl]
                    have AD := Lib.hid (radd_any w7 w2.heap.size B2.out.size a c l2 hO4.out ⟨n, s, T⟩ (by omega))
                    have hal := addP_len l2 ⟨n, s, T⟩
                    generalize addP l2 ⟨n, s, T⟩ = l3 at hs3 AD hal
                    clear hst2
                    go_wp2_with fail
                    refine AD.out.mono ?_
                    rintro e w8 ⟨a8, c8, rfl, hO8, hK8, _⟩
                    have hb8 := hK8.below B2.out (fun j hj => (OwnR.lt hO4.out hj).1)
                    replace hO8 := Lib.hid hO8
                    clear hK8
                    go_wp2
                    go_roundw
                    case rel => exact ⟨j + 1, l3, a8, c8, by omega, by go_num, rfl, hs3, by omega, hO8, hb8⟩
                    case measure => simp [intOf]; omega
                · have hke : j = tt.length := by omega
                  subst hke
                  rw [List.take_length] at hs
                  replace hbr := Lib.hid hbr
                  go_wp2
                  go_roundw
                  case rel => exact ⟨i + 1, l2, a, c, by omega, by go_num, rfl, hs.out.trans hst.out.symm, by omega, hO, hbr.out⟩
                  case measure => simp [intOf]; omega
            · have hie : i = es.length := by omega
              subst hie
              rw [List.take_length] at hs
              replace hbr := Lib.hid hbr
              go_wp2
              go_ret
              rw [← hs.out]
              exact ⟨a, c, rfl, OwnR.lower hO.out hsz.out, btrans hb2.out hbr.out⟩
    · have hin : inG G.edges.length xn = false := by simpa using hin
      have hr : Hid (nextP G sets A ⟨xn, xs, xt⟩ = []) := by show _ = _; rw [hN.out]; unfold edgesP; rw [hin]; rfl
      rw [hr.out]
      clear hr hN hi
      by_cases h0 : xn < 0
      · have h0' : decide (xn < 0) = true := by simpa using h0
        clear hin
        go_enter Try.func21, Try.ntmps21
        go_wp2_with fail
        refine RR.out.mono ?_
        rintro e w3 ⟨rfl, hb3⟩
        clear hw2 c0 c1 c2 c3 c4 c5 c6 x0 x1 x2
        obtain ⟨c0, c1, c2, c3, c4, c5, c6, x0, x1, x2⟩ := CC.out w3 hb3
        go_wp2
        go_ret
        exact ⟨none, 0, rfl, OwnR.nil _ _ _ _, btrans hb2.out hb3⟩
      · have h0' : decide (xn < 0) = false := by simpa using h0
        rw [inG_yes (by omega)] at hin
        have h1 : (G.edges.length : Int) ≤ xn := by simpa using hin
        clear hin
        go_enter Try.func21, Try.ntmps21
        go_wp2_with fail
        refine RR.out.mono ?_
        rintro e w3 ⟨rfl, hb3⟩
        clear hw2 c0 c1 c2 c3 c4 c5 c6 x0 x1 x2
        obtain ⟨c0, c1, c2, c3, c4, c5, c6, x0, x1, x2⟩ := CC.out w3 hb3
        go_wp2
        go_ret
        exact ⟨none, 0, rfl, OwnR.nil _ _ _ _, btrans hb2.out hb3⟩
end Go.Proofs.Ytmlbjfaofppikaa
