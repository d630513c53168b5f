/- The pairs behind a pair of a product. Conditions: a product that New made, and a small one. -/
import Derived.Test.YtmlbjfaofppikaaPrFirst
import Derived.Deep.DeepCutAuto
import Derived.BigRegion
import Derived.Deep.RegionHeld3
namespace Go.Proofs.Ytmlbjfaofppikaa
open Go.RowKit

theorem wrap64_small {x : Int} (h0 : 0 ≤ x) (h1 : x < 1000000) : wrap64 x = x := by unfold wrap64; omega
theorem kcell {w w' : World} {S : Nat → Prop} (hk : Keeps w w' S) {a : Addr} {v : Value} (hn : ¬ S a.block) (h : w.cell? a = some v) : w'.cell? a = some v :=
  (World.cell?_of_block (hk.block _ (World.block_lt_of_cell? w a h) hn)).trans h
theorem OwnR.lower {w : World} {B B' e sz n cap : Nat} {a : Option Addr} {cells : List Value} (h : OwnR w B e sz a n cap cells) (hb : B' ≤ B) : OwnR w B' e sz a n cap cells := by
  unfold OwnR at h ⊢
  refine ⟨h.1, ?_⟩
  rcases h.2 with hv | ⟨g, cap', cur, hv, hg, r⟩
  · exact .inl hv
  · exact .inr ⟨g, cap', cur, hv, Nat.le_trans hb hg, r⟩
theorem is_nil (w : World) (x : PP) : Calls Try.prog 36 #[.pointer none, ppv x] w fun e w' => e = .returned (.bool false) ∧ Below w.heap.size w w' := by
  have hb1 := balloc (Below.refl w.heap.size w) (.cells #[.int .i64 x.node, .int .i64 x.state, .int .i64 x.turn] TPP)
  go_enter Try.func36, Try.ntmps36
  go_wp2
  go_quiet ((go_at_call 34; exact Calls.quiet_of_same ((nonil_any _).mono fun _ _ h => ⟨h.1, h.2.symm⟩)))
  go_wp2
  go_ret
  exact ⟨rfl, bdrewN hb1 _⟩
theorem next_nil (w : World) (x : PP) : Calls Try.prog 15 #[.pointer none, ppv x] w (GivesQ w []) := by
  obtain ⟨w1, hw1⟩ : ∃ w1, w.alloc (.cells #[.int .i64 x.node, .int .i64 x.state, .int .i64 x.turn] TPP) = w1 := ⟨_, rfl⟩
  have hb1 : Below w.heap.size w w1 := by rw [← hw1]; exact balloc (Below.refl _ _) _
  have hx : RowAt w1 w.heap.size TPP [.int .i64 x.node, .int .i64 x.state, .int .i64 x.turn] := by rw [← hw1]; exact RowAt.new #[.int .i64 x.node, .int .i64 x.state, .int .i64 x.turn] rfl
  have x0 : w1.cell? ⟨w.heap.size, 0, none⟩ = some (.int .i64 x.node) := hx.cell 0
  have x1 : w1.cell? ⟨w.heap.size, 1, none⟩ = some (.int .i64 x.state) := hx.cell 1
  have x2 : w1.cell? ⟨w.heap.size, 2, none⟩ = some (.int .i64 x.turn) := hx.cell 2
  have I := Lib.hid (is_nil w1 x)
  clear hx
  go_enter Try.func15, Try.ntmps15
  go_wp2_with fail
  refine I.out.mono ?_
  rintro e w2 ⟨rfl, hb2⟩
  go_wp2
  go_ret
  exact ⟨none, 0, rfl, OwnR.nil _ _ _ _, btrans hb1 hb2⟩
def nextTo (G : GR) (T : Int) (es : List PR) (tt : List Int) (A : AU) : List PP := es.foldl (fun out e => pairsP A (labP G e.1) e.1 T out tt) []
theorem nextTo_snoc (G : GR) (T : Int) (es : List PR) (tt : List Int) (A : AU) (e : PR) : nextTo G T (es ++ [e]) tt A = pairsP A (labP G e.1) e.1 T (nextTo G T es tt A) tt := by simp [nextTo]
theorem isP_range {sets : List (List Bool)} {A : AU} {x : PP} (h : isP sets A x = true) : ∃ k t : Nat, x.state = k ∧ x.turn = t ∧ k < A.nodes.length ∧ t < max (allS sets A) 1 := by
  unfold isP inG at h
  simp only [Bool.and_eq_true, decide_eq_true_eq] at h
  exact ⟨x.state.toNat, x.turn.toNat, by omega, by omega, by omega, by omega⟩
set_option maxHeartbeats 4000000 in
theorem next_any (w : World) (p : Nat) (G : GR) (sets : List (List Bool)) (A : AU) (h : PrAt w p G sets A) (lt : Lt G sets A) (x : PP) :
    Calls Try.prog 15 #[.pointer (some ⟨p, 0, none⟩), ppv x] w (GivesQ w (nextP G sets A x)) := by
  obtain ⟨w1, hw1⟩ : ∃ w1, w.alloc (.cells #[.int .i64 x.node, .int .i64 x.state, .int .i64 x.turn] TPP) = w1 := ⟨_, rfl⟩
  have hb1 : Below w.heap.size w w1 := by rw [← hw1]; exact balloc (Below.refl _ _) _
  have hx : RowAt w1 w.heap.size TPP [.int .i64 x.node, .int .i64 x.state, .int .i64 x.turn] := by rw [← hw1]; exact RowAt.new #[.int .i64 x.node, .int .i64 x.state, .int .i64 x.turn] rfl
  have x0 : w1.cell? ⟨w.heap.size, 0, none⟩ = some (.int .i64 x.node) := hx.cell 0
  have x1 : w1.cell? ⟨w.heap.size, 1, none⟩ = some (.int .i64 x.state) := hx.cell 1
  have x2 : w1.cell? ⟨w.heap.size, 2, none⟩ = some (.int .i64 x.turn) := hx.cell 2
  have hP := Lib.hid (fun wr (hb : Below w.heap.size w wr) => h.below hb)
  have I := Lib.hid (pis_any w1 p G sets A (h.below hb1) x)
  cases hi : isP sets A x with
  | false =>
    have hr : Hid (nextP G sets A x = []) := by show _ = _; unfold nextP; rw [hi]; rfl
    rw [hi] at I
    rw [hr.out]
    clear hx hi hr h
    go_enter Try.func15, Try.ntmps15
    go_wp2_with fail
    refine I.out.mono ?_
    rintro e w2 ⟨rfl, hb2⟩
    go_wp2
    go_ret
    exact ⟨none, 0, rfl, OwnR.nil _ _ _ _, btrans hb1 hb2⟩
  | true =>
    obtain ⟨k, t, hxs, hxt, hk, htm⟩ := isP_range hi
    have hN : Hid (nextP G sets A x = nextTo G (turnP G sets A x) (edgesP G x.node) (nodeP A x.state).to A) := by show _ = _; unfold nextP; rw [hi]; rfl
    obtain ⟨T, hT⟩ : ∃ T, T = turnP G sets A x := ⟨_, rfl⟩
    obtain ⟨es, hes⟩ : ∃ es, es = edgesP G x.node := ⟨_, rfl⟩
    obtain ⟨m, hm⟩ : ∃ m, m = allS sets A := ⟨_, rfl⟩
    rw [← hT, ← hes, hxs] at hN
    rw [hN.out]
    have hT2 : Hid (T = if 0 < m ∧ ofP G sets A x = true then ((t : Int) + 1) % (m : Int) else (t : Int)) := by show _ = _; rw [hT]; unfold turnP; rw [← hm, hxt]
    have hm40 : m ≤ 40 := by
      obtain ⟨f, ai, an, ci, cn, h⟩ := h
      obtain ⟨s0, s16, _⟩ := chk_sets h.chk
      obtain ⟨_, t16, _⟩ := src_sets h.src
      rw [hm]; unfold allS; omega
    have hTr : 0 ≤ T ∧ T ≤ 40 := by
      rw [hT2.out]
      split
      · rename_i h0
        have := Int.emod_nonneg ((t : Int) + 1) (show (m : Int) ≠ 0 by omega)
        have := Int.emod_lt_of_pos ((t : Int) + 1) (show 0 < (m : Int) by omega)
        omega
      · rw [← hm] at htm
        omega
    have O := Lib.hid (fun wr (hb : Below w.heap.size w wr) (hm0 : 0 < m) => pof_any wr p G sets A (hP.out wr hb) x k t hk hxs hxt (by rw [← hm]; rw [← hm] at htm; omega))
    have ht40 : (t : Int) ≤ 41 := by rw [← hm] at htm; omega
    obtain ⟨r, hr⟩ : ∃ r, r = ofP G sets A x := ⟨_, rfl⟩
    rw [← hr] at hT2 O
    rw [hi] at I
    have hx' := Lib.hid hx
    obtain ⟨xn, xs, xt⟩ := x
    simp only at hxs hxt x0 x1 x2 hes
    subst hxs hxt
    have hmc : Hid (∀ wr, Below w.heap.size w wr → wr.cell? ⟨p, 4, none⟩ = some (.int .i64 m)) := fun wr hb => by
      obtain ⟨f, ai, an, ci, cn, h⟩ := hP.out wr hb
      rw [hm]
      exact h.row.cell 4
    have hg : Hid (∀ e ∈ es, 0 ≤ e.1 ∧ e.1 < 12) := fun e he => by
      obtain ⟨f, ai, an, ci, cn, h⟩ := h
      have hg := (gchk_good (src_sets h.src).1).2.2.2
      have := lt.e
      rw [hes] at he
      unfold edgesP at he
      split at he
      · rename_i hin
        unfold inG at hin
        simp at hin
        have hl : xn.toNat < G.edges.length := by omega
        rw [List.getD_eq_getElem?_getD, List.getElem?_eq_getElem hl] at he
        have := hg _ (List.getElem_mem hl) e he
        omega
      · simp at he
    have hes12 : es.length ≤ 12 := by
      rw [hes]
      unfold edgesP
      split
      · rename_i hin
        unfold inG at hin
        simp at hin
        have hl : xn.toNat < G.edges.length := by omega
        rw [List.getD_eq_getElem?_getD, List.getElem?_eq_getElem hl]
        exact lt.r _ (List.getElem_mem hl)
      · simp
    have E : ∃ f, Hid (∀ wr, Below w.heap.size w wr → wr.cell? ⟨p, 0, none⟩ = some (.iface TFp (.pointer (some ⟨f, 0, none⟩))) ∧ Calls Try.prog 77 #[.pointer (some ⟨f, 0, none⟩), .int .i64 xn] wr (ClonedP es wr)) := by
      obtain ⟨f, ai, an, ci, cn, h⟩ := h
      refine ⟨f, fun wr hb => ?_⟩
      have := fedges_any wr f G _ _ (h.fx.below hb) (fun l hl => by have := h.ok.rows l hl; omega) xn
      rw [← hes] at this
      exact ⟨(h.row.below hb).cell 0, this⟩
    obtain ⟨f, E⟩ := E
    have hP0 := Lib.hid h
    have ND : Hid (∃ b off a3 n3, ∃ an cn, (nodeP A k).to.length ≤ 12 ∧ (∀ q ∈ (nodeP A k).to, 0 ≤ q ∧ q < (A.nodes.length : Int)) ∧ NumsAt .i64 w a3 (nodeP A k).to ∧ ∀ wr, Below w.heap.size w wr → wr.cell? ⟨p, 3, none⟩ = some (.slice an A.nodes.length cn) ∧ an = some ⟨b, off, none⟩ ∧ wr.cell? ⟨b, off + k * 4 + 3, none⟩ = some (.slice a3 (nodeP A k).to.length n3)) := by
      obtain ⟨f, ai, an, ci, cn, h⟩ := h
      obtain ⟨b, off, ha, n0, n1, n2, a3, x3, n3, hN⟩ := h.au.nodes.at k hk
      refine ⟨b, off, a3, x3, an, cn, ?_, ?_, ?_, fun wr hb => ⟨(h.row.below hb).cell 3, ha, ?_⟩⟩
      · rw [nodeP_at hk]; exact lt.t _ (List.getElem_mem hk)
      · rw [nodeP_at hk]; exact ((chk_good h.chk).2.2.2.2 _ (List.getElem_mem hk)).1
      · rw [nodeP_at hk]; exact hN
      · rw [nodeP_at hk]; exact bcell hb n3
    have hnn8 := lt.n
    clear hx hi h hm hr hT hN lt
    go_enter Try.func15, Try.ntmps15
    go_wp2_with fail
    refine I.out.mono ?_
    rintro e w2 ⟨rfl, hb2⟩
    have hbw2 := btrans hb1 hb2
    have hx2 := hx'.out.below hb2
    have y0 : w2.cell? ⟨w.heap.size, 0, none⟩ = some (.int .i64 xn) := hx2.cell 0
    have y1 : w2.cell? ⟨w.heap.size, 1, none⟩ = some (.int .i64 k) := hx2.cell 1
    have y2 : w2.cell? ⟨w.heap.size, 2, none⟩ = some (.int .i64 t) := hx2.cell 2
    have y3 := hmc.out w2 hbw2
    replace hx2 := Lib.hid hx2
    clear x0 x1 x2 hw1 hb1 hb2 I hx'
    obtain ⟨q, hq⟩ : ∃ q, q = (decide (0 < m) && r) := ⟨_, rfl⟩
    replace hq := Lib.hid hq
    go_upto_region 4 with (fail)
    go_cut [25] (fun c wx => c = .bool q ∧ Below w2.heap.size w2 wx)
    case first =>
      by_cases h0 : 0 < m
      · have h0'' : Hid (decide (0 < m) = true) := by show _ = _; simpa using h0
        have O2 := Lib.hid (O.out w2 hbw2 h0)
        go_wp2_with fail
        refine O2.out.mono ?_
        rintro e w3 ⟨rfl, hb3⟩
        go_wp2
        go_meet
        exact ⟨by rw [hq.out, h0''.out]; rfl, hb3⟩
      · have h0'' : Hid (decide (0 < m) = false) := by show _ = _; simpa using h0
        go_wp2
        go_meet
        exact ⟨by rw [hq.out, h0''.out]; rfl, Below.refl _ _⟩
    case rest =>
      obtain ⟨rfl, hwc⟩ := hcut
      have hbwc := btrans hbw2 hwc
      have hxc := hx2.out.below hwc
      have z0 : wc.cell? ⟨w.heap.size, 0, none⟩ = some (.int .i64 xn) := hxc.cell 0
      have z1 : wc.cell? ⟨w.heap.size, 1, none⟩ = some (.int .i64 k) := hxc.cell 1
      have z2 : wc.cell? ⟨w.heap.size, 2, none⟩ = some (.int .i64 t) := hxc.cell 2
      have z3 := hmc.out wc hbwc
      replace hxc := Lib.hid hxc
      clear y0 y1 y2 y3 hx2 hbw2 hwc O
      go_upto_if 25 with (fail)
      go_cut [5] (fun v wx => v = .int .i64 T ∧ wx = wc)
      case first =>
        cases q with
        | true =>
          have hT3 : T = ((t : Int) + 1) % (m : Int) ∧ 0 < m := by
            have := hq.out
            simp at this
            rw [hT2.out, if_pos this]
            exact ⟨rfl, this.1⟩
          go_wp2
          go_meet
          exact ⟨by rw [hT3.1], rfl⟩
        | false =>
          have hT3 : Hid (T = t) := by
            show _ = _
            have := hq.out
            rw [hT2.out, if_neg]
            rintro ⟨h1, h2⟩
            rw [h2, decide_eq_true h1] at this
            cases this
          go_wp2
          go_meet
          exact ⟨by rw [hT3.out], rfl⟩
      case rest =>
        obtain ⟨rfl, hwx⟩ := hcut
        obtain rfl := hwx.symm
        have hbm := balloc (Below.refl wc.heap.size wc) (.map #[] 0)
        have hbwm := btrans hbwc hbm
        have c0 := (E.out _ hbwc).1
        have c0m := (E.out _ hbwm).1
        have z0m : (wc.alloc (.map #[] 0)).cell? ⟨w.heap.size, 0, none⟩ = some (.int .i64 xn) := bcell hbm z0
        have hmm := @run_makeMap Try.prog
        have hM := meth_Edges
        have QM := Lib.hid (QMap.made wc)
        replace hbm := Lib.hid hbm
        replace hbwm := Lib.hid hbwm
        clear z1 z2 z3 hes
        go_wp2
        have SB : Hid (∀ w', Below wc.heap.size wc w' → w'.cell? ⟨p, 0, none⟩ = some (.iface TFp (.pointer (some ⟨f, 0, none⟩))) ∧ w'.cell? ⟨w.heap.size, 0, none⟩ = some (.int .i64 xn)) := fun w' hb => ⟨bcell hb c0, bcell hb z0⟩
        go_region_held3 (fun w' => w'.cell? ⟨p, 0, none⟩ = some (.iface TFp (.pointer (some ⟨f, 0, none⟩))) ∧ w'.cell? ⟨w.heap.size, 0, none⟩ = some (.int .i64 xn)) (first | exact SB.out _ B3 | exact SB.out _ hbm.out.drew | exact SB.out _ hbm.out) (first
          | (go_at_call 77; (with_reducible refine (E.out _ hbwm.out.drew).2.mono ?_); rintro e w3 ⟨a0, k0, rfl, hO, hb3⟩; have B3 : Below wc.heap.size wc w3 := btrans hbm.out.drew hb3))
        have hzm : (wc.alloc (.map #[] 0)).drew.heap.size = wc.heap.size + 1 := by simp
        have hbw3 : Below w.heap.size w w3 := btrans hbwm.out.drew hb3
        have hbc3 := B3
        have hQ3 : Hid (Acc w3 wc.heap.size wc.heap.size none 0 []) := ⟨(QM.out.keeps (Keeps.drewN _ 1 (fun _ => False)) (fun h => h)).keeps (S := fun _ => False) (Keeps.of_below hb3) (fun h => h), OwnR.nil _ _ _ _, Nat.le_refl _, fun j hj => by simp [Value.ownBlock] at hj⟩
        have hN3 : Hid (∀ wr al nl cl, Finds w3 wc.heap.size none 0 0 wr al nl cl → PairsAt wr a0 es) := fun wr al nl cl hF => PairsAt.of_own (OwnR.keeps hO hF.1 (fun j hj hh => by
          have h1 := (OwnR.lt hO hj).1
          rcases hh with h3 | h3
          · omega
          · simp [Value.ownBlock] at h3))
        obtain ⟨b, off, a3, n3, an, cn, ht12, htr, hto, hnd⟩ := ND.out
        obtain ⟨tt, htt⟩ : ∃ tt, tt = (nodeP A k).to := ⟨_, rfl⟩
        rw [← htt] at ht12 htr hto hnd
        obtain ⟨Q, hQ⟩ : ∃ Q, Q = GivesQ w (nextTo G T es (nodeP A k).to A) := ⟨_, rfl⟩
        have hwl : Hid (w.heap.size < wc.heap.size ∧ p < wc.heap.size ∧ ∀ b off, an = some ⟨b, off, none⟩ → b < wc.heap.size) := ⟨hxc.out.lt, World.block_lt_of_cell? wc _ c0, fun b' off' he => by
          obtain ⟨_, h2, h3⟩ := hnd wc hbwc
          rw [h2] at he
          cases he
          exact World.block_lt_of_cell? wc _ h3⟩
        replace htr := Lib.hid htr
        replace hto := Lib.hid hto
        replace hnd := Lib.hid hnd
        replace htt := Lib.hid htt
        have hwcz := hbwc.size
        have hB3 := hbw3.size
        replace hbc3 := Lib.hid hbc3
        replace hbw3 := Lib.hid hbw3
        clear hO hb3 B3 SB QM hbm hbwm c0 c0m z0 z0m hmm hM ND E hzm hQ hbwc
        go_wp2
        go_loopw [6, 42] (fun lv iv wr => ∃ (i : Nat) (l : List PP) (al : Option Addr) (cl : Nat), i ≤ es.length ∧ iv = .int .i64 i ∧ lv = .slice al l.length cl ∧ Hid (l = nextTo G T (es.take i) tt A) ∧ l.length ≤ i * 12 ∧ Acc wr wc.heap.size wc.heap.size al cl l ∧ Finds w3 wc.heap.size none 0 0 wr al l.length cl) (fun _ iv _ => es.length - (intOf iv).toNat)
        case atStart => exact ⟨0, [], none, 0, Nat.zero_le _, rfl, rfl, rfl, Nat.zero_le _, hQ3.out, Finds.refl _ _ _ _ _⟩
        case round =>
          obtain ⟨i, l, al, cl, hi, rfl, rfl, hs, hll, hA, hF⟩ := hrel
          have hbr : Below wc.heap.size wc wr := hF.1.below hbc3.out (fun j hj => by
            rcases hj with rfl | hj
            · exact Nat.le_refl _
            · simp [Value.ownBlock] at hj)
          have hbwr : Below w.heap.size w wr := hF.1.below hbw3.out (fun j hj => by
            rcases hj with rfl | hj
            · exact hwcz
            · simp [Value.ownBlock] at hj)
          by_cases hlt : i < es.length
          · have hie : i < es.length := hlt
            obtain ⟨be, oe, ha0, hbe, e0, e1⟩ := (hN3.out _ _ _ _ hF).at i hie
            have hgi := hg.out _ (List.getElem_mem hie)
            have hst : Hid (nextTo G T (es.take (i + 1)) tt A = pairsP A (labP G es[i].1) es[i].1 T l tt) := by
              show _ = _
              rw [List.take_add_one, List.getElem?_eq_getElem hie, Option.toList_some, nextTo_snoc, ← hs.out]
            obtain ⟨ev, hev⟩ : ∃ ev, ev = es[i] := ⟨_, rfl⟩
            rw [← hev] at e0 e1 hgi hst
            obtain ⟨u, v⟩ := ev
            simp only at e0 e1 hgi hst
            have hl2 := pairsP_len A (labP G u) u T tt l
            have hwz := hbr.size
            have C := fun wr' (hb : Below wr.heap.size wr wr') => pairs_any w wr' p G sets A hP0.out (btrans hbwr hb) wc.heap.size wc.heap.size hwcz (Nat.le_trans hwz hb.size) al cl l (hA.below hb) a3 n3 tt hto.out htr.out u T (wf_small hgi.1 (by omega)) (wf_small hTr.1 (by omega)) (by omega)
            rw [← hst.out] at C hl2
            obtain ⟨l2, hl2e⟩ : ∃ l2, l2 = nextTo G T (es.take (i + 1)) tt A := ⟨_, rfl⟩
            rw [← hl2e] at C hl2
            replace C := Lib.hid C
            replace hl2e := Lib.hid hl2e
            have hxr := hxc.out.below hbr
            have z1 : wr.cell? ⟨w.heap.size, 1, none⟩ = some (.int .i64 k) := hxr.cell 1
            obtain ⟨z3, han, z4⟩ := hnd.out wr hbwr
            have hlt2 : (i : Int) < (es.length : Int) := by omega
            have hk2 : (k : Int) < (A.nodes.length : Int) := by omega
            have hre := Lib.hid (RowAt.new (w := wr) (T := TE) #[.int .i64 u, .int .i64 v] rfl)
            have hcold : Hid (∀ j, j < wc.heap.size → ¬ HotQ wc.heap.size al l.length cl j) := fun j hj hh => by have := (hA.hotB hh).1; omega
            have hcold2 : Hid (¬ HotQ wc.heap.size al l.length cl wr.heap.size) := fun hh => by have := (hA.hotB hh).2; omega
            have hbe' := Lib.hid (balloc (Below.refl wr.heap.size wr) (.cells #[.int .i64 u, .int .i64 v] TE))
            replace hF := Lib.hid hF
            subst ha0
            subst han
            clear hst hev hs hie hA hbr hbwr hxr hwz hxc
            go_wp2
            have SB : Hid (∀ w' : World, (∀ a v, a.block < wc.heap.size → wr.cell? a = some v → w'.cell? a = some v) → w'.cell? ⟨wr.heap.size, 0, none⟩ = some (.int .i64 u) → w'.cell? ⟨wr.heap.size, 0, none⟩ = some (.int .i64 u) ∧ w'.cell? ⟨w.heap.size, 1, none⟩ = some (.int .i64 k) ∧ w'.cell? ⟨p, 3, none⟩ = some (.slice (some ⟨b, off, none⟩) A.nodes.length cn) ∧ w'.cell? ⟨b, off + k * 4 + 3, none⟩ = some (.slice a3 tt.length n3)) := fun w' hh h0 => ⟨h0, hh _ _ hwl.out.1 z1, hh _ _ hwl.out.2.1 z3, hh _ _ (hwl.out.2.2 b off rfl) z4⟩
            go_region_held3 (fun w' => w'.cell? ⟨wr.heap.size, 0, none⟩ = some (.int .i64 u) ∧ w'.cell? ⟨w.heap.size, 1, none⟩ = some (.int .i64 k) ∧ w'.cell? ⟨p, 3, none⟩ = some (.slice (some ⟨b, off, none⟩) A.nodes.length cn) ∧ w'.cell? ⟨b, off + k * 4 + 3, none⟩ = some (.slice a3 tt.length n3)) (first | exact B4 | exact SB.out _ (fun a v _ h => bcell hbe'.out.drew h) (hre.out.below (Below.refl _ _).drew |>.cell 0) | exact SB.out _ (fun a v _ h => bcell hbe'.out h) (hre.out.cell 0)) (first
              | (go_at_call 35; (with_reducible refine (C.out _ hbe'.out.drew).mono ?_); rintro e w4 ⟨a4, c4, rfl, hA4, hF4⟩; have B4 := SB.out w4 (fun a v hl h => kcell hF4.1 (hcold.out _ hl) (bcell hbe'.out.drew h)) (kcell hF4.1 hcold2.out (hre.out.below (Below.refl _ _).drew |>.cell 0)); replace hA4 := Lib.hid hA4; have hF5 := Lib.hid (Finds.trans (hF.out.below_r hbe'.out.drew) hF4)))
            clear C hF e0 e1 z1 z3 z4 B4 SB hre hcold hcold2
            go_wp2
            go_roundw
            case rel => exact ⟨i + 1, l2, a4, c4, by omega, by go_num, rfl, hl2e, by omega, hA4.out, hF5.out⟩
            case measure => simp [intOf]; omega
          · have hke : i = es.length := by omega
            subst hke
            rw [List.take_length] at hs
            replace hA := Lib.hid hA
            go_wp2
            go_ret
            rw [← htt.out, ← hs.out]
            exact ⟨al, cl, rfl, OwnR.lower hA.out.own hwcz, hbwr⟩
end Go.Proofs.Ytmlbjfaofppikaa
