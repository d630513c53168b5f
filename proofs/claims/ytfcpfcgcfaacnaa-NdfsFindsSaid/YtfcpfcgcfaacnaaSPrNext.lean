/- The pairs behind a pair of a product. Conditions: a product that New made, and a small one. Whether a pair of a product is In. Conditions: a product that New made. The library's Contains at pairs. No conditions but a bound. The edge by which a pair of a product leads to another one. Conditions: a product that New made, and a small one. -/
import Derived.Test.YtfcpfcgcfaacnaaSPrObj
import Derived.Deep.DeepCutAuto
import Derived.BigRegion
import Derived.Deep.RegionHeld3
namespace Go.Proofs.Ytfcpfcgcfaacnaa
open Go.RowKit
theorem kcell {w w' : World} {S : Nat → Prop} (hk : Keeps w w' S) {a : Addr} {v : Value} (hn : ¬ S a.block) (h : w.cell? a = some v) : w'.cell? a = some v :=
 (World.cell?_of_block (hk.block _ (World.block_lt_of_cell? w a h) hn)).trans h
theorem OwnR.lower {w : World} {B B' e sz n cap : Nat} {a : Option Addr} {cells : List Value} (h : OwnR w B e sz a n cap cells) (hb : B' ≤ B) : OwnR w B' e sz a n cap cells := by
 unfold OwnR at h ⊢
 refine ⟨h.1, ?_⟩
 rcases h.2 with hv | ⟨g, cap', cur, hv, hg, r⟩
 ·exact .inl hv
 ·exact .inr ⟨g, cap', cur, hv, Nat.le_trans hb hg, r⟩
def nextTo (G : GR) (T : Int) (es : List PR) (tt : List Int) (A : AU) : List PP := es.foldl (fun out e => pairsP A (labP G e.1) e.1 T out tt) []
theorem nextTo_snoc (G : GR) (T : Int) (es : List PR) (tt : List Int) (A : AU) (e : PR) : nextTo G T (es ++ [e]) tt A = pairsP A (labP G e.1) e.1 T (nextTo G T es tt A) tt := by simp [nextTo]
theorem isP_range {sets : List (List Bool)} {A : AU} {x : PP} (h : isP sets A x = true) : ∃ k t : Nat, x.state = k ∧ x.turn = t ∧ k < A.nodes.length ∧ t < max (allS sets A) 1 := by
 unfold isP inG at h
 simp only [Bool.and_eq_true, decide_eq_true_eq] at h
 exact ⟨x.state.toNat, x.turn.toNat, by omega, by omega, by omega, by omega⟩
set_option maxHeartbeats 4000000 in
theorem next_any (w : World) (p : Nat) (G : GR) (sets : List (List Bool)) (A : AU) (h : PrAt w p G sets A) (lt : Lt G sets A) (x : PP) :
  Calls Try.prog 82 #[.pointer (some ⟨p, 0, none⟩), ppv x] w (GivesQ w (nextP G sets A x)) := by
 obtain ⟨w1, hw1⟩ : ∃ w1, w.alloc (.cells #[.int .i64 x.node, .int .i64 x.state, .int .i64 x.turn] TPP) = w1 := ⟨_, rfl⟩
 have hb1 : Below w.heap.size w w1 := by rw [← hw1]; exact balloc (Below.refl _ _) _
 have hx : RowAt w1 w.heap.size TPP [.int .i64 x.node, .int .i64 x.state, .int .i64 x.turn] := by rw [← hw1]; exact RowAt.new #[.int .i64 x.node, .int .i64 x.state, .int .i64 x.turn] rfl
 have x0 : w1.cell? ⟨w.heap.size, 0, none⟩ = some (.int .i64 x.node) := hx.cell 0
 have x1 : w1.cell? ⟨w.heap.size, 1, none⟩ = some (.int .i64 x.state) := hx.cell 1
 have x2 : w1.cell? ⟨w.heap.size, 2, none⟩ = some (.int .i64 x.turn) := hx.cell 2
 have hP := Lib.hid (fun wr (hb : Below w.heap.size w wr) => h.below hb)
 have I := Lib.hid (pis_any w1 p G sets A (h.below hb1) x)
 cases hi : isP sets A x with
 | false =>
  have hr : Hid (nextP G sets A x = []) := by show _ = _; unfold nextP; rw [hi]; rfl
  rw [hi] at I
  rw [hr.out]
  clear hx hi hr h
  go_enter Try.func82, Try.ntmps82
  go_wp2_with fail
  refine I.out.mono ?_
  rintro e w2 ⟨rfl, hb2⟩
  go_wp2
  go_ret
  exact ⟨none, 0, rfl, OwnR.nil _ _ _ _, btrans hb1 hb2⟩
 | true =>
  obtain ⟨k, t, hxs, hxt, hk, htm⟩ := isP_range hi
  have hN : Hid (nextP G sets A x = nextTo G (turnP G sets A x) (edgesP G x.node) (nodeP A x.state).to A) := by show _ = _; unfold nextP; rw [hi]; rfl
  obtain ⟨T, hT⟩ : ∃ T, T = turnP G sets A x := ⟨_, rfl⟩
  obtain ⟨es, hes⟩ : ∃ es, es = edgesP G x.node := ⟨_, rfl⟩
  obtain ⟨m, hm⟩ : ∃ m, m = allS sets A := ⟨_, rfl⟩
  rw [← hT, ← hes, hxs] at hN
  rw [hN.out]
  have hT2 : Hid (T = if 0 < m ∧ ofP G sets A x = true then ((t : Int) + 1) % (m : Int) else (t : Int)) := by show _ = _; rw [hT]; unfold turnP; rw [← hm, hxt]
  have hm40 : m ≤ 40 := by
   obtain ⟨f, ai, an, ci, cn, h⟩ := h
   obtain ⟨s0, s16, _⟩ := chk_sets h.chk
   obtain ⟨_, t16, _⟩ := src_sets h.src
   rw [hm]; unfold allS; omega
  have hTr : 0 ≤ T ∧ T ≤ 40 := by
   rw [hT2.out]
   split
   ·rename_i h0
    have := Int.emod_nonneg ((t : Int) + 1) (show (m : Int) ≠ 0 by omega)
    have := Int.emod_lt_of_pos ((t : Int) + 1) (show 0 < (m : Int) by omega)
    omega
   ·rw [← hm] at htm
    omega
  have O := Lib.hid (fun wr (hb : Below w.heap.size w wr) (hm0 : 0 < m) => pof_any wr p G sets A (hP.out wr hb) x k t hk hxs hxt (by rw [← hm]; rw [← hm] at htm; omega))
  have ht40 : (t : Int) ≤ 41 := by rw [← hm] at htm; omega
  obtain ⟨r, hr⟩ : ∃ r, r = ofP G sets A x := ⟨_, rfl⟩
  rw [← hr] at hT2 O
  rw [hi] at I
  have hx' := Lib.hid hx
  obtain ⟨xn, xs, xt⟩ := x
  simp only at hxs hxt x0 x1 x2 hes
  subst hxs hxt
  have hmc : Hid (∀ wr, Below w.heap.size w wr → wr.cell? ⟨p, 4, none⟩ = some (.int .i64 m)) := fun wr hb => by
   obtain ⟨f, ai, an, ci, cn, h⟩ := hP.out wr hb
   rw [hm]
   exact h.row.cell 4
  have hg : Hid (∀ e ∈ es, 0 ≤ e.1 ∧ e.1 < 12) := fun e he => by
   obtain ⟨f, ai, an, ci, cn, h⟩ := h
   have hg := (gchk_good (src_sets h.src).1).2.2.2
   have := lt.e
   rw [hes] at he
   unfold edgesP at he
   split at he
   ·rename_i hin
    unfold inG at hin
    simp at hin
    have hl : xn.toNat < G.edges.length := by omega
    rw [List.getD_eq_getElem?_getD, List.getElem?_eq_getElem hl] at he
    have := hg _ (List.getElem_mem hl) e he
    omega
   ·simp at he
  have hes12 : es.length ≤ 12 := by
   rw [hes]
   unfold edgesP
   split
   ·rename_i hin
    unfold inG at hin
    simp at hin
    have hl : xn.toNat < G.edges.length := by omega
    rw [List.getD_eq_getElem?_getD, List.getElem?_eq_getElem hl]
    exact lt.r _ (List.getElem_mem hl)
   ·simp
  have E : ∃ f, Hid (∀ wr, Below w.heap.size w wr → wr.cell? ⟨p, 0, none⟩ = some (.iface TFp (.pointer (some ⟨f, 0, none⟩))) ∧ Calls Try.prog 102 #[.pointer (some ⟨f, 0, none⟩), .int .i64 xn] wr (ClonedP es wr)) := by
   obtain ⟨f, ai, an, ci, cn, h⟩ := h
   refine ⟨f, fun wr hb => ?_⟩
   have := fedges_any wr f G _ _ (h.fx.below hb) (fun l hl => by have := h.ok.rows l hl; omega) xn
   rw [← hes] at this
   exact ⟨(h.row.below hb).cell 0, this⟩
  obtain ⟨f, E⟩ := E
  have hP0 := Lib.hid h
  have ND : Hid (∃ b off a3 n3, ∃ an cn, (nodeP A k).to.length ≤ 12 ∧ (∀ q ∈ (nodeP A k).to, 0 ≤ q ∧ q < (A.nodes.length : Int)) ∧ NumsAt .i64 w a3 (nodeP A k).to ∧ ∀ wr, Below w.heap.size w wr → wr.cell? ⟨p, 3, none⟩ = some (.slice an A.nodes.length cn) ∧ an = some ⟨b, off, none⟩ ∧ wr.cell? ⟨b, off + k * 4 + 3, none⟩ = some (.slice a3 (nodeP A k).to.length n3)) := by
   obtain ⟨f, ai, an, ci, cn, h⟩ := h
   obtain ⟨b, off, ha, n0, n1, n2, a3, x3, n3, hN⟩ := h.au.nodes.at k hk
   refine ⟨b, off, a3, x3, an, cn, ?_, ?_, ?_, fun wr hb => ⟨(h.row.below hb).cell 3, ha, ?_⟩⟩
   ·rw [nodeP_at hk]; exact lt.t _ (List.getElem_mem hk)
   ·rw [nodeP_at hk]; exact ((chk_good h.chk).2.2.2.2 _ (List.getElem_mem hk)).1
   ·rw [nodeP_at hk]; exact hN
   ·rw [nodeP_at hk]; exact bcell hb n3
  have hnn8 := lt.n
  clear hx hi h hm hr hT hN lt
  go_enter Try.func82, Try.ntmps82
  go_wp2_with fail
  refine I.out.mono ?_
  rintro e w2 ⟨rfl, hb2⟩
  have hbw2 := btrans hb1 hb2
  have hx2 := hx'.out.below hb2
  have y0 : w2.cell? ⟨w.heap.size, 0, none⟩ = some (.int .i64 xn) := hx2.cell 0
  have y1 : w2.cell? ⟨w.heap.size, 1, none⟩ = some (.int .i64 k) := hx2.cell 1
  have y2 : w2.cell? ⟨w.heap.size, 2, none⟩ = some (.int .i64 t) := hx2.cell 2
  have y3 := hmc.out w2 hbw2
  replace hx2 := Lib.hid hx2
  clear x0 x1 x2 hw1 hb1 hb2 I hx'
  obtain ⟨q, hq⟩ : ∃ q, q = (decide (0 < m) && r) := ⟨_, rfl⟩
  replace hq := Lib.hid hq
  go_upto_region 4 with (fail)
  go_cut [25] (fun c wx => c = .bool q ∧ Below w2.heap.size w2 wx)
  case first =>
   by_cases h0 : 0 < m
   ·have h0'' : Hid (decide (0 < m) = true) := by show _ = _; simpa using h0
    have O2 := Lib.hid (O.out w2 hbw2 h0)
    go_wp2_with fail
    refine O2.out.mono ?_
    rintro e w3 ⟨rfl, hb3⟩
    go_wp2
    go_meet
    exact ⟨by rw [hq.out, h0''.out]; rfl, hb3⟩
   ·have h0'' : Hid (decide (0 < m) = false) := by show _ = _; simpa using h0
    go_wp2
    go_meet
    exact ⟨by rw [hq.out, h0''.out]; rfl, Below.refl _ _⟩
  case rest =>
   obtain ⟨rfl, hwc⟩ := hcut
   have hbwc := btrans hbw2 hwc
   have hxc := hx2.out.below hwc
   have z0 : wc.cell? ⟨w.heap.size, 0, none⟩ = some (.int .i64 xn) := hxc.cell 0
   have z1 : wc.cell? ⟨w.heap.size, 1, none⟩ = some (.int .i64 k) := hxc.cell 1
   have z2 : wc.cell? ⟨w.heap.size, 2, none⟩ = some (.int .i64 t) := hxc.cell 2
   have z3 := hmc.out wc hbwc
   replace hxc := Lib.hid hxc
   clear y0 y1 y2 y3 hx2 hbw2 hwc O
   go_upto_if 25 with (fail)
   go_cut [5] (fun v wx => v = .int .i64 T ∧ wx = wc)
   case first =>
    cases q with
    | true =>
     have hT3 : T = ((t : Int) + 1) % (m : Int) ∧ 0 < m := by
      have := hq.out
      simp at this
      rw [hT2.out, if_pos this]
      exact ⟨rfl, this.1⟩
     go_wp2
     go_meet
     exact ⟨by rw [hT3.1], rfl⟩
    | false =>
     have hT3 : Hid (T = t) := by
      show _ = _
      have := hq.out
      rw [hT2.out, if_neg]
      rintro ⟨h1, h2⟩
      rw [h2, decide_eq_true h1] at this
      cases this
     go_wp2
     go_meet
     exact ⟨by rw [hT3.out], rfl⟩
   case rest =>
    obtain ⟨rfl, hwx⟩ := hcut
    obtain rfl := hwx.symm
    have hbm := balloc (Below.refl wc.heap.size wc) (.map #[] 0)
    have hbwm := btrans hbwc hbm
    have c0 := (E.out _ hbwc).1
    have c0m := (E.out _ hbwm).1
    have z0m : (wc.alloc (.map #[] 0)).cell? ⟨w.heap.size, 0, none⟩ = some (.int .i64 xn) := bcell hbm z0
    have hmm := @run_makeMap Try.prog
    have hM := meth_Edges
    have QM := Lib.hid (QMap.made wc)
    replace hbm := Lib.hid hbm
    replace hbwm := Lib.hid hbwm
    clear z1 z2 z3 hes
    go_wp2
    have SB : Hid (∀ w', Below wc.heap.size wc w' → w'.cell? ⟨p, 0, none⟩ = some (.iface TFp (.pointer (some ⟨f, 0, none⟩))) ∧ w'.cell? ⟨w.heap.size, 0, none⟩ = some (.int .i64 xn)) := fun w' hb => ⟨bcell hb c0, bcell hb z0⟩
    go_region_held3 (fun w' => w'.cell? ⟨p, 0, none⟩ = some (.iface TFp (.pointer (some ⟨f, 0, none⟩))) ∧ w'.cell? ⟨w.heap.size, 0, none⟩ = some (.int .i64 xn)) (first | exact SB.out _ B3 | exact SB.out _ hbm.out.drew | exact SB.out _ hbm.out) (first
     | (go_at_call 102; (with_reducible refine (E.out _ hbwm.out.drew).2.mono ?_); rintro e w3 ⟨a0, k0, rfl, hO, hb3⟩; have B3 : Below wc.heap.size wc w3 := btrans hbm.out.drew hb3))
    have hzm : (wc.alloc (.map #[] 0)).drew.heap.size = wc.heap.size + 1 := by simp
    have hbw3 : Below w.heap.size w w3 := btrans hbwm.out.drew hb3
    have hbc3 := B3
    have hQ3 : Hid (Acc w3 wc.heap.size wc.heap.size none 0 []) := ⟨(QM.out.keeps (Keeps.drewN _ 1 (fun _ => False)) (fun h => h)).keeps (S := fun _ => False) (Keeps.of_below hb3) (fun h => h), OwnR.nil _ _ _ _, Nat.le_refl _, fun j hj => by simp [Value.ownBlock] at hj⟩
    have hN3 : Hid (∀ wr al nl cl, Finds w3 wc.heap.size none 0 0 wr al nl cl → PairsAt wr a0 es) := fun wr al nl cl hF => PairsAt.of_own (OwnR.keeps hO hF.1 (fun j hj hh => by
     have h1 := (OwnR.lt hO hj).1
     rcases hh with h3 | h3
     ·omega
     ·simp [Value.ownBlock] at h3))
    obtain ⟨b, off, a3, n3, an, cn, ht12, htr, hto, hnd⟩ := ND.out
    obtain ⟨tt, htt⟩ : ∃ tt, tt = (nodeP A k).to := ⟨_, rfl⟩
    rw [← htt] at ht12 htr hto hnd
    obtain ⟨Q, hQ⟩ : ∃ Q, Q = GivesQ w (nextTo G T es (nodeP A k).to A) := ⟨_, rfl⟩
    have hwl : Hid (w.heap.size < wc.heap.size ∧ p < wc.heap.size ∧ ∀ b off, an = some ⟨b, off, none⟩ → b < wc.heap.size) := ⟨hxc.out.lt, World.block_lt_of_cell? wc _ c0, fun b' off' he => by
     obtain ⟨_, h2, h3⟩ := hnd wc hbwc
     rw [h2] at he
     cases he
     exact World.block_lt_of_cell? wc _ h3⟩
    replace htr := Lib.hid htr
    replace hto := Lib.hid hto
    replace hnd := Lib.hid hnd
    replace htt := Lib.hid htt
    have hwcz := hbwc.size
    have hB3 := hbw3.size
    replace hbc3 := Lib.hid hbc3
    replace hbw3 := Lib.hid hbw3
    clear hO hb3 B3 SB QM hbm hbwm c0 c0m z0 z0m hmm hM ND E hzm hQ hbwc
    go_wp2
    go_loopw [6, 42] (fun lv iv wr => ∃ (i : Nat) (l : List PP) (al : Option Addr) (cl : Nat), i ≤ es.length ∧ iv = .int .i64 i ∧ lv = .slice al l.length cl ∧ Hid (l = nextTo G T (es.take i) tt A) ∧ l.length ≤ i * 12 ∧ Acc wr wc.heap.size wc.heap.size al cl l ∧ Finds w3 wc.heap.size none 0 0 wr al l.length cl) (fun _ iv _ => es.length - (intOf iv).toNat)
    case atStart => exact ⟨0, [], none, 0, Nat.zero_le _, rfl, rfl, rfl, Nat.zero_le _, hQ3.out, Finds.refl _ _ _ _ _⟩
    case round =>
     obtain ⟨i, l, al, cl, hi, rfl, rfl, hs, hll, hA, hF⟩ := hrel
     have hbr : Below wc.heap.size wc wr := hF.1.below hbc3.out (fun j hj => by
      rcases hj with rfl | hj
      ·exact Nat.le_refl _
      ·simp [Value.ownBlock] at hj)
     have hbwr : Below w.heap.size w wr := hF.1.below hbw3.out (fun j hj => by
      rcases hj with rfl | hj
      ·exact hwcz
      ·simp [Value.ownBlock] at hj)
     by_cases hlt : i < es.length
     ·have hie : i < es.length := hlt
      obtain ⟨be, oe, ha0, hbe, e0, e1⟩ := (hN3.out _ _ _ _ hF).at i hie
      have hgi := hg.out _ (List.getElem_mem hie)
      have hst : Hid (nextTo G T (es.take (i + 1)) tt A = pairsP A (labP G es[i].1) es[i].1 T l tt) := by
       show _ = _
       rw [List.take_add_one, List.getElem?_eq_getElem hie, Option.toList_some, nextTo_snoc, ← hs.out]
      obtain ⟨ev, hev⟩ : ∃ ev, ev = es[i] := ⟨_, rfl⟩
      rw [← hev] at e0 e1 hgi hst
      obtain ⟨u, v⟩ := ev
      simp only at e0 e1 hgi hst
      have hl2 := pairsP_len A (labP G u) u T tt l
      have hwz := hbr.size
      have C := fun wr' (hb : Below wr.heap.size wr wr') => pairs_any w wr' p G sets A hP0.out (btrans hbwr hb) wc.heap.size wc.heap.size hwcz (Nat.le_trans hwz hb.size) al cl l (hA.below hb) a3 n3 tt hto.out htr.out u T (wf_small hgi.1 (by omega)) (wf_small hTr.1 (by omega)) (by omega)
      rw [← hst.out] at C hl2
      obtain ⟨l2, hl2e⟩ : ∃ l2, l2 = nextTo G T (es.take (i + 1)) tt A := ⟨_, rfl⟩
      rw [← hl2e] at C hl2
      replace C := Lib.hid C
      replace hl2e := Lib.hid hl2e
      have hxr := hxc.out.below hbr
      have z1 : wr.cell? ⟨w.heap.size, 1, none⟩ = some (.int .i64 k) := hxr.cell 1
      obtain ⟨z3, han, z4⟩ := hnd.out wr hbwr
      have hlt2 : (i : Int) < (es.length : Int) := by omega
      have hk2 : (k : Int) < (A.nodes.length : Int) := by omega
      have hre := Lib.hid (RowAt.new (w := wr) (T := TE) #[.int .i64 u, .int .i64 v] rfl)
      have hcold : Hid (∀ j, j < wc.heap.size → ¬ HotQ wc.heap.size al l.length cl j) := fun j hj hh => by have := (hA.hotB hh).1; omega
      have hcold2 : Hid (¬ HotQ wc.heap.size al l.length cl wr.heap.size) := fun hh => by have := (hA.hotB hh).2; omega
      have hbe' := Lib.hid (balloc (Below.refl wr.heap.size wr) (.cells #[.int .i64 u, .int .i64 v] TE))
      replace hF := Lib.hid hF
      subst ha0
      subst han
      clear hst hev hs hie hA hbr hbwr hxr hwz hxc
      go_wp2
      have SB : Hid (∀ w' : World, (∀ a v, a.block < wc.heap.size → wr.cell? a = some v → w'.cell? a = some v) → w'.cell? ⟨wr.heap.size, 0, none⟩ = some (.int .i64 u) → w'.cell? ⟨wr.heap.size, 0, none⟩ = some (.int .i64 u) ∧ w'.cell? ⟨w.heap.size, 1, none⟩ = some (.int .i64 k) ∧ w'.cell? ⟨p, 3, none⟩ = some (.slice (some ⟨b, off, none⟩) A.nodes.length cn) ∧ w'.cell? ⟨b, off + k * 4 + 3, none⟩ = some (.slice a3 tt.length n3)) := fun w' hh h0 => ⟨h0, hh _ _ hwl.out.1 z1, hh _ _ hwl.out.2.1 z3, hh _ _ (hwl.out.2.2 b off rfl) z4⟩
      go_region_held3 (fun w' => w'.cell? ⟨wr.heap.size, 0, none⟩ = some (.int .i64 u) ∧ w'.cell? ⟨w.heap.size, 1, none⟩ = some (.int .i64 k) ∧ w'.cell? ⟨p, 3, none⟩ = some (.slice (some ⟨b, off, none⟩) A.nodes.length cn) ∧ w'.cell? ⟨b, off + k * 4 + 3, none⟩ = some (.slice a3 tt.length n3)) (first | exact B4 | exact SB.out _ (fun a v _ h => bcell hbe'.out.drew h) (hre.out.below (Below.refl _ _).drew |>.cell 0) | exact SB.out _ (fun a v _ h => bcell hbe'.out h) (hre.out.cell 0)) (first
       | (go_at_call 67; (with_reducible refine (C.out _ hbe'.out.drew).mono ?_); rintro e w4 ⟨a4, c4, rfl, hA4, hF4⟩; have B4 := SB.out w4 (fun a v hl h => kcell hF4.1 (hcold.out _ hl) (bcell hbe'.out.drew h)) (kcell hF4.1 hcold2.out (hre.out.below (Below.refl _ _).drew |>.cell 0)); replace hA4 := Lib.hid hA4; have hF5 := Lib.hid (Finds.trans (hF.out.below_r hbe'.out.drew) hF4)))
      clear C hF e0 e1 z1 z3 z4 B4 SB hre hcold hcold2
      go_wp2
      go_roundw
      case rel => exact ⟨i + 1, l2, a4, c4, by omega, by go_num, rfl, hl2e, by omega, hA4.out, hF5.out⟩
      case measure => simp [intOf]; omega
     ·have hke : i = es.length := by omega
      subst hke
      rw [List.take_length] at hs
      replace hA := Lib.hid hA
      go_wp2
      go_ret
      rw [← htt.out, ← hs.out]
      exact ⟨al, cl, rfl, OwnR.lower hA.out.own hwcz, hbwr⟩
end Go.Proofs.Ytfcpfcgcfaacnaa
namespace Go.Proofs.Ytfcpfcgcfaacnaa
open Go.RowKit
set_option maxHeartbeats 1000000 in
theorem in_any (w : World) (p : Nat) (G : GR) (sets : List (List Bool)) (A : AU) (h : PrAt w p G sets A) (x : PP) :
  Calls Try.prog 70 #[.pointer (some ⟨p, 0, none⟩), ppv x] w fun e w' => e = .returned (.bool (inP G sets A x)) ∧ Below w.heap.size w w' := by
 obtain ⟨w1, hw1⟩ : ∃ w1, w.alloc (.cells #[.int .i64 x.node, .int .i64 x.state, .int .i64 x.turn] TPP) = w1 := ⟨_, rfl⟩
 have hb1 : Below w.heap.size w w1 := by rw [← hw1]; exact balloc (Below.refl _ _) _
 have hx : RowAt w1 w.heap.size TPP [.int .i64 x.node, .int .i64 x.state, .int .i64 x.turn] := by rw [← hw1]; exact RowAt.new #[.int .i64 x.node, .int .i64 x.state, .int .i64 x.turn] rfl
 have x0 : w1.cell? ⟨w.heap.size, 0, none⟩ = some (.int .i64 x.node) := hx.cell 0
 have x1 : w1.cell? ⟨w.heap.size, 1, none⟩ = some (.int .i64 x.state) := hx.cell 1
 have x2 : w1.cell? ⟨w.heap.size, 2, none⟩ = some (.int .i64 x.turn) := hx.cell 2
 have hP := Lib.hid (fun wr (hb : Below w.heap.size w wr) => h.below hb)
 have I := Lib.hid (pis_any w1 p G sets A (h.below hb1) x)
 cases hi : isP sets A x with
 | false =>
  have hr : Hid (inP G sets A x = false) := by show _ = _; unfold inP; rw [hi]; rfl
  rw [hi] at I
  rw [hr.out]
  clear hx hi hr h
  go_enter Try.func70, Try.ntmps70
  go_wp2_with fail
  refine I.out.mono ?_
  rintro e w2 ⟨rfl, hb2⟩
  go_wp2
  go_ret
  exact ⟨rfl, btrans hb1 hb2⟩
 | true =>
  obtain ⟨k, t, hxs, hxt, hk, htm⟩ := isP_range hi
  have hr : Hid (inP G sets A x = (decide (allS sets A = 0) || (decide (t = 0) && ofP G sets A x))) := by
   show _ = _
   unfold inP
   rw [hi, hxt, Bool.true_and]
   congr 2
   simp
  obtain ⟨m, hm⟩ : ∃ m, m = allS sets A := ⟨_, rfl⟩
  have O := Lib.hid (fun wr (hb : Below w.heap.size w wr) (hm0 : 0 < m) => pof_any wr p G sets A (hP.out wr hb) x k t hk hxs hxt (by rw [← hm]; rw [← hm] at htm; omega))
  have hmc : Hid (∀ wr, Below w.heap.size w wr → wr.cell? ⟨p, 4, none⟩ = some (.int .i64 m)) := fun wr hb => by
   obtain ⟨f, ai, an, ci, cn, h⟩ := hP.out wr hb
   rw [hm]
   exact h.row.cell 4
  rw [← hm] at hr
  obtain ⟨r, hr'⟩ : ∃ r, r = ofP G sets A x := ⟨_, rfl⟩
  rw [← hr'] at hr O
  rw [hi] at I
  rw [hr.out]
  have hx' := Lib.hid hx
  obtain ⟨xn, xs, xt⟩ := x
  simp only at hxs hxt x0 x1 x2
  subst hxs hxt
  clear hx hi h hm hr' hr hk htm
  by_cases h0 : m = 0
  ·subst h0
   rw [show (decide ((0 : Nat) = 0) || (decide (t = 0) && r)) = true from rfl]
   go_enter Try.func70, Try.ntmps70
   go_wp2_with fail
   refine I.out.mono ?_
   rintro e w2 ⟨rfl, hb2⟩
   have y3 := hmc.out w2 (btrans hb1 hb2)
   have hbw2 := Lib.hid (btrans hb1 hb2)
   clear hb2 x0 x1 x2
   go_wp2
   go_ret
   exact ⟨rfl, hbw2.out⟩
  ·have h0b : ((m : Int) == 0) = false := by simp; exact h0
   rw [decide_eq_false h0, Bool.false_or]
   by_cases ht : t = 0
   ·have htb : ((t : Int) == 0) = true := by simp; exact ht
    rw [decide_eq_true ht, Bool.true_and]
    clear ht
    go_enter Try.func70, Try.ntmps70
    go_wp2_with fail
    refine I.out.mono ?_
    rintro e w2 ⟨rfl, hb2⟩
    have y3 := hmc.out w2 (btrans hb1 hb2)
    have hbw2 := Lib.hid (btrans hb1 hb2)
    have hx2 := hx'.out.below hb2
    have y0 : w2.cell? ⟨w.heap.size, 0, none⟩ = some (.int .i64 xn) := hx2.cell 0
    have y1 : w2.cell? ⟨w.heap.size, 1, none⟩ = some (.int .i64 k) := hx2.cell 1
    have y2 : w2.cell? ⟨w.heap.size, 2, none⟩ = some (.int .i64 t) := hx2.cell 2
    have O2 := Lib.hid (O.out w2 hbw2.out (by omega))
    clear hb2 x0 x1 x2 hx2
    go_wp2_with fail
    refine O2.out.mono ?_
    rintro e w3 ⟨rfl, hb3⟩
    go_wp2
    go_ret
    exact ⟨rfl, btrans hbw2.out hb3⟩
   ·have htb : ((t : Int) == 0) = false := by simp; exact ht
    rw [decide_eq_false ht, Bool.false_and]
    go_enter Try.func70, Try.ntmps70
    go_wp2_with fail
    refine I.out.mono ?_
    rintro e w2 ⟨rfl, hb2⟩
    have y3 := hmc.out w2 (btrans hb1 hb2)
    have hbw2 := Lib.hid (btrans hb1 hb2)
    have hx2 := hx'.out.below hb2
    have y2 : w2.cell? ⟨w.heap.size, 2, none⟩ = some (.int .i64 t) := hx2.cell 2
    clear hb2 x0 x1 x2 hx2
    go_wp2
    go_ret
    exact ⟨rfl, hbw2.out⟩
end Go.Proofs.Ytfcpfcgcfaacnaa
namespace Go.Proofs.Ytfcpfcgcfaacnaa
open Go.RowKit
set_option maxHeartbeats 1000000 in
theorem indexq_any (w : World) (a : Option Addr) (c : Nat) (l : List PP) (h : PpsAt w a l) (x : PP) (hl : l.length ≤ 1000000) :
  Calls Try.prog 85 #[.slice a l.length c, ppv x] w fun e w' => (∃ r : Int, e = .returned (.int .i64 r) ∧ decide (0 ≤ r) = decide (x ∈ l)) ∧ Below w.heap.size w w' := by
 obtain ⟨q, s, t⟩ := x
 have r3 : RowAt (w.alloc (.cells #[.int .i64 q, .int .i64 s, .int .i64 t] TPP)) w.heap.size TPP [.int .i64 q, .int .i64 s, .int .i64 t] := RowAt.new #[.int .i64 q, .int .i64 s, .int .i64 t] rfl
 have hb1 : Below w.heap.size w (w.alloc (.cells #[.int .i64 q, .int .i64 s, .int .i64 t] TPP)) := balloc (Below.refl _ _) _
 have h1 := h.below hb1
 replace h1 := Lib.hid h1
 clear h
 go_enter Try.func85, Try.ntmps85
 go_wp2
 obtain ⟨w1, hw1⟩ : ∃ w1, w1 = w.alloc (.cells #[.int .i64 q, .int .i64 s, .int .i64 t] TPP) := ⟨_, rfl⟩
 rw [← hw1] at r3 hb1 h1
 change Code.wp _ _ _ _ (w.alloc (.cells #[.int .i64 q, .int .i64 s, .int .i64 t] TPP))
 rw [← hw1]
 clear hw1
 have b0 : w1.cell? ⟨w.heap.size, 0, none⟩ = some (.int .i64 q) := r3.cell 0
 have b1 : w1.cell? ⟨w.heap.size, 1, none⟩ = some (.int .i64 s) := r3.cell 1
 have b2 : w1.cell? ⟨w.heap.size, 2, none⟩ = some (.int .i64 t) := r3.cell 2
 replace hb1 := Lib.hid hb1
 replace r3 := Lib.hid r3
 go_loopw [4, 8] (fun zv iv wr => ∃ k m : Nat, zv = .int .i64 0 ∧ k ≤ l.length ∧ iv = .int .i64 k ∧ wr = w1.drewN m ∧ Hid ((⟨q, s, t⟩ : PP) ∉ l.take k)) (fun _ iv _ => l.length - (intOf iv).toNat)
 case atStart => exact ⟨0, 0, rfl, Nat.zero_le _, rfl, rfl, by simp [Hid]⟩
 case round =>
  obtain ⟨k, m, rfl, hk, rfl, rfl, hn⟩ := hrel
  by_cases hlt : k < l.length
  ·obtain ⟨g, off, hab, hgl, c0, c1, c2⟩ := h1.out.at k hlt
   have hst : Hid ((⟨q, s, t⟩ : PP) ≠ l[k] → (⟨q, s, t⟩ : PP) ∉ l.take (k + 1)) := fun hne => by
    rw [List.take_add_one, List.getElem?_eq_getElem hlt, Option.toList_some, List.mem_append, not_or]
    exact ⟨hn.out, by simpa using hne⟩
   have hyes : Hid ((⟨q, s, t⟩ : PP) = l[k] → (⟨q, s, t⟩ : PP) ∈ l) := fun he => by rw [he]; exact List.getElem_mem hlt
   generalize l[k] = p at c0 c1 c2 hst hyes
   obtain ⟨x, y, z⟩ := p
   simp only at c0 c1 c2
   have hi2 : (k : Int) < (l.length : Int) := by omega
   subst hab
   clear hn
   by_cases hx : q = x
   ·subst hx
    by_cases hy : s = y
    ·subst hy
     by_cases hz : t = z
     ·subst hz
      have hm := Lib.hid (hyes.out rfl)
      clear hst hyes
      go_wp2
      go_quiet (fail)
      go_wp2
      go_ret
      exact ⟨⟨_, rfl, by rw [decide_eq_true hm.out]; simp⟩, by first | exact bdrewN hb1.out _ | (rw [World.drewN_drewN]; exact bdrewN hb1.out _)⟩
     ·have hzb : (t == z) = false := by simpa using hz
      have hst2 : Hid ((⟨q, s, t⟩ : PP) ∉ l.take (k + 1)) := hst.out (fun e => hz (by cases e; rfl))
      clear hst hyes hz
      go_wp2
      go_quiet (fail)
      go_wp2
      go_roundw
      case rel => exact ⟨k + 1, _, rfl, by omega, by go_num, by first | rfl | exact World.drewN_drewN _ _ _, hst2⟩
      case measure => simp [intOf]; omega
    ·have hyb : (s == y) = false := by simpa using hy
     have hst2 : Hid ((⟨q, s, t⟩ : PP) ∉ l.take (k + 1)) := hst.out (fun e => hy (by cases e; rfl))
     clear hst hyes hy
     go_wp2
     go_quiet (fail)
     go_wp2
     go_roundw
     case rel => exact ⟨k + 1, _, rfl, by omega, by go_num, by first | rfl | exact World.drewN_drewN _ _ _, hst2⟩
     case measure => simp [intOf]; omega
   ·have hxb : (q == x) = false := by simpa using hx
    have hst2 : Hid ((⟨q, s, t⟩ : PP) ∉ l.take (k + 1)) := hst.out (fun e => hx (by cases e; rfl))
    clear hst hyes hx
    go_wp2
    go_quiet (fail)
    go_wp2
    go_roundw
    case rel => exact ⟨k + 1, _, rfl, by omega, by go_num, by first | rfl | exact World.drewN_drewN _ _ _, hst2⟩
    case measure => simp [intOf]; omega
  ·obtain rfl : k = l.length := by omega
   rw [List.take_length] at hn
   go_wp2
   go_ret
   exact ⟨⟨_, rfl, by rw [decide_eq_false hn.out]; simp⟩, bdrewN hb1.out _⟩
theorem contq_any (w : World) (a : Option Addr) (c : Nat) (l : List PP) (h : PpsAt w a l) (x : PP) (hl : l.length ≤ 1000000) :
  Calls Try.prog 84 #[.slice a l.length c, ppv x] w fun e w' => e = .returned (.bool (decide (x ∈ l))) ∧ Below w.heap.size w w' := by
 obtain ⟨q, s, t⟩ := x
 have hb1 : Below w.heap.size w (w.alloc (.cells #[.int .i64 q, .int .i64 s, .int .i64 t] TPP)) := balloc (Below.refl _ _) _
 have I := Lib.hid (indexq_any _ a c l (h.below hb1) ⟨q, s, t⟩ hl)
 clear h hl
 generalize decide ((⟨q, s, t⟩ : PP) ∈ l) = d at I
 go_enter Try.func84, Try.ntmps84
 go_wp2_with fail
 refine I.out.mono ?_
 rintro e w1 ⟨⟨r, rfl, hr⟩, hb2⟩
 go_wp2
 go_ret
 exact ⟨rfl, btrans hb1 hb2⟩
end Go.Proofs.Ytfcpfcgcfaacnaa
namespace Go.Proofs.Ytfcpfcgcfaacnaa
open Go.RowKit
def edv : Option PR → Value
 | some e => .agg #[.int .i64 e.1, .int .i64 e.2]
 | none => .agg #[.int .i64 0, .int .i64 0]
theorem bsetN {w w1 : World} {n j : Nat} {v : Value} (h : Below w.heap.size w w1) (hn : w.heap.size ≤ n) : Below w.heap.size w (w1.setCell ⟨n, j, none⟩ v) := h.setCell (by exact hn) v
theorem nextTo_len (G : GR) (T : Int) (tt : List Int) (A : AU) (es : List PR) : (nextTo G T es tt A).length ≤ es.length * tt.length := by
 induction es using snoc_rec with
 | h0 => simp [nextTo]
 | h1 l e ih =>
  rw [nextTo_snoc]
  have := pairsP_len A (labP G e.1) e.1 T tt (nextTo G T l tt A)
  rw [List.length_append, List.length_singleton, Nat.succ_mul]
  omega
theorem edgesP_len {G : GR} {sets : List (List Bool)} {A : AU} (lt : Lt G sets A) (n : Int) : (edgesP G n).length ≤ 12 := by
 unfold edgesP
 split
 ·rename_i hin
  unfold inG at hin
  simp at hin
  have hl : n.toNat < G.edges.length := by omega
  rw [List.getD_eq_getElem?_getD, List.getElem?_eq_getElem hl]
  exact lt.r _ (List.getElem_mem hl)
 ·simp
theorem nextP_len {G : GR} {sets : List (List Bool)} {A : AU} (lt : Lt G sets A) (x : PP) : (nextP G sets A x).length ≤ 144 := by
 unfold nextP
 split
 ·rename_i hi
  obtain ⟨k, t, hxs, hxt, hk, htm⟩ := isP_range hi
  have h1 := nextTo_len G (turnP G sets A x) (nodeP A x.state).to A (edgesP G x.node)
  have h2 := edgesP_len lt x.node
  have h3 : (nodeP A x.state).to.length ≤ 12 := by rw [hxs, nodeP_at hk]; exact lt.t _ (List.getElem_mem hk)
  have h4 := Nat.mul_le_mul h2 h3
  exact Nat.le_trans h1 h4
 ·simp
set_option maxHeartbeats 4000000 in
theorem edge_any (w : World) (p : Nat) (G : GR) (sets : List (List Bool)) (A : AU) (h : PrAt w p G sets A) (lt : Lt G sets A) (x y : PP) :
  Calls Try.prog 74 #[.pointer (some ⟨p, 0, none⟩), ppv x, ppv y] w fun e w' => e = .returned (.tuple #[edv (edgeP G sets A x y), .bool (edgeP G sets A x y).isSome]) ∧ Below w.heap.size w w' := by
 have rx := RowAt.new (w := w) (T := TPP) #[.int .i64 x.node, .int .i64 x.state, .int .i64 x.turn] rfl
 have ry := RowAt.new (w := w.alloc (.cells #[.int .i64 x.node, .int .i64 x.state, .int .i64 x.turn] TPP)) (T := TPP) #[.int .i64 y.node, .int .i64 y.state, .int .i64 y.turn] rfl
 have re := RowAt.new (w := (w.alloc (.cells #[.int .i64 x.node, .int .i64 x.state, .int .i64 x.turn] TPP)).alloc (.cells #[.int .i64 y.node, .int .i64 y.state, .int .i64 y.turn] TPP)) (T := TE) #[.int .i64 0, .int .i64 0] rfl
 have rx3 := (rx.alloc (.cells #[.int .i64 y.node, .int .i64 y.state, .int .i64 y.turn] TPP)).alloc (.cells #[.int .i64 0, .int .i64 0] TE)
 have ry3 := ry.alloc (.cells #[.int .i64 0, .int .i64 0] TE)
 have hb3 := balloc (balloc (balloc (Below.refl w.heap.size w) (.cells #[.int .i64 x.node, .int .i64 x.state, .int .i64 x.turn] TPP)) (.cells #[.int .i64 y.node, .int .i64 y.state, .int .i64 y.turn] TPP)) (.cells #[.int .i64 0, .int .i64 0] TE)
 have hsz : (((w.alloc (.cells #[.int .i64 x.node, .int .i64 x.state, .int .i64 x.turn] TPP)).alloc (.cells #[.int .i64 y.node, .int .i64 y.state, .int .i64 y.turn] TPP)).alloc (.cells #[.int .i64 0, .int .i64 0] TE)).heap.size = w.heap.size + 1 + 1 + 1 := by simp
 have hz1 : (w.alloc (.cells #[.int .i64 x.node, .int .i64 x.state, .int .i64 x.turn] TPP)).heap.size = w.heap.size + 1 := by simp
 have hz2 : ((w.alloc (.cells #[.int .i64 x.node, .int .i64 x.state, .int .i64 x.turn] TPP)).alloc (.cells #[.int .i64 y.node, .int .i64 y.state, .int .i64 y.turn] TPP)).heap.size = w.heap.size + 1 + 1 := by simp
 rw [hz1] at ry3
 rw [hz2] at re
 have hP := Lib.hid (fun wr (hb : Below w.heap.size w wr) => h.below hb)
 have NX := Lib.hid (fun wr (hb : Below w.heap.size w wr) => next_any wr p G sets A (h.below hb) lt x)
 have hnl := nextP_len lt x
 have hel := edgesP_len lt x.node
 obtain ⟨R, hR⟩ : ∃ R, R = edgeP G sets A x y := ⟨_, rfl⟩
 rw [← hR]
 replace hR : Hid (R = if y ∈ nextP G sets A x then (edgesP G x.node).find? (fun e => e.1 == y.node) else none) := hR
 obtain ⟨nl, hnle⟩ : ∃ nl, nl = nextP G sets A x := ⟨_, rfl⟩
 rw [← hnle] at NX hnl hR
 obtain ⟨es, hes⟩ : ∃ es, es = edgesP G x.node := ⟨_, rfl⟩
 rw [← hes] at hel hR
 have E : ∃ f, Hid (∀ wr, Below w.heap.size w wr → wr.cell? ⟨p, 0, none⟩ = some (.iface TFp (.pointer (some ⟨f, 0, none⟩))) ∧ Calls Try.prog 102 #[.pointer (some ⟨f, 0, none⟩), .int .i64 x.node] wr (ClonedP es wr)) := by
  obtain ⟨f, ai, an, ci, cn, h⟩ := h
  refine ⟨f, fun wr hb => ?_⟩
  have := fedges_any wr f G _ _ (h.fx.below hb) (fun l hl => by have := h.ok.rows l hl; omega) x.node
  rw [← hes] at this
  exact ⟨(h.row.below hb).cell 0, this⟩
 obtain ⟨f, E⟩ := E
 have CT := Lib.hid (fun wr a c (hh : PpsAt wr a nl) => contq_any wr a c nl hh y (by omega))
 obtain ⟨d, hd⟩ : ∃ d, d = decide (y ∈ nl) := ⟨_, rfl⟩
 rw [← hd] at CT
 replace hR : Hid (R = if d = true then es.find? (fun e => e.1 == y.node) else none) := by
  show _ = _
  rw [hR.out, hd]
  by_cases hm : y ∈ nl <;> simp [hm]
 obtain ⟨xn, xs, xt⟩ := x
 obtain ⟨yn, ys, yt⟩ := y
 simp only at rx3 ry3 re hb3 NX CT E hsz hR
 obtain ⟨w3, hw3⟩ : ∃ w3, ((w.alloc (.cells #[.int .i64 xn, .int .i64 xs, .int .i64 xt] TPP)).alloc (.cells #[.int .i64 yn, .int .i64 ys, .int .i64 yt] TPP)).alloc (.cells #[.int .i64 0, .int .i64 0] TE) = w3 := ⟨_, rfl⟩
 rw [hw3] at rx3 ry3 re hb3 hsz
 replace hb3 := Lib.hid hb3
 have x0 : w3.cell? ⟨w.heap.size, 0, none⟩ = some (.int .i64 xn) := rx3.cell 0
 have x1 : w3.cell? ⟨w.heap.size, 1, none⟩ = some (.int .i64 xs) := rx3.cell 1
 have x2 : w3.cell? ⟨w.heap.size, 2, none⟩ = some (.int .i64 xt) := rx3.cell 2
 have y0 : w3.cell? ⟨w.heap.size + 1, 0, none⟩ = some (.int .i64 yn) := ry3.cell 0
 have y1 : w3.cell? ⟨w.heap.size + 1, 1, none⟩ = some (.int .i64 ys) := ry3.cell 1
 have y2 : w3.cell? ⟨w.heap.size + 1, 2, none⟩ = some (.int .i64 yt) := ry3.cell 2
 have SB : Hid (∀ w', Below w3.heap.size w3 w' → w'.cell? ⟨w.heap.size, 0, none⟩ = some (.int .i64 xn) ∧ w'.cell? ⟨w.heap.size, 1, none⟩ = some (.int .i64 xs) ∧ w'.cell? ⟨w.heap.size, 2, none⟩ = some (.int .i64 xt) ∧ w'.cell? ⟨w.heap.size + 1, 0, none⟩ = some (.int .i64 yn) ∧ w'.cell? ⟨w.heap.size + 1, 1, none⟩ = some (.int .i64 ys) ∧ w'.cell? ⟨w.heap.size + 1, 2, none⟩ = some (.int .i64 yt)) := fun w' hb => ⟨bcell hb x0, bcell hb x1, bcell hb x2, bcell hb y0, bcell hb y1, bcell hb y2⟩
 replace rx3 := Lib.hid rx3
 replace ry3 := Lib.hid ry3
 replace re := Lib.hid re
 clear rx ry hz1 hz2 hnle hes hd h lt
 go_enter Try.func74, Try.ntmps74
 go_upto_region 1 with (fail)
 clear hw3
 go_region_held3 (fun w' => w'.cell? ⟨w.heap.size, 0, none⟩ = some (.int .i64 xn) ∧ w'.cell? ⟨w.heap.size, 1, none⟩ = some (.int .i64 xs) ∧ w'.cell? ⟨w.heap.size, 2, none⟩ = some (.int .i64 xt) ∧ w'.cell? ⟨w.heap.size + 1, 0, none⟩ = some (.int .i64 yn) ∧ w'.cell? ⟨w.heap.size + 1, 1, none⟩ = some (.int .i64 ys) ∧ w'.cell? ⟨w.heap.size + 1, 2, none⟩ = some (.int .i64 yt)) (first | exact SB.out _ B2 | exact SB.out _ B1 | exact SB.out _ (Below.refl _ _).drew | exact SB.out _ (Below.refl _ _)) (first
  | (go_at_call 82; (with_reducible refine (NX.out _ hb3.out.drew).mono ?_); rintro e w4 ⟨an, cn, rfl, hO, hb4⟩; have B1 : Below w3.heap.size w3 w4 := btrans (Below.refl _ _).drew hb4; replace hO := Lib.hid (PpsAt.of_own hO))
  | (go_at_call 84; (with_reducible refine (CT.out _ _ _ hO.out).mono ?_); rintro e w5 ⟨rfl, hb5⟩; have B2 : Below w3.heap.size w3 w5 := btrans B1 hb5))
 have hb5 : Below w.heap.size w w5 := btrans hb3.out B2
 have re5 := Lib.hid (re.out.below B2)
 have rx5 := Lib.hid (rx3.out.below B2)
 have ry5 := Lib.hid (ry3.out.below B2)
 have v0 : w5.cell? ⟨w.heap.size + 1 + 1, 0, none⟩ = some (.int .i64 0) := re5.out.cell 0
 have v1 : w5.cell? ⟨w.heap.size + 1 + 1, 1, none⟩ = some (.int .i64 0) := re5.out.cell 1
 have g0 : w5.frozen? ⟨w.heap.size + 1 + 1, 0, none⟩ = false := re5.out.free 0
 have g1 : w5.frozen? ⟨w.heap.size + 1 + 1, 1, none⟩ = false := re5.out.free 1
 have hz5 : w.heap.size + 1 + 1 + 1 ≤ w5.heap.size := by have := B2.size; omega
 replace hb5 := Lib.hid hb5
 clear SB B1 B2 hO hb4 NX CT x0 x1 x2 y0 y1 y2 rx3 ry3 re hb3 hsz
 cases d with
 | false =>
  have hR2 : Hid (R = none) := by show _ = _; rw [hR.out]; rfl
  clear hR
  go_wp2
  have rE := Lib.hid ((re5.out.set 0 (.int .i64 0)).set 1 (.int .i64 0))
  have f0 := rE.out.cell 0
  have f1 := rE.out.cell 1
  refine bodyPost_ret (v := .tuple #[.agg #[.int .i64 0, .int .i64 0], .bool false]) (by simp [results, Try.results74, go_sem, f0, f1]) rfl ⟨by rw [hR2.out]; rfl, bsetN (bsetN hb5.out (by omega)) (by omega)⟩
 | true =>
  have hR2 : Hid (R = es.find? (fun e => e.1 == yn)) := by show _ = _; rw [hR.out]; rfl
  clear hR
  have c0 := (E.out _ hb5.out).1
  have x0 : w5.cell? ⟨w.heap.size, 0, none⟩ = some (.int .i64 xn) := rx5.out.cell 0
  have hM := meth_Edges
  have SB : Hid (∀ w', Below w5.heap.size w5 w' → w'.cell? ⟨p, 0, none⟩ = some (.iface TFp (.pointer (some ⟨f, 0, none⟩))) ∧ w'.cell? ⟨w.heap.size, 0, none⟩ = some (.int .i64 xn)) := fun w' hb => ⟨bcell hb c0, bcell hb x0⟩
  go_wp2
  go_region_held3 (fun w' => w'.cell? ⟨p, 0, none⟩ = some (.iface TFp (.pointer (some ⟨f, 0, none⟩))) ∧ w'.cell? ⟨w.heap.size, 0, none⟩ = some (.int .i64 xn)) (first | exact SB.out _ B3 | exact SB.out _ (Below.refl _ _).drew | exact SB.out _ (Below.refl _ _)) (first
   | (go_at_call 102; (with_reducible refine (E.out _ hb5.out.drew).2.mono ?_); rintro e w6 ⟨a0, k0, rfl, hO, hb6⟩; have B3 : Below w5.heap.size w5 w6 := btrans (Below.refl _ _).drew hb6; replace hO := Lib.hid (PairsAt.of_own hO)))
  have re6 := Lib.hid (re5.out.below B3)
  have ry6 := Lib.hid (ry5.out.below B3)
  have hb6' := Lib.hid (btrans hb5.out B3)
  have hz6 : w.heap.size + 1 + 1 + 1 ≤ w6.heap.size := by have := B3.size; omega
  clear v0 v1 g0 g1 c0 x0 hM SB B3 re5 rx5 ry5 hz5 hb6 hb5 E
  go_wp2
  go_loopw [7, 25] (fun bv iv wr => ∃ k : Nat, bv = .bool false ∧ k ≤ es.length ∧ iv = .int .i64 k ∧ Below w6.heap.size w6 wr ∧ Hid ((es.take k).find? (fun e => e.1 == yn) = none)) (fun _ iv _ => es.length - (intOf iv).toNat)
  case atStart => exact ⟨0, rfl, Nat.zero_le _, rfl, Below.refl _ _, rfl⟩
  case round =>
   obtain ⟨k, rfl, hk, rfl, hbr, hn⟩ := hrel
   by_cases hlt : k < es.length
   ·obtain ⟨g, off, ha0, hgl, e0, e1⟩ := (hO.out.below hbr).at k hlt
    have hst : Hid (∀ o, (if es[k].1 == yn then some es[k] else none) = o → (es.take (k + 1)).find? (fun e => e.1 == yn) = o) := fun o ho => by
     rw [List.take_add_one, List.getElem?_eq_getElem hlt, Option.toList_some, List.find?_append, hn.out, ← ho]
     simp only [Option.none_or, List.find?_cons, List.find?_nil]
     cases es[k].1 == yn <;> rfl
    have hfin : Hid (es[k].1 = yn → R = some es[k]) := fun he => by
     rw [hR2.out]
     have h1 := hst.out _ rfl
     rw [he, if_pos (by simp)] at h1
     calc es.find? (fun e => e.1 == yn) = (es.take (k + 1) ++ es.drop (k + 1)).find? (fun e => e.1 == yn) := by rw [List.take_append_drop]
      _ = some es[k] := by rw [List.find?_append, h1]; rfl
    obtain ⟨ev, hev⟩ : ∃ ev, ev = es[k] := ⟨_, rfl⟩
    rw [← hev] at e0 e1 hst hfin
    obtain ⟨u, v⟩ := ev
    simp only at e0 e1 hst hfin
    have hbe := balloc (Below.refl wr.heap.size wr) (.cells #[.int .i64 u, .int .i64 v] TE)
    have y0 : wr.cell? ⟨w.heap.size + 1, 0, none⟩ = some (.int .i64 yn) := (ry6.out.below hbr).cell 0
    have r6 := re6.out.below hbr
    have v0 : wr.cell? ⟨w.heap.size + 1 + 1, 0, none⟩ = some (.int .i64 0) := r6.cell 0
    have v1 : wr.cell? ⟨w.heap.size + 1 + 1, 1, none⟩ = some (.int .i64 0) := r6.cell 1
    have g0 : wr.frozen? ⟨w.heap.size + 1 + 1, 0, none⟩ = false := r6.free 0
    have g1 : wr.frozen? ⟨w.heap.size + 1 + 1, 1, none⟩ = false := r6.free 1
    have hlt2 : (k : Int) < (es.length : Int) := by omega
    have hzr := hbr.size
    have r7 := Lib.hid (r6.alloc (.cells #[.int .i64 u, .int .i64 v] TE))
    have y0' : (wr.alloc (.cells #[.int .i64 u, .int .i64 v] TE)).cell? ⟨w.heap.size + 1, 0, none⟩ = some (.int .i64 yn) := bcell hbe y0
    have v0' : (wr.alloc (.cells #[.int .i64 u, .int .i64 v] TE)).cell? ⟨w.heap.size + 1 + 1, 0, none⟩ = some (.int .i64 0) := r7.out.cell 0
    have v1' : (wr.alloc (.cells #[.int .i64 u, .int .i64 v] TE)).cell? ⟨w.heap.size + 1 + 1, 1, none⟩ = some (.int .i64 0) := r7.out.cell 1
    have g0' : (wr.alloc (.cells #[.int .i64 u, .int .i64 v] TE)).frozen? ⟨w.heap.size + 1 + 1, 0, none⟩ = false := r7.out.free 0
    have g1' : (wr.alloc (.cells #[.int .i64 u, .int .i64 v] TE)).frozen? ⟨w.heap.size + 1 + 1, 1, none⟩ = false := r7.out.free 1
    subst ha0
    replace hbr := Lib.hid hbr
    replace hbe := Lib.hid hbe
    clear hev hn r6
    by_cases huv : u = yn
    ·have hub : (u == yn) = true := by simpa using huv
     have hr := Lib.hid (hfin.out huv)
     clear hst hfin huv
     go_wp2
     have rE := Lib.hid ((r7.out.set 0 (.int .i64 u)).set 1 (.int .i64 v))
     have f0 := rE.out.cell 0
     have f1 := rE.out.cell 1
     refine bodyPost_ret (v := .tuple #[.agg #[.int .i64 u, .int .i64 v], .bool true]) (by simp [results, Try.results74, go_sem, f0, f1]) rfl ⟨by rw [hr.out]; rfl, bsetN (bsetN (btrans hb6'.out (btrans hbr.out hbe.out)) (by omega)) (by omega)⟩
    ·have hub : (u == yn) = false := by simpa using huv
     have hs2 : Hid ((es.take (k + 1)).find? (fun e => e.1 == yn) = none) := hst.out _ (by rw [hub]; rfl)
     clear hst hfin huv
     go_wp2
     go_roundw
     case rel => exact ⟨k + 1, rfl, by omega, by go_num, btrans hbr.out hbe.out, hs2⟩
     case measure => simp [intOf]; omega
   ·have hke : k = es.length := by omega
    subst hke
    rw [List.take_length] at hn
    have r6 := re6.out.below hbr
    have v0 : wr.cell? ⟨w.heap.size + 1 + 1, 0, none⟩ = some (.int .i64 0) := r6.cell 0
    have v1 : wr.cell? ⟨w.heap.size + 1 + 1, 1, none⟩ = some (.int .i64 0) := r6.cell 1
    have g0 : wr.frozen? ⟨w.heap.size + 1 + 1, 0, none⟩ = false := r6.free 0
    have g1 : wr.frozen? ⟨w.heap.size + 1 + 1, 1, none⟩ = false := r6.free 1
    replace r6 := Lib.hid r6
    have hR3 : Hid (R = none) := hR2.out.trans hn.out
    replace hbr := Lib.hid hbr
    clear hn hR2
    go_wp2
    have rE := Lib.hid ((r6.out.set 0 (.int .i64 0)).set 1 (.int .i64 0))
    have f0 := rE.out.cell 0
    have f1 := rE.out.cell 1
    refine bodyPost_ret (v := .tuple #[.agg #[.int .i64 0, .int .i64 0], .bool false]) (by simp [results, Try.results74, go_sem, f0, f1]) rfl ⟨by rw [hR3.out]; rfl, bsetN (bsetN (btrans hb6'.out hbr.out) (by omega)) (by omega)⟩
end Go.Proofs.Ytfcpfcgcfaacnaa
