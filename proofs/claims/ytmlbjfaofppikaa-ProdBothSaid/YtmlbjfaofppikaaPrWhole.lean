/- The program's Whole. Conditions: a small graph, and the bounds of an argument. The program's Whole, of whatever source. Conditions: a small graph, and the bounds of an argument. -/
import Derived.Test.YtmlbjfaofppikaaPrWholeP
import Derived.BigRegion
import Derived.Deep.CutBlock
import Derived.Deep.DeepCutAuto
import Derived.Deep.RegionHeld3
namespace Go.Proofs.Ytmlbjfaofppikaa
open Go.RowKit

/-- a graph, pairs, truths and an error, as a call gives them -/
def Whole4 (err : Int) (init : List Int) (s : WR) (w : World) (e : Ending) (w' : World) : Prop :=
  ∃ ia ic ea ec la lc qa qc ba bc, e = .returned (.tuple #[.agg #[.slice ia init.length ic, .slice ea s.es.length ec, .slice la s.labs.length lc], .slice qa s.l.length qc, .slice ba s.ins.length bc, .int .i64 err]) ∧
    (∀ w2, Keeps w' w2 (fun j => j < w.heap.size) → NumsAt .i64 w2 ia init ∧ EdgesAt w2 ea s.es ∧ NumsAt .u64 w2 la (natI s.labs) ∧ PpsAt w2 qa s.l ∧ TruthsAt w2 ba s.ins) ∧ Below w.heap.size w w'
theorem whole_err (e0 : Int) {w w' : World} (hb : Below w.heap.size w w') : Whole4 e0 [] ⟨[], [], [], []⟩ w (.returned (.tuple #[.agg #[.slice none 0 0, .slice none 0 0, .slice none 0 0], .slice none 0 0, .slice none 0 0, .int .i64 e0])) w' :=
  ⟨none, 0, none, 0, none, 0, none, 0, none, 0, rfl, fun w2 _ => ⟨NumsAt.nil _ _ _, EdgesAt.nil _ _, NumsAt.nil _ _ _, fun h => by simp at h, fun h => by simp at h⟩, hb⟩
theorem TruthsAt.of_own {w : World} {base c : Nat} {a : Option Addr} {l : List Bool} (h : OwnR w base TyB 1 a l.length c (bcells l)) : TruthsAt w a l := fun h0 => by
  obtain ⟨g, rfl, _, _⟩ := OwnR.addr h h0
  refine ⟨g, 0, rfl, fun i hi => ?_⟩
  rw [Nat.zero_add, OwnR.cell h i (by omega)]
  simp [bcells, hi]
/-- what the parts read as, whatever is stored outside of them -/
theorem WSt.reads {W : World} {tq : TypeId} {gB mb lo hi : Nat} {Wz : World} {M : Option Obj → Prop} {vi ve vl : Value} {X : WX} {C : WC} {w w' : World} (h : WSt W tq gB mb lo hi Wz M vi ve vl X C w) (hk : Keeps w w' (fun j => j < W.heap.size)) :
    NumsAt .i64 w' X.ia C.init ∧ EdgesAt w' X.ea (rowsOf C.S) ∧ NumsAt .u64 w' X.la (natI C.labs) ∧ PpsAt w' X.qa C.l ∧ TruthsAt w' X.ba C.ins := by
  refine ⟨NumsAt.of_owns (h.i.keeps hk (fun j hj e => by have := (h.i.lt2 hj).1; omega)), EsOwn.edges (h.e.keeps hk (fun j hj e => by have := (h.e.blk hj).1; omega)), NumsAt.of_owns (h.l.keeps hk (fun j hj e => by have := (h.l.lt2 hj).1; omega)), PpsAt.of_own (OwnR.keeps h.q hk (fun j hj e => by have := (OwnR.lt h.q hj).1; omega)), TruthsAt.of_own (OwnR.keeps h.b hk (fun j hj e => by have := (OwnR.lt h.b hj).1; omega))⟩
theorem edv_act (E : Option PR) : ∃ u v : Int, edv E = .agg #[.int .i64 u, .int .i64 v] ∧ actP E = v := by
  cases E with
  | none => exact ⟨0, 0, rfl, rfl⟩
  | some e => exact ⟨e.1, e.2, rfl, rfl⟩
theorem infoB : (Try.prog.info? TyB).map (fun i => (i.zero, i.size, i.bytes)) = some (some (.bool false), 1, 1) := by kernel_rfl
theorem natI_snoc (l : List Nat) (n : Nat) : (natI (l ++ [n])).map (Value.int .u64) = (natI l).map (Value.int .u64) ++ [.int .u64 n] := by simp [natI]
abbrev gz : List Value := [.slice none 0 0, .slice none 0 0, .slice none 0 0]
abbrev TM : Nat := 96
set_option maxRecDepth 20000 in
set_option maxHeartbeats 16000000 in
theorem whole_yes (w : World) (ai an : Option Addr) (ci cn f : Nat) (G : GR) (sets : List (List Bool)) (A : AU) (m : Int) (hF : FxAt w f G (inbits G.edges.length sets) sets.length) (hs : srcB G sets = true) (ok : GOk G) (hA : AuAt w ai A.init.length an A.nodes.length A) (aok : AuOk A) (lt : Lt G sets A) (hc : chk A = 0) (hm : 0 ≤ m)
    (res : Option WR) (hres : res = wholeL G sets A (most' m) 65540 0 ⟨firstP G A, [], [], []⟩) :
    Calls Try.prog 23 #[.iface TFp (.pointer (some ⟨f, 0, none⟩)), .agg #[.int .i64 A.sets, .slice ai A.init.length ci, .slice an A.nodes.length cn], .int .i64 m] w fun e w' => (res = none ∧ Whole4 11 [] ⟨[], [], [], []⟩ w e w') ∨ (∃ s, res = some s ∧ Whole4 0 (upTo (firstP G A).length) s w e w') := by
  obtain ⟨w2, hw2⟩ : ∃ w2, w2 = (w.alloc (.cells #[.int .i64 A.sets, .slice ai A.init.length ci, .slice an A.nodes.length cn] TA)).alloc (.cells #[.slice none 0 0, .slice none 0 0, .slice none 0 0] TG) := ⟨_, rfl⟩
  have hb2 : Below w.heap.size w w2 := by rw [hw2]; exact balloc (balloc (Below.refl _ _) _) _
  have ra : RowAt w2 w.heap.size TA [.int .i64 A.sets, .slice ai A.init.length ci, .slice an A.nodes.length cn] := by rw [hw2]; exact (RowAt.new #[_, _, _] rfl).alloc _
  have rr : RowAt w2 (w.heap.size + 1) TG gz := by rw [hw2]; exact RowAt.new #[_, _, _] (by simp)
  have hn : newB G sets A = true := by unfold newB; rw [hs, decide_eq_true hc]; rfl
  have NW : Hid (Calls Try.prog 13 #[.iface TFp (.pointer (some ⟨f, 0, none⟩)), .agg #[.int .i64 A.sets, .slice ai A.init.length ci, .slice an A.nodes.length cn]] w2 (NewMade G sets A w2)) := new_any w2 ai an ci cn f G sets A (hF.below hb2) hs ok (hA.below hb2) aok
  have hgk := (src_sets hs).1
  have s16 := (src_sets hs).2.1
  have a0 : w2.cell? ⟨w.heap.size, 0, none⟩ = some (.int .i64 A.sets) := ra.cell 0
  have a1 : w2.cell? ⟨w.heap.size, 1, none⟩ = some (.slice ai A.init.length ci) := ra.cell 1
  have a2 : w2.cell? ⟨w.heap.size, 2, none⟩ = some (.slice an A.nodes.length cn) := ra.cell 2
  obtain ⟨L1, hL1⟩ : ∃ l, l = firstP G A := ⟨_, rfl⟩
  obtain ⟨n1, hn1⟩ : ∃ n, n = L1.length := ⟨_, rfl⟩
  have l1b : n1 ≤ 96 := by rw [hn1, hL1]; exact firstP_len lt
  have l1v : Hid (∀ x ∈ L1, vPP G sets A x) := by rw [hL1]; exact first_valid hgk hc
  have l1n : Hid L1.Nodup := by rw [hL1]; exact first_nodup G A
  have okv : Hid (∀ x, vPP G sets A x → okPP x) := fun x hx => okPP_of lt hc s16 hx
  have FI : Hid (∀ w p, PrAt w p G sets A → Calls Try.prog 14 #[.pointer (some ⟨p, 0, none⟩)] w fun e w' => ∃ a c, e = .returned (.slice a n1 c) ∧ OwnQ w' w.heap.size TPP a c L1 ∧ Below w.heap.size w w') := fun w p hp => by
    have := first_any w p G sets A hp lt
    rw [← hL1] at this
    rw [hn1]
    exact this
  have hmm := @run_makeMap Try.prog
  have hm0 : decide (m < 0) = false := by simp; omega
  replace hgk := Lib.hid hgk
  replace lt := Lib.hid lt
  replace hc := Lib.hid hc
  replace hb2 := Lib.hid hb2
  replace rr := Lib.hid rr
  have HW := Lib.hid hw2
  replace hn := Lib.hid hn
  rw [← hL1] at hres ⊢
  replace hres := Lib.hid hres
  rw [← hn1]
  replace hL1 := Lib.hid hL1
  replace hn1 := Lib.hid hn1
  clear hF hs ok hA aok hw2 ra s16
  go_enter Try.func23, Try.ntmps23
  go_wp2_with fail
  rw [← HW.out]
  clear HW
  refine NW.out.mono ?_
  rintro e w3 ⟨hb3, h3⟩
  replace h3 := Lib.hid h3
  obtain ⟨p, rfl, hp⟩ : ∃ p, e = .returned (.pointer (some ⟨p, 0, none⟩)) ∧ Hid (PrAt w3 p G sets A) := by
    rcases h3.out with ⟨_, p, h1, h2⟩ | ⟨h1, _⟩
    · exact ⟨p, h1, h2⟩
    · rw [hn.out] at h1; cases h1
  have hbw3 := Lib.hid (btrans hb2.out hb3)
  have rr3 := Lib.hid (rr.out.below hb3)
  clear h3 a0 a1 a2 NW hb3 rr
  have st0 : Hid (WSt w3 TPP w3.heap.size (w3.heap.size + 1) 0 0 w3 (NM (w3.heap.size + 1) []) (.slice none 0 0) (.slice none 0 0) (.slice none 0 0) ⟨none, 0, none, 0, none, 0, none, 0, none, 0, none, 0⟩ ⟨[], [], [], [], [], []⟩ ((w3.alloc (.cells #[.slice none 0 0, .slice none 0 0, .slice none 0 0] TG)).alloc (.map #[] 0))) := by
    refine WSt.start (balloc (balloc (Below.refl _ _) _) _) ((RowAt.new #[_, _, _] rfl).alloc _) ?_ (by simp) (Nat.le_refl _) (by omega) (by omega)
    have h1 := (NMap.made (w3.alloc (.cells #[.slice none 0 0, .slice none 0 0, .slice none 0 0] TG))).nm
    simpa using h1
  go_wp2_with fail
  generalize ((w3.alloc (.cells #[.slice none 0 0, .slice none 0 0, .slice none 0 0] TG)).alloc (.map #[] 0)) = w4 at st0 ⊢
  refine (FI.out w4 p (hp.out.below st0.out.bel)).mono ?_
  rintro e w5 ⟨a1, c1, rfl, hq1, hb5⟩
  have st1 := Lib.hid (st0.out.snap hb5)
  have hP1 := Lib.hid (PpsAt.of_own hq1)
  have hA1 : Hid (∀ ad, a1 = some ad → w4.heap.size ≤ ad.block ∧ ad.block < w5.heap.size) := fun ad had => OwnR.lt hq1 (j := ad.block) (by rw [had]; rfl)
  obtain ⟨lo, hlo⟩ : ∃ x, x = w4.heap.size := ⟨_, rfl⟩
  obtain ⟨hi, hhi⟩ : ∃ x, x = w5.heap.size := ⟨_, rfl⟩
  rw [← hlo, ← hhi] at st1 hA1
  have gx : w5.cell? ⟨w3.heap.size, 0, none⟩ = some (.slice none 0 0) := st1.out.g.cell 0
  clear hq1 hb5 st0 FI hlo hhi gx
  go_wp2
  go_loopw [12, 37] (fun qv jv wr => ∃ (j : Nat) (ia : Option Addr) (ic : Nat) (qa : Option Addr) (qc : Nat), j ≤ n1 ∧ jv = .int .i64 j ∧ qv = .slice qa j qc ∧ Hid (WSt w3 TPP w3.heap.size (w3.heap.size + 1) lo hi w5 (NM (w3.heap.size + 1) (L1.take j)) (.slice ia j ic) (.slice none 0 0) (.slice none 0 0) ⟨ia, ic, none, 0, none, 0, qa, qc, none, 0, none, 0⟩ ⟨upTo j, [], [], L1.take j, [], []⟩ wr)) (fun _ jv _ => n1 - (intOf jv).toNat)
  case atStart => exact ⟨0, none, 0, none, 0, Nat.zero_le _, rfl, rfl, st1.out⟩
  case round =>
    obtain ⟨j, ia, ic, qa, qc, hj, rfl, rfl, st⟩ := hrel
    clear st1
    by_cases hjl : j < n1
    · have hj2 : (j : Int) < (n1 : Int) := by omega
      have hjL : j < L1.length := by have := hn1.out; omega
      obtain ⟨b, off, rfl, hbl, x0, x1, x2⟩ := (st.out.pps hP1.out hA1.out).at j hjL
      have hxv := okv.out _ (l1v.out _ (List.getElem_mem hjL))
      have hnq := numQ_take l1n.out hjL
      have e2 : (L1.take j).length = j := by rw [List.length_take]; omega
      have e3 : (L1.take (j + 1)).length = j + 1 := by rw [List.length_take]; omega
      generalize L1[j] = x at x0 x1 x2 hxv hnq
      obtain ⟨xn, xs, xt⟩ := x
      simp only at x0 x1 x2
      obtain ⟨wA, hwA⟩ : ∃ wA, wA = wr.alloc (.cells #[.int .i64 xn, .int .i64 xs, .int .i64 xt] TPP) := ⟨_, rfl⟩
      have hbA : Below wr.heap.size wr wA := by rw [hwA]; exact balloc (Below.refl _ _) _
      have stA := st.out.below hbA
      have NQ := number_at wA w3.heap.size (w3.heap.size + 1) qa qc _ stA.q stA.m.at stA.qne stA.bel.size ⟨xn, xs, xt⟩ hxv (by rw [e2]; omega) _ _ j (j + 1) hnq e2 e3
      have HA := Lib.hid hwA
      replace NQ := Lib.hid NQ
      replace stA := Lib.hid stA
      replace hxv := Lib.hid hxv
      replace hnq := Lib.hid hnq
      replace e2 := Lib.hid e2
      replace e3 := Lib.hid e3
      clear hwA hbA st
      go_wp2_with fail
      rw [← HA.out]
      clear HA x0 x1 x2
      refine NQ.out.mono ?_
      rintro e w6 ⟨qa', qc', rfl, hq6, hm6, hk6, hf6⟩
      have st6 := stA.out.toQ (l' := L1.take (j + 1)) (by rw [e2.out]; exact hk6) hq6 (by rw [e2.out, e3.out]; exact hf6) hm6.nm
      have g0 : w6.cell? ⟨w3.heap.size, 0, none⟩ = some (.slice ia j ic) := st6.g.cell 0
      replace st6 := Lib.hid st6
      clear hq6 hm6 hk6 hf6 NQ stA
      have hAl : Hid (Below w6.heap.size w6 (w6.alloc (.cells #[.int .i64 j] TyI))) := balloc (Below.refl _ _) _
      have hz6 : Hid ((w6.alloc (.cells #[.int .i64 j] TyI)).heap.size = w6.heap.size + 1) := by show _ = _; simp
      have OW : Hid (OwnR (w6.alloc (.cells #[.int .i64 j] TyI)) w3.heap.size TyI 1 ia j ic ((upTo j).map (.int .i64))) := by
        have h1 := (st6.out.below hAl.out).i
        simp only [upTo_len] at h1
        exact h1
      have nc : Hid (∀ k u, [Value.int .i64 j][k]? = some u → (w6.alloc (.cells #[.int .i64 j] TyI)).cell? ((⟨w6.heap.size, 0, none⟩ : Addr).add k) = some u) := new_cells w6 #[.int .i64 j] TyI rfl
      have oc : Hid (∀ u ∈ [Value.int .i64 j], u.oneCell' = true) := fun u hu => by simp at hu; rw [hu]; rfl
      have n5 : Hid (j + 1 ≤ maxLen) := by show _ ≤ _; unfold maxLen; omega
      have y5 : Hid ((j + 1) * 8 ≤ 140737488355328) := by show _ ≤ _; omega
      have hBA : Hid (w3.heap.size ≤ (w6.alloc (.cells #[.int .i64 j] TyI)).heap.size) := Nat.le_trans st6.out.bel.size hAl.out.size
      go_wp2_with (at_builtin; refine wp_appR rfl _ _ 22 TyI (.int .i64 0) 1 8 rfl Try.underlying22 infoI rfl (by decide) w3.heap.size ia j ic ((upTo j).map (.int .i64)) rfl OW.out w6.heap.size 1 [.int .i64 j] rfl rfl nc.out oc.out n5.out y5.out hBA.out ?_)
      intro ia' ic' w7 ho7 hg7 hat7
      have st7 := WSt.toI (ia' := ia') (ic' := ic') (xs := upTo (j + 1)) st6.out hAl.out (by rw [upTo_len]; exact hg7) (by
        rw [upTo_len, upTo_succ]
        show OwnR _ _ _ _ _ _ _ _
        rw [List.map_append]
        exact ho7) (by rw [upTo_len, upTo_len]; exact fresh_of hAl.out (by rw [hz6.out]; exact hat7))
      have k0 : w7.cell? ⟨w3.heap.size, 0, none⟩ = some (.slice ia j ic) := st7.g.cell 0
      have f0 : w7.frozen? ⟨w3.heap.size, 0, none⟩ = false := st7.g.free 0
      have st8 := Lib.hid (st7.g0 (.slice ia' (j + 1) ic'))
      clear st7 ho7 hg7 hat7 hAl OW nc oc n5 y5 hBA st6 g0 hxv hnq e2 e3
      go_wp2
      go_roundw
      case rel => exact ⟨j + 1, ia', ic', qa', qc', by omega, by go_num, rfl, st8.out⟩
      case measure => simp [intOf]; omega
    · obtain rfl : j = n1 := by omega
      have st1 : Hid (WSt w3 TPP w3.heap.size (w3.heap.size + 1) 0 0 w3 (NM (w3.heap.size + 1) L1) (.slice ia j ic) (.slice none 0 0) (.slice none 0 0) ⟨ia, ic, none, 0, none, 0, qa, qc, none, 0, none, 0⟩ ⟨upTo j, [], [], L1, [], []⟩ wr) := by
        have h1 := st.out.forget
        rw [List.take_of_length_le (by have := hn1.out; omega)] at h1
        exact h1
      clear st hP1 hA1
      go_wp2
      go_loopw [7, 8, 9, 12, 13, 18] (fun av bv cv qv dv iv wr => ∃ (i nl : Nat) (ea : Option Addr) (ec : Nat) (la : Option Addr) (lc : Nat) (qa : Option Addr) (qc : Nat) (ba : Option Addr) (bc : Nat) (S : List ER) (labs : List Nat) (l : List PP) (ins : List Bool),
        av = .slice none 0 0 ∧ bv = .slice none 0 0 ∧ cv = .int .i64 0 ∧ qv = .slice qa nl qc ∧ dv = .slice ba i bc ∧ iv = .int .i64 i ∧ i ≤ nl ∧ i ≤ 65536 ∧ (nl : Int) ≤ 65700 ∧ Hid (S.length = i ∧ labs.length = i ∧ ins.length = i ∧ l.length = nl) ∧ Hid (∀ x ∈ l, vPP G sets A x) ∧ Hid (wholeL G sets A (most' m) (65540 - i) i ⟨l, rowsOf S, labs, ins⟩ = res) ∧
        Hid (WSt w3 TPP w3.heap.size (w3.heap.size + 1) 0 0 w3 (NM (w3.heap.size + 1) l) (.slice ia j ic) (.slice ea i ec) (.slice la i lc) ⟨ia, ic, ea, ec, la, lc, qa, qc, ba, bc, none, 0⟩ ⟨upTo j, S, labs, l, ins, []⟩ wr)) (fun _ _ _ _ _ iv _ => 65540 - (intOf iv).toNat)
      case atStart => exact ⟨0, j, none, 0, none, 0, qa, qc, none, 0, [], [], L1, [], rfl, rfl, rfl, rfl, rfl, rfl, Nat.zero_le _, Nat.zero_le _, by omega, ⟨rfl, rfl, rfl, hn1.out.symm⟩, l1v.out, hres.out.symm, st1.out⟩
      case round =>
        obtain ⟨i, nl, ea, ec, la, lc, qa, qc, ba, bc, S, labs, l, ins, rfl, rfl, rfl, rfl, rfl, rfl, hil, hi6, hnl, hlen, hlv, hwl, st⟩ := hrel
        clear st1 hres
        by_cases hlt : i < nl
        · have hi2 : (i : Int) < (nl : Int) := by omega
          have hll : i < l.length := by have := hlen.out.2.2.2; omega
          have hf1 : 65540 - i = (65539 - i) + 1 := by omega
          by_cases hbig : most' m < (nl : Int)
          · have hr : Hid (res = none) := by
              show _ = _
              rw [← hwl.out, hf1]
              exact wholeL_more hll (by show most' m < ((l.length : Nat) : Int); rw [hlen.out.2.2.2]; exact hbig)
            have hbr := st.out.bel
            have rr4 := Lib.hid (rr3.out.below hbr)
            have c0 : wr.cell? ⟨w.heap.size + 1, 0, none⟩ = some (.slice none 0 0) := rr4.out.cell 0
            have c1 : wr.cell? ⟨w.heap.size + 1, 1, none⟩ = some (.slice none 0 0) := rr4.out.cell 1
            have c2 : wr.cell? ⟨w.heap.size + 1, 2, none⟩ = some (.slice none 0 0) := rr4.out.cell 2
            have f0 := rr4.out.free 0
            have f1 := rr4.out.free 1
            have f2 := rr4.out.free 2
            have hbz := Lib.hid (btrans hbw3.out hbr)
            clear hbr st hwl hlv hf1
            by_cases hmn : m < (nl : Int)
            · have hmd : decide (m < (nl : Int)) = true := by simpa using hmn
              clear hbig
              go_wp2
              refine bodyPost_ret (v := .tuple #[.agg #[.slice none 0 0, .slice none 0 0, .slice none 0 0], .slice none 0 0, .slice none 0 0, .int .i64 11]) (by simp [results, Try.results23, go_sem, c0, c1, c2]) rfl (.inl ⟨hr.out, whole_err 11 ?_⟩)
              exact bsetN (bsetN (bsetN hbz.out (by omega)) (by omega)) (by omega)
            · have hmd : decide (m < (nl : Int)) = false := by simpa using hmn
              have hmb : 65536 < (nl : Int) := by
                unfold most' at hbig
                split at hbig <;> omega
              clear hbig hmn
              go_wp2
              refine bodyPost_ret (v := .tuple #[.agg #[.slice none 0 0, .slice none 0 0, .slice none 0 0], .slice none 0 0, .slice none 0 0, .int .i64 11]) (by simp [results, Try.results23, go_sem, c0, c1, c2]) rfl (.inl ⟨hr.out, whole_err 11 ?_⟩)
              exact bsetN (bsetN (bsetN hbz.out (by omega)) (by omega)) (by omega)
          · have hmd : decide (m < (nl : Int)) = false := by
              unfold most' at hbig
              split at hbig <;> simp <;> omega
            have hnd : decide (65536 < (nl : Int)) = false := by
              unfold most' at hbig
              split at hbig <;> simp <;> omega
            have hn6 : nl ≤ 65536 := by
              have h := hnd
              simp at h
              omega
            have hwl2 : Hid (wholeL G sets A (most' m) (65539 - i) (i + 1) (stepW G sets A l[i] ⟨l, rowsOf S, labs, ins⟩) = res) := by
              show _ = _
              rw [← hwl.out, hf1]
              exact (wholeL_step (s := ⟨l, rowsOf S, labs, ins⟩) hll (by show ¬ most' m < ((l.length : Nat) : Int); rw [hlen.out.2.2.2]; exact hbig)).symm
            clear hbig hwl hf1
            obtain ⟨x, hx⟩ : ∃ x, x = l[i] := ⟨_, rfl⟩
            rw [← hx] at hwl2
            obtain ⟨ys, hys⟩ : ∃ ys, ys = nextP G sets A x := ⟨_, rfl⟩
            obtain ⟨ny, hny⟩ : ∃ n, n = ys.length := ⟨_, rfl⟩
            have hyb : ny ≤ 144 := by rw [hny, hys]; exact nextP_len lt.out x
            have hyv : Hid (∀ y ∈ ys, vPP G sets A y) := by rw [hys]; exact next_valid hgk.out hc.out x
            obtain ⟨g, hqa, hgw, hgl, x0, x1, x2⟩ := st.out.q.at i hll
            simp only at hqa x0 x1 x2
            subst hqa
            rw [← hx] at x0 x1 x2
            obtain ⟨xn, xs, xt⟩ := x
            simp only at x0 x1 x2
            have NX : Hid (∀ w, Below w3.heap.size w3 w → Calls Try.prog 15 #[.pointer (some ⟨p, 0, none⟩), .agg #[.int .i64 xn, .int .i64 xs, .int .i64 xt]] w fun e w' => ∃ a c, e = .returned (.slice a ny c) ∧ OwnQ w' w.heap.size TPP a c ys ∧ Below w.heap.size w w') := fun w hb => by
              have := next_any w p G sets A (hp.out.below hb) lt.out ⟨xn, xs, xt⟩
              rw [← hys] at this
              rw [hny]
              exact this
            replace hx := Lib.hid hx
            replace hys := Lib.hid hys
            replace hny := Lib.hid hny
            go_wp2_with fail
            refine (NX.out wr st.out.bel).mono ?_
            rintro e w10 ⟨a2, c2, rfl, hq10, hb10⟩
            have st10 := Lib.hid (st.out.snap hb10)
            have hP2 := Lib.hid (PpsAt.of_own hq10)
            have hA2 : Hid (∀ ad, a2 = some ad → wr.heap.size ≤ ad.block ∧ ad.block < w10.heap.size) := fun ad had => OwnR.lt hq10 (j := ad.block) (by rw [had]; rfl)
            obtain ⟨lo2, hlo2⟩ : ∃ x, x = wr.heap.size := ⟨_, rfl⟩
            obtain ⟨hi2_, hhi2⟩ : ∃ x, x = w10.heap.size := ⟨_, rfl⟩
            rw [← hlo2, ← hhi2] at st10 hA2
            clear hq10 hb10 st hlo2 hhi2 x0 x1 x2 hmd hnd NX
            go_wp2
            go_loopw [12, 19, 78] (fun qv rv kv wr => ∃ (k n2 : Nat) (qa : Option Addr) (qc : Nat) (ra : Option Addr) (rc : Nat), k ≤ ny ∧ kv = .int .i64 k ∧ qv = .slice qa n2 qc ∧ rv = .slice ra k rc ∧ nl ≤ n2 ∧ (n2 : Int) ≤ (nl : Int) + k ∧ Hid ((rowQ G sets A ⟨xn, xs, xt⟩ l (ys.take k)).1.length = n2) ∧
              Hid (WSt w3 TPP w3.heap.size (w3.heap.size + 1) lo2 hi2_ w10 (NM (w3.heap.size + 1) (rowQ G sets A ⟨xn, xs, xt⟩ l (ys.take k)).1) (.slice ia j ic) (.slice ea i ec) (.slice la i lc) ⟨ia, ic, ea, ec, la, lc, qa, qc, ba, bc, ra, rc⟩ ⟨upTo j, S, labs, (rowQ G sets A ⟨xn, xs, xt⟩ l (ys.take k)).1, ins, (rowQ G sets A ⟨xn, xs, xt⟩ l (ys.take k)).2⟩ wr)) (fun _ _ kv _ => ny - (intOf kv).toNat)
            case atStart => exact ⟨0, nl, _, qc, none, 0, Nat.zero_le _, rfl, rfl, rfl, Nat.le_refl _, by omega, hlen.out.2.2.2, st10.out⟩
            case round =>
              obtain ⟨k, n2, qa, qc, ra, rc, hk, rfl, rfl, rfl, hn2a, hn2b, hn2, st⟩ := hrel
              clear st10
              by_cases hkl : k < ny
              · have hk2 : (k : Int) < (ny : Int) := by omega
                have hkL : k < ys.length := by have := hny.out; omega
                have hin2 : (i : Int) < (n2 : Int) := by omega
                obtain ⟨b, off, rfl, hbl, y0, y1, y2⟩ := (st.out.pps hP2.out hA2.out).at k hkL
                have hyk := okv.out _ (hyv.out _ (List.getElem_mem hkL))
                have hsn := rowQ_snoc G sets A ⟨xn, xs, xt⟩ l (ys.take k) ys[k]
                have htk : ys.take (k + 1) = ys.take k ++ [ys[k]] := by rw [List.take_add_one, List.getElem?_eq_getElem hkL]; rfl
                rw [← htk] at hsn
                have hold := rowQ_old G sets A ⟨xn, xs, xt⟩ l (ys.take k) hll
                have hrl := rowQ_row G sets A ⟨xn, xs, xt⟩ l (ys.take k)
                rw [List.length_take, Nat.min_eq_left (by omega)] at hrl
                rw [← hx.out] at hold
                generalize ys[k] = y at y0 y1 y2 hyk hsn
                obtain ⟨yn, ys_, yt⟩ := y
                simp only at y0 y1 y2
                obtain ⟨R, hR⟩ : ∃ R, R = rowQ G sets A ⟨xn, xs, xt⟩ l (ys.take k) := ⟨_, rfl⟩
                rw [← hR] at hold hrl hsn hn2 st
                have hil3 : i < R.1.length := by have := hn2.out; omega
                obtain ⟨g2, hqa, hgw2, hgl2, x0, x1, x2⟩ := st.out.q.at i hil3
                have hRi : R.1[i] = (⟨xn, xs, xt⟩ : PP) := by
                  rw [List.getElem?_eq_getElem hil3] at hold
                  exact Option.some.inj hold
                simp only at hqa x0 x1 x2
                rw [hRi] at x0 x1 x2
                simp only at x0 x1 x2
                subst hqa
                obtain ⟨u, v, huv, hact⟩ := edv_act (edgeP G sets A ⟨xn, xs, xt⟩ ⟨yn, ys_, yt⟩)
                obtain ⟨bb, hbb⟩ : ∃ b, b = (edgeP G sets A ⟨xn, xs, xt⟩ ⟨yn, ys_, yt⟩).isSome := ⟨_, rfl⟩
                have ED : Hid (∀ w, Below w3.heap.size w3 w → Calls Try.prog 17 #[.pointer (some ⟨p, 0, none⟩), .agg #[.int .i64 xn, .int .i64 xs, .int .i64 xt], .agg #[.int .i64 yn, .int .i64 ys_, .int .i64 yt]] w fun e w' => e = .returned (.tuple #[.agg #[.int .i64 u, .int .i64 v], .bool bb]) ∧ Below w.heap.size w w') := fun w hb => by
                  have := edge_any w p G sets A (hp.out.below hb) lt.out ⟨xn, xs, xt⟩ ⟨yn, ys_, yt⟩
                  rw [huv, ← hbb] at this
                  exact this
                obtain ⟨Q, hQ⟩ : ∃ Q, Q = numQ R.1 ⟨yn, ys_, yt⟩ := ⟨_, rfl⟩
                have hQl := numQ_len R.1 ⟨yn, ys_, yt⟩
                rw [← hQ, hn2.out] at hQl
                have hsn2 : Hid (rowQ G sets A ⟨xn, xs, xt⟩ l (ys.take (k + 1)) = (Q.1, R.2 ++ [((Q.2 : Int), v)])) := by
                  show _ = _
                  rw [hsn, ← hact, hQ]
                  rfl
                obtain ⟨l3, q3⟩ := Q
                simp only at hQl hsn2
                obtain ⟨n3, hn3⟩ : ∃ n, n = l3.length := ⟨_, rfl⟩
                rw [← hn3] at hQl
                obtain ⟨wB, hwB⟩ : ∃ wB, wB = wr.alloc (.cells #[.int .i64 yn, .int .i64 ys_, .int .i64 yt] TPP) := ⟨_, rfl⟩
                have hbB : Below wr.heap.size wr wB := by rw [hwB]; exact balloc (Below.refl _ _) _
                have ry : RowAt wB wr.heap.size TPP [.int .i64 yn, .int .i64 ys_, .int .i64 yt] := by rw [hwB]; exact RowAt.new #[_, _, _] rfl
                have stB := st.out.below hbB
                have hSB : Hid (∀ w', Below wB.heap.size wB w' → w'.cell? ⟨g2, i * 3, none⟩ = some (.int .i64 xn) ∧ w'.cell? ⟨g2, i * 3 + 1, none⟩ = some (.int .i64 xs) ∧ w'.cell? ⟨g2, i * 3 + 2, none⟩ = some (.int .i64 xt) ∧ w'.cell? ⟨wr.heap.size, 0, none⟩ = some (.int .i64 yn) ∧ w'.cell? ⟨wr.heap.size, 1, none⟩ = some (.int .i64 ys_) ∧ w'.cell? ⟨wr.heap.size, 2, none⟩ = some (.int .i64 yt)) := fun w' hb => ⟨bcell (btrans hbB hb) x0, bcell (btrans hbB hb) x1, bcell (btrans hbB hb) x2, bcell hb (ry.cell 0), bcell hb (ry.cell 1), bcell hb (ry.cell 2)⟩
                have HB := Lib.hid hwB
                replace stB := Lib.hid stB
                have hOBl : Hid (∀ b, OB (some ⟨g2, 0, none⟩) n2 qc = some b → b < wr.heap.size) := fun b hb => by rw [← hn2.out] at hb; exact (OwnR.lt st.out.q hb).2
                have hmbl : Hid (w3.heap.size + 1 < wr.heap.size) := st.out.mle.2
                have hz1 : Hid (wr.heap.size < wB.heap.size) := by show _ < _; rw [hwB]; simp
                replace hyk := Lib.hid hyk
                replace hR := Lib.hid hR
                replace hQ := Lib.hid hQ
                replace hn3 := Lib.hid hn3
                replace hrl := Lib.hid hrl
                replace hRi := Lib.hid hRi
                clear hwB hbB ry hsn htk hold huv hact hbb st
                go_wp2_with fail
                rw [← HB.out]
                clear HB y0 y1 y2 x0 x1 x2
                obtain ⟨x0, x1, x2, y0, y1, y2⟩ := hSB.out wB (Below.refl _ _)
                have hg2 : g2 < wB.heap.size := World.block_lt_of_cell? wB _ x0
                have hy2 : wr.heap.size < wB.heap.size := hz1.out
                have hZ : Hid (∀ w11, Below (wB.alloc (.cells #[.int .i64 0, .int .i64 0] TE)).heap.size (wB.alloc (.cells #[.int .i64 0, .int .i64 0] TE)) w11 → RowAt w11 wB.heap.size TE [.int .i64 0, .int .i64 0]) := fun w11 hb => (RowAt.new #[_, _] rfl).below hb
                go_upto_region 26 with (fail)
                go_cut [22, 23] (fun pv bv wx => ∃ z, pv = .pointer (some ⟨z, 0, none⟩) ∧ Hid (RowAt wx z TE [.int .i64 u, .int .i64 v]) ∧ Hid (wB.heap.size ≤ z) ∧ Hid (Below wB.heap.size wB wx))
                case first =>
                  go_region_law (first
                    | (go_simp; go_at_call 17; (with_reducible refine (ED.out _ stB.out.bel.drew).mono ?_); rintro e w11 ⟨rfl, hb11⟩; have K1 : Below wB.heap.size wB w11 := ⟨hb11.os, hb11.tape, hb11.output, hb11.size, hb11.block⟩)
                    | (go_simp; go_at_call 17; (with_reducible refine (ED.out _ (balloc stB.out.bel _).drew).mono ?_); rintro e w11 ⟨rfl, hb11⟩; have K2 : Below (wB.alloc (.cells #[.int .i64 0, .int .i64 0] TE)).heap.size (wB.alloc (.cells #[.int .i64 0, .int .i64 0] TE)) w11 := ⟨hb11.os, hb11.tape, hb11.output, hb11.size, hb11.block⟩; have rz := hZ.out w11 K2; have z0 : w11.cell? ⟨wB.heap.size, 0, none⟩ = some (.int .i64 0) := rz.cell 0; have z1 : w11.cell? ⟨wB.heap.size, 1, none⟩ = some (.int .i64 0) := rz.cell 1; have fz0 : w11.frozen? ⟨wB.heap.size, 0, none⟩ = false := rz.free 0; have fz1 : w11.frozen? ⟨wB.heap.size, 1, none⟩ = false := rz.free 1; replace rz := Lib.hid rz))
                  all_goals (
                    go_wp2_with fail
                    go_meet
                    first
                      | exact ⟨w11.heap.size, rfl, RowAt.new #[_, _] rfl, K1.size, balloc K1 _⟩
                      | exact ⟨wB.heap.size, rfl, (rz.out.set 0 _).set 1 _, Nat.le_refl _, bsetN (bsetN (btrans (balloc (Below.refl _ _) _) K2) (Nat.le_refl _)) (Nat.le_refl _)⟩)
                case rest =>
                  obtain ⟨z, rfl, hrz, hzB, hbc⟩ := hcut
                  obtain ⟨_, _, _, y0, y1, y2⟩ := hSB.out wc hbc.out
                  have stC := stB.out.below hbc.out
                  have NQ := number_at wc w3.heap.size (w3.heap.size + 1) (some ⟨g2, 0, none⟩) qc _ stC.q stC.m.at stC.qne stC.bel.size ⟨yn, ys_, yt⟩ hyk.out (by rw [hn2.out]; omega) l3 q3 n2 n3 hQ.out.symm hn2.out hn3.out.symm
                  replace NQ := Lib.hid NQ
                  replace stC := Lib.hid stC
                  clear hSB ED stB hZ hg2
                  go_wp2_with fail
                  refine NQ.out.mono ?_
                  rintro e w13 ⟨qa', qc', rfl, hq6, hm6, hk6, hf6⟩
                  have st13 := stC.out.toQ (l' := l3) (by rw [hn2.out]; exact hk6) hq6 (by rw [hn2.out, ← hn3.out]; exact hf6) hm6.nm
                  have rz13 := hrz.out.keeps hk6 (fun e => by
                    have h1 := hOBl.out
                    have h2 := hmbl.out
                    have h3 := hzB.out
                    rcases e with e | e
                    · omega
                    · have := h1 z e; omega)
                  have z1 : w13.cell? ⟨z, 1, none⟩ = some (.int .i64 v) := rz13.cell 1
                  have hAl : Hid (Below w13.heap.size w13 (w13.alloc (.cells #[.int .i64 q3, .int .i64 v] TE))) := balloc (Below.refl _ _) _
                  have OW : Hid (OwnR (w13.alloc (.cells #[.int .i64 q3, .int .i64 v] TE)) w3.heap.size TE 2 ra k rc (pcells R.2)) := by
                    have h1 := (st13.below hAl.out).rw_
                    show OwnR _ _ _ _ _ _ _ _
                    rw [← hrl.out]
                    exact h1
                  have nc : Hid (∀ k u, [Value.int .i64 q3, .int .i64 v][k]? = some u → (w13.alloc (.cells #[.int .i64 q3, .int .i64 v] TE)).cell? ((⟨w13.heap.size, 0, none⟩ : Addr).add k) = some u) := new_cells w13 #[.int .i64 q3, .int .i64 v] TE rfl
                  have oc : Hid (∀ u ∈ [Value.int .i64 q3, .int .i64 v], u.oneCell' = true) := fun u hu => by simp at hu; rcases hu with rfl | rfl <;> rfl
                  have n5 : Hid (k + 1 ≤ maxLen) := by show _ ≤ _; unfold maxLen; omega
                  have y5 : Hid ((k + 1) * 16 ≤ 140737488355328) := by show _ ≤ _; omega
                  have hBA : Hid (w3.heap.size ≤ (w13.alloc (.cells #[.int .i64 q3, .int .i64 v] TE)).heap.size) := Nat.le_trans st13.bel.size hAl.out.size
                  have hz13 : Hid ((w13.alloc (.cells #[.int .i64 q3, .int .i64 v] TE)).heap.size = w13.heap.size + 1) := by show _ = _; simp
                  replace st13 := Lib.hid st13
                  clear hq6 hm6 hk6 hf6 NQ stC rz13 hrz y0 y1 y2
                  go_wp2_with (at_builtin; refine wp_appR rfl _ _ 77 TE (.agg #[.int .i64 0, .int .i64 0]) 2 16 rfl Try.underlying77 infoEd rfl (by decide) w3.heap.size ra k rc (pcells R.2) rfl OW.out w13.heap.size 1 [.int .i64 q3, .int .i64 v] rfl rfl nc.out oc.out n5.out y5.out hBA.out ?_)
                  intro ra' rc' w14 ho14 hg14 hat14
                  have el : (R.2 ++ [((q3 : Int), v)]).length = k + 1 := by rw [List.length_append, hrl.out]; rfl
                  have st14 := WSt.toR (ra' := ra') (rc' := rc') (xs := R.2 ++ [((q3 : Int), v)]) st13.out hAl.out (by rw [show ({ init := upTo j, S := S, labs := labs, l := l3, ins := ins, row := R.2 } : WC).row.length = k from hrl.out]; exact hg14) (by
                    show OwnR _ _ _ _ _ _ _ _
                    rw [el, pcells_snoc]
                    exact ho14) (by rw [el, show ({ init := upTo j, S := S, labs := labs, l := l3, ins := ins, row := R.2 } : WC).row.length = k from hrl.out]; exact fresh_of hAl.out (by rw [hz13.out]; exact hat14))
                  have hn3' : Hid ((rowQ G sets A ⟨xn, xs, xt⟩ l (ys.take (k + 1))).1.length = n3) := by show _ = _; rw [hsn2.out]; exact hn3.out.symm
                  have st15 : Hid (WSt w3 TPP w3.heap.size (w3.heap.size + 1) lo2 hi2_ w10 (NM (w3.heap.size + 1) (rowQ G sets A ⟨xn, xs, xt⟩ l (ys.take (k + 1))).1) (.slice ia j ic) (.slice ea i ec) (.slice la i lc) ⟨ia, ic, ea, ec, la, lc, qa', qc', ba, bc, ra', rc'⟩ ⟨upTo j, S, labs, (rowQ G sets A ⟨xn, xs, xt⟩ l (ys.take (k + 1))).1, ins, (rowQ G sets A ⟨xn, xs, xt⟩ l (ys.take (k + 1))).2⟩ w14) := by
                    rw [hsn2.out]
                    exact st14
                  clear st14 st13 ho14 hg14 hat14 hAl OW nc oc n5 y5 hBA hz13 z1
                  go_wp2
                  go_roundw
                  case rel => exact ⟨k + 1, n3, qa', qc', ra', rc', by omega, by go_num, rfl, rfl, by omega, by omega, hn3'.out, st15.out⟩
                  case measure => simp [intOf]; omega
              · obtain rfl : k = ny := by omega
                obtain ⟨R, hR⟩ : ∃ R, R = rowQ G sets A ⟨xn, xs, xt⟩ l ys := ⟨_, rfl⟩
                have hrl := rowQ_row G sets A ⟨xn, xs, xt⟩ l ys
                have hold := rowQ_old G sets A ⟨xn, xs, xt⟩ l ys hll
                have hRv := rowQ_all G sets A ⟨xn, xs, xt⟩ hlv.out hyv.out
                have etk : ys.take k = ys := List.take_of_length_le (by have := hny.out; omega)
                rw [etk, ← hR] at st hn2
                rw [← hR] at hrl hold hRv
                rw [← hny.out] at hrl
                rw [← hx.out] at hold
                have hil3 : i < R.1.length := by have := hn2.out; omega
                have hRi : R.1[i] = (⟨xn, xs, xt⟩ : PP) := by
                  rw [List.getElem?_eq_getElem hil3] at hold
                  exact Option.some.inj hold
                have hwl3 : Hid (wholeL G sets A (most' m) (65539 - i) (i + 1) ⟨R.1, rowsOf S ++ [R.2], labs ++ [labP G xn], ins ++ [inP G sets A ⟨xn, xs, xt⟩]⟩ = res) := by
                  show _ = _
                  rw [← hwl2.out]
                  unfold stepW
                  rw [← hys.out, ← hR]
                replace hR := Lib.hid hR
                replace hrl := Lib.hid hrl
                replace hRv := Lib.hid hRv
                replace hRi := Lib.hid hRi
                clear hold etk hwl2 hP2 hA2 hyv hys hx
                have g1 : wr.cell? ⟨w3.heap.size, 1, none⟩ = some (.slice ea i ec) := st.out.g.cell 1
                have hAl : Hid (Below wr.heap.size wr (wr.alloc (.cells #[.slice ra k rc] TEs))) := balloc (Below.refl _ _) _
                have OW : Hid (OwnR (wr.alloc (.cells #[.slice ra k rc] TEs)) w3.heap.size TEs 1 ea i ec (S.map ecell)) := by
                  have h1 := (st.out.below hAl.out).e.own
                  simp only at h1
                  rw [hlen.out.1] at h1
                  exact h1
                have nc : Hid (∀ q u, [Value.slice ra k rc][q]? = some u → (wr.alloc (.cells #[.slice ra k rc] TEs)).cell? ((⟨wr.heap.size, 0, none⟩ : Addr).add q) = some u) := new_cells wr #[.slice ra k rc] TEs rfl
                have oc : Hid (∀ u ∈ [Value.slice ra k rc], u.oneCell' = true) := fun u hu => by simp at hu; rw [hu]; rfl
                have n5 : Hid (i + 1 ≤ maxLen) := by show _ ≤ _; unfold maxLen; omega
                have y5 : Hid ((i + 1) * 24 ≤ 140737488355328) := by show _ ≤ _; omega
                have hBA : Hid (w3.heap.size ≤ (wr.alloc (.cells #[.slice ra k rc] TEs)).heap.size) := Nat.le_trans st.out.bel.size hAl.out.size
                have hz13 : Hid ((wr.alloc (.cells #[.slice ra k rc] TEs)).heap.size = wr.heap.size + 1) := by show _ = _; simp
                go_wp2_with (at_builtin; refine wp_appR rfl _ _ 23 TEs (.slice none 0 0) 1 24 rfl Try.underlying23 infoEs rfl (by decide) w3.heap.size ea i ec (S.map ecell) rfl OW.out wr.heap.size 1 [.slice ra k rc] rfl rfl nc.out oc.out n5.out y5.out hBA.out ?_)
                intro ea' ec' w14 ho14 hg14 hat14
                have st14 := WSt.toE (ea' := ea') (ec' := ec') st.out hAl.out (by
                  show (wr.alloc (.cells #[.slice ra k rc] TEs)).grownBy w14 (OB ea S.length ec)
                  rw [hlen.out.1]; exact hg14) (by
                  show OwnR w14 w3.heap.size TEs 1 ea' (S.length + 1) ec' (S.map ecell ++ [.slice ra R.2.length rc])
                  rw [hlen.out.1, hrl.out]; exact ho14) (by
                  show OB ea' (S.length + 1) ec' = OB ea S.length ec ∨ _
                  rw [hlen.out.1, hz13.out]; exact hat14)
                have k1 : w14.cell? ⟨w3.heap.size, 1, none⟩ = some (.slice ea i ec) := st14.g.cell 1
                have kf1 : w14.frozen? ⟨w3.heap.size, 1, none⟩ = false := st14.g.free 1
                have st15 := Lib.hid (st14.g1 (.slice ea' (i + 1) ec'))
                clear st14 ho14 hg14 hat14 OW nc oc n5 y5 hBA hz13 hAl g1 st
                go_wp2_with fail
                generalize w14.setCell ⟨w3.heap.size, 1, none⟩ (.slice ea' (i + 1) ec') = w15 at st15 ⊢
                obtain ⟨f', ai', an', ci', cn', hpA⟩ := hp.out
                have hpA2 := hpA.below st15.out.bel
                have p0 : w15.cell? ⟨p, 0, none⟩ = some (.iface TFp (.pointer (some ⟨f', 0, none⟩))) := hpA2.row.cell 0
                have LB := Lib.hid (flabel_any w15.drew f' G _ _ (hpA2.fx.below (Below.refl _ _).drew) xn)
                obtain ⟨lab, hlab⟩ : ∃ b, b = labP G xn := ⟨_, rfl⟩
                rw [← hlab] at LB hwl3
                replace hlab := Lib.hid hlab
                have hM := meth_Label
                obtain ⟨g3, hqa3, hgw3, hgl3, x0, x1, x2⟩ := st15.out.q.at i hil3
                simp only at hqa3 x0 x1 x2
                rw [hRi.out] at x0 x1 x2
                simp only at x0 x1 x2
                subst hqa3
                have g2 : w15.cell? ⟨w3.heap.size, 2, none⟩ = some (.slice la i lc) := st15.out.g.cell 2
                have hgz : w3.heap.size < w15.heap.size := st15.out.g.lt
                have hin3 : (i : Int) < (n2 : Int) := by omega
                have hAl : Hid (Below w15.heap.size w15 ((w15.alloc (.cells #[.int .u64 lab] TU)).drew)) := (balloc (Below.refl _ _) _).drew
                have OW : Hid (OwnR ((w15.alloc (.cells #[.int .u64 lab] TU)).drew) w3.heap.size TU 1 la i lc ((natI labs).map (.int .u64))) := by
                  have h1 := (st15.out.below hAl.out).l
                  simp only at h1
                  rw [hlen.out.2.1] at h1
                  exact h1
                have nc : Hid (∀ q u, [Value.int .u64 lab][q]? = some u → ((w15.alloc (.cells #[.int .u64 lab] TU)).drew).cell? ((⟨w15.heap.size, 0, none⟩ : Addr).add q) = some u) := new_cells w15 #[.int .u64 lab] TU rfl
                have oc : Hid (∀ u ∈ [Value.int .u64 lab], u.oneCell' = true) := fun u hu => by simp at hu; rw [hu]; rfl
                have n5 : Hid (i + 1 ≤ maxLen) := by show _ ≤ _; unfold maxLen; omega
                have y5 : Hid ((i + 1) * 8 ≤ 140737488355328) := by show _ ≤ _; omega
                have hBA : Hid (w3.heap.size ≤ ((w15.alloc (.cells #[.int .u64 lab] TU)).drew).heap.size) := Nat.le_trans st15.out.bel.size hAl.out.size
                have T3 : Hid (∀ la' lc' w16, OwnR w16 w3.heap.size TU 1 la' (i + 1) lc' ((natI labs).map (.int .u64) ++ [.int .u64 lab]) → ((w15.alloc (.cells #[.int .u64 lab] TU)).drew).grownBy w16 (OB la i lc) → (OB la' (i + 1) lc' = OB la i lc ∨ OB la' (i + 1) lc' = some ((w15.alloc (.cells #[.int .u64 lab] TU)).drew).heap.size) →
                    WSt w3 TPP w3.heap.size (w3.heap.size + 1) lo2 hi2_ w10 (NM (w3.heap.size + 1) R.1) (.slice ia j ic) (.slice ea' (i + 1) ec') (.slice la i lc) ⟨ia, ic, ea', ec', la', lc', some ⟨g3, 0, none⟩, qc, ba, bc, none, 0⟩ ⟨upTo j, S ++ [(ra, rc, R.2)], labs ++ [lab], R.1, ins, []⟩ w16) := fun la' lc' w16 ho hg hat => by
                  have el : (labs ++ [lab]).length = i + 1 := by rw [List.length_append, hlen.out.2.1]; rfl
                  refine WSt.toL (la' := la') (lc' := lc') (xs := labs ++ [lab]) st15.out hAl.out ?_ ?_ ?_
                  · show ((w15.alloc (.cells #[.int .u64 lab] TU)).drew).grownBy w16 (OB la labs.length lc)
                    rw [hlen.out.2.1]
                    exact hg
                  · show OwnR _ _ _ _ _ _ _ _
                    rw [el, natI_snoc]
                    exact ho
                  · show Fresh w15 (OB la labs.length lc) _
                    rw [hlen.out.2.1, el]
                    exact fresh_of hAl.out hat
                go_upto_region 31 with (fail)
                go_cut [128] (fun _ wx => ∃ la' lc', Hid (WSt w3 TPP w3.heap.size (w3.heap.size + 1) lo2 hi2_ w10 (NM (w3.heap.size + 1) R.1) (.slice ia j ic) (.slice ea' (i + 1) ec') (.slice la' (i + 1) lc') ⟨ia, ic, ea', ec', la', lc', some ⟨g3, 0, none⟩, qc, ba, bc, none, 0⟩ ⟨upTo j, S ++ [(ra, rc, R.2)], labs ++ [lab], R.1, ins, []⟩ wx))
                case first =>
                  go_region_law (first
                    | (go_simp; go_at_call 80; (with_reducible refine LB.out.mono ?_); rintro e w16 ⟨rfl, rfl⟩)
                    | (refine step_appR ?_ (.tmp 114) (.tmp 127) 24 TU (.int .u64 0) 1 8 ?_ Try.underlying24 infoU rfl (by decide) w3.heap.size la i lc ((natI labs).map (.int .u64)) ?_ OW.out w15.heap.size 1 [.int .u64 lab] ?_ rfl nc.out oc.out n5.out y5.out hBA.out ?_; exact rfl; exact rfl; exact rfl; exact rfl; intro la' lc' w16 ho16 hg16 hat16; have s16 := T3.out la' lc' w16 ho16 hg16 hat16; have k2 : w16.cell? ⟨w3.heap.size, 2, none⟩ = some (.slice la i lc) := s16.g.cell 2; have kf2 : w16.frozen? ⟨w3.heap.size, 2, none⟩ = false := s16.g.free 2; replace s16 := Lib.hid (s16.g2 (.slice la' (i + 1) lc')); clear ho16 hg16 hat16))
                  all_goals (
                    go_wp2_with fail
                    go_meet
                    exact ⟨la', lc', s16.out⟩)
                case rest =>
                  obtain ⟨la', lc', stc⟩ := hcut
                  obtain ⟨bi_, hbi⟩ : ∃ b, b = inP G sets A ⟨xn, xs, xt⟩ := ⟨_, rfl⟩
                  rw [← hbi] at hwl3
                  have IN : Hid (Calls Try.prog 16 #[.pointer (some ⟨p, 0, none⟩), .agg #[.int .i64 xn, .int .i64 xs, .int .i64 xt]] wc fun e w' => e = .returned (.bool bi_) ∧ Below wc.heap.size wc w') := by
                    have h1 := in_any wc p G sets A (hp.out.below stc.out.bel) ⟨xn, xs, xt⟩
                    rw [← hbi] at h1
                    exact h1
                  obtain ⟨g4, hqa4, hgw4, hgl4, v0, v1, v2⟩ := stc.out.q.at i hil3
                  simp only [Option.some.injEq, Addr.mk.injEq, and_true] at hqa4
                  obtain rfl := hqa4
                  rw [hRi.out] at v0 v1 v2
                  simp only at v0 v1 v2
                  replace hbi := Lib.hid hbi
                  clear x0 x1 x2 p0 LB hM g2 hAl OW nc oc n5 y5 hBA T3 hpA hpA2 st15 hgz
                  go_wp2_with fail
                  refine IN.out.mono ?_
                  rintro e w17 ⟨rfl, hb17⟩
                  have st17 := Lib.hid (stc.out.below hb17)
                  have hAl : Hid (Below w17.heap.size w17 (w17.alloc (.cells #[.bool bi_] TyB))) := balloc (Below.refl _ _) _
                  have OW : Hid (OwnR (w17.alloc (.cells #[.bool bi_] TyB)) w3.heap.size TyB 1 ba i bc (bcells ins)) := by
                    have h1 := (st17.out.below hAl.out).b
                    simp only at h1
                    rw [hlen.out.2.2.1] at h1
                    exact h1
                  have nc : Hid (∀ q u, [Value.bool bi_][q]? = some u → (w17.alloc (.cells #[.bool bi_] TyB)).cell? ((⟨w17.heap.size, 0, none⟩ : Addr).add q) = some u) := new_cells w17 #[.bool bi_] TyB rfl
                  have oc : Hid (∀ u ∈ [Value.bool bi_], u.oneCell' = true) := fun u hu => by simp at hu; rw [hu]; rfl
                  have n5 : Hid (i + 1 ≤ maxLen) := by show _ ≤ _; unfold maxLen; omega
                  have y5 : Hid ((i + 1) * 1 ≤ 140737488355328) := by show _ ≤ _; omega
                  have hBA : Hid (w3.heap.size ≤ (w17.alloc (.cells #[.bool bi_] TyB)).heap.size) := Nat.le_trans st17.out.bel.size hAl.out.size
                  have hz17 : Hid ((w17.alloc (.cells #[.bool bi_] TyB)).heap.size = w17.heap.size + 1) := by show _ = _; simp
                  clear hb17 v0 v1 v2 IN stc
                  go_wp2_with (at_builtin; refine wp_appR rfl _ _ 65 TyB (.bool false) 1 1 rfl Try.underlying65 infoB rfl (by decide) w3.heap.size ba i bc (bcells ins) rfl OW.out w17.heap.size 1 [.bool bi_] rfl rfl nc.out oc.out n5.out y5.out hBA.out ?_)
                  intro ba' bc' w18 ho18 hg18 hat18
                  have el : (ins ++ [bi_]).length = i + 1 := by rw [List.length_append, hlen.out.2.2.1]; rfl
                  have st18 := WSt.toB (ba' := ba') (bc' := bc') (xs := ins ++ [bi_]) st17.out hAl.out (by
                    show (w17.alloc (.cells #[.bool bi_] TyB)).grownBy w18 (OB ba ins.length bc)
                    rw [hlen.out.2.2.1]; exact hg18) (by
                    rw [el, bcells_snoc]
                    exact ho18) (by
                    show Fresh w17 (OB ba ins.length bc) _
                    rw [hlen.out.2.2.1, el]
                    exact fresh_of hAl.out (by rw [hz17.out]; exact hat18))
                  have st19 := Lib.hid st18.forget
                  have hlen2 : Hid ((S ++ [(ra, rc, R.2)]).length = i + 1 ∧ (labs ++ [lab]).length = i + 1 ∧ (ins ++ [bi_]).length = i + 1 ∧ R.1.length = n2) := ⟨by rw [List.length_append, hlen.out.1]; rfl, by rw [List.length_append, hlen.out.2.1]; rfl, el, hn2.out⟩
                  have hwl4 : Hid (wholeL G sets A (most' m) (65540 - (i + 1)) (i + 1) ⟨R.1, rowsOf (S ++ [(ra, rc, R.2)]), labs ++ [lab], ins ++ [bi_]⟩ = res) := by
                    show _ = _
                    rw [rowsOf_snoc, show 65540 - (i + 1) = 65539 - i by omega]
                    exact hwl3.out
                  clear st18 ho18 hg18 hat18 hAl OW nc oc n5 y5 hBA hz17 st17 hwl3
                  go_wp2
                  go_roundw
                  case rel => exact ⟨i + 1, n2, ea', ec', la', lc', some ⟨g3, 0, none⟩, qc, ba', bc', S ++ [(ra, rc, R.2)], labs ++ [lab], R.1, ins ++ [bi_], rfl, rfl, rfl, rfl, rfl, by go_num, by omega, by omega, by omega, hlen2.out, hRv.out, hwl4.out, st19.out⟩
                  case measure => simp [intOf]; omega
        · obtain rfl : i = nl := by omega
          have hr : Hid (res = some ⟨l, rowsOf S, labs, ins⟩) := by
            show _ = _
            rw [← hwl.out, show 65540 - i = (65539 - i) + 1 by omega]
            exact wholeL_end (by show ¬ i < l.length; rw [hlen.out.2.2.2]; omega)
          have hbr := st.out.bel
          have rr4 := Lib.hid (rr3.out.below hbr)
          have g0 : wr.cell? ⟨w3.heap.size, 0, none⟩ = some (.slice ia j ic) := st.out.g.cell 0
          have g1 : wr.cell? ⟨w3.heap.size, 1, none⟩ = some (.slice ea i ec) := st.out.g.cell 1
          have g2 : wr.cell? ⟨w3.heap.size, 2, none⟩ = some (.slice la i lc) := st.out.g.cell 2
          have c0 : wr.cell? ⟨w.heap.size + 1, 0, none⟩ = some (.slice none 0 0) := rr4.out.cell 0
          have c1 : wr.cell? ⟨w.heap.size + 1, 1, none⟩ = some (.slice none 0 0) := rr4.out.cell 1
          have c2 : wr.cell? ⟨w.heap.size + 1, 2, none⟩ = some (.slice none 0 0) := rr4.out.cell 2
          have f0 := rr4.out.free 0
          have f1 := rr4.out.free 1
          have f2 := rr4.out.free 2
          have hbz := Lib.hid (btrans hbw3.out hbr)
          clear hbr hwl hlv
          go_wp2
          have hR := Lib.hid (((rr4.out.set 0 (.slice ia j ic)).set 1 (.slice ea i ec)).set 2 (.slice la i lc))
          have d0 := hR.out.cell 0
          have d1 := hR.out.cell 1
          have d2 := hR.out.cell 2
          have hrl : w.heap.size + 1 < w3.heap.size := rr3.out.lt
          have k3 := ((Keeps.set (S := fun k => k < w3.heap.size) wr (w.heap.size + 1) 0 (.slice ia j ic) hrl).trans (Keeps.set (S := fun k => k < w3.heap.size) _ (w.heap.size + 1) 1 (.slice ea i ec) hrl) (fun _ _ h => h)).trans (Keeps.set (S := fun k => k < w3.heap.size) _ (w.heap.size + 1) 2 (.slice la i lc) hrl) (fun _ _ h => h)
          refine bodyPost_ret (v := .tuple #[.agg #[.slice ia j ic, .slice ea i ec, .slice la i lc], .slice qa i qc, .slice ba i bc, .int .i64 0]) (by simp [results, Try.results23, go_sem, d0, d1, d2]) rfl (.inr ⟨_, hr.out, ia, ic, ea, ec, la, lc, qa, qc, ba, bc, ?_, fun w2 hk2 => st.out.reads (k3.trans hk2 (fun j _ h => by have := hbw3.out.size; omega)), ?_⟩)
          · show _ = Ending.returned (.tuple #[.agg #[.slice ia (upTo j).length ic, .slice ea (rowsOf S).length ec, .slice la labs.length lc], .slice qa l.length qc, .slice ba ins.length bc, .int .i64 0])
            rw [upTo_len, rowsOf_len, hlen.out.1, hlen.out.2.1, hlen.out.2.2.1, hlen.out.2.2.2]
          · exact bsetN (bsetN (bsetN hbz.out (by omega)) (by omega)) (by omega)
end Go.Proofs.Ytmlbjfaofppikaa

namespace Go.Proofs.Ytmlbjfaofppikaa
open Go.RowKit

/-- what Graph gave -/
def SrcV (w : World) (G : GR) (sets : List (List Bool)) (v : Value) : Prop :=
  (srcB G sets = true ∧ ∃ f, v = .iface TFp (.pointer (some ⟨f, 0, none⟩)) ∧ FxAt w f G (inbits G.edges.length sets) sets.length) ∨ (srcB G sets = false ∧ v = .nilIface)
theorem SrcMade.v {G : GR} {sets : List (List Bool)} {w w' : World} {e : Ending} (h : SrcMade G sets w e w') : ∃ v, e = .returned v ∧ SrcV w' G sets v := by
  rcases h.2 with ⟨h1, f, h2, h3⟩ | ⟨h1, h2⟩
  · exact ⟨_, h2, .inl ⟨h1, f, rfl, h3⟩⟩
  · exact ⟨_, h2, .inr ⟨h1, rfl⟩⟩
theorem SrcV.below {w w' : World} {G : GR} {sets : List (List Bool)} {v : Value} (h : SrcV w G sets v) (hb : Below w.heap.size w w') : SrcV w' G sets v := by
  rcases h with ⟨h1, f, h2, h3⟩ | h
  · exact .inl ⟨h1, f, h2, h3.below hb⟩
  · exact .inr h
/-- New, of whatever source -/
theorem new_v (w : World) (ai an : Option Addr) (ci cn : Nat) (G : GR) (sets : List (List Bool)) (A : AU) (v : Value) (hv : SrcV w G sets v) (ok : GOk G) (hA : AuAt w ai A.init.length an A.nodes.length A) (aok : AuOk A) :
    Calls Try.prog 13 #[v, auv ai an ci cn A] w (NewMade G sets A w) := by
  rcases hv with ⟨h1, f, rfl, hF⟩ | ⟨h1, rfl⟩
  · exact new_any w ai an ci cn f G sets A hF h1 ok hA aok
  · refine (new_nil w ai an ci cn A).mono ?_
    rintro e w' ⟨rfl, hb⟩
    exact ⟨hb, .inr ⟨by unfold newB; rw [h1]; rfl, rfl⟩⟩
set_option maxRecDepth 20000 in
set_option maxHeartbeats 4000000 in
theorem whole_no (w : World) (ai an : Option Addr) (ci cn : Nat) (G : GR) (sets : List (List Bool)) (A : AU) (m : Int) (v : Value) (hv : SrcV w G sets v) (ok : GOk G) (hA : AuAt w ai A.init.length an A.nodes.length A) (aok : AuOk A) (hn : newB G sets A = false) :
    Calls Try.prog 23 #[v, .agg #[.int .i64 A.sets, .slice ai A.init.length ci, .slice an A.nodes.length cn], .int .i64 m] w (Whole4 2 [] ⟨[], [], [], []⟩ w) := by
  obtain ⟨w2, hw2⟩ : ∃ w2, w2 = (w.alloc (.cells #[.int .i64 A.sets, .slice ai A.init.length ci, .slice an A.nodes.length cn] TA)).alloc (.cells #[.slice none 0 0, .slice none 0 0, .slice none 0 0] TG) := ⟨_, rfl⟩
  have hb2 : Below w.heap.size w w2 := by rw [hw2]; exact balloc (balloc (Below.refl _ _) _) _
  have ra : RowAt w2 w.heap.size TA [.int .i64 A.sets, .slice ai A.init.length ci, .slice an A.nodes.length cn] := by rw [hw2]; exact (RowAt.new #[_, _, _] rfl).alloc _
  have rr : RowAt w2 (w.heap.size + 1) TG gz := by rw [hw2]; exact RowAt.new #[_, _, _] (by simp)
  have NW : Hid (Calls Try.prog 13 #[v, .agg #[.int .i64 A.sets, .slice ai A.init.length ci, .slice an A.nodes.length cn]] w2 (NewMade G sets A w2)) := new_v w2 ai an ci cn G sets A v (hv.below hb2) ok (hA.below hb2) aok
  have a0 : w2.cell? ⟨w.heap.size, 0, none⟩ = some (.int .i64 A.sets) := ra.cell 0
  have a1 : w2.cell? ⟨w.heap.size, 1, none⟩ = some (.slice ai A.init.length ci) := ra.cell 1
  have a2 : w2.cell? ⟨w.heap.size, 2, none⟩ = some (.slice an A.nodes.length cn) := ra.cell 2
  replace hb2 := Lib.hid hb2
  replace rr := Lib.hid rr
  have HW := Lib.hid hw2
  replace hn := Lib.hid hn
  clear hv ok hA aok hw2 ra
  go_enter Try.func23, Try.ntmps23
  go_wp2_with fail
  rw [← HW.out]
  clear HW
  refine NW.out.mono ?_
  rintro e w3 ⟨hb3, h3⟩
  replace h3 := Lib.hid h3
  obtain rfl : e = .returned (.pointer none) := by
    rcases h3.out with ⟨h1, _⟩ | ⟨_, h1⟩
    · rw [hn.out] at h1; cases h1
    · exact h1
  have hbz := Lib.hid (btrans hb2.out hb3)
  have rr4 := Lib.hid (rr.out.below hb3)
  have c0 : w3.cell? ⟨w.heap.size + 1, 0, none⟩ = some (.slice none 0 0) := rr4.out.cell 0
  have c1 : w3.cell? ⟨w.heap.size + 1, 1, none⟩ = some (.slice none 0 0) := rr4.out.cell 1
  have c2 : w3.cell? ⟨w.heap.size + 1, 2, none⟩ = some (.slice none 0 0) := rr4.out.cell 2
  have f0 := rr4.out.free 0
  have f1 := rr4.out.free 1
  have f2 := rr4.out.free 2
  clear h3 a0 a1 a2 NW hb3 rr
  go_wp2
  refine bodyPost_ret (v := .tuple #[.agg #[.slice none 0 0, .slice none 0 0, .slice none 0 0], .slice none 0 0, .slice none 0 0, .int .i64 2]) (by simp [results, Try.results23, go_sem, c0, c1, c2]) rfl (whole_err 2 ?_)
  exact bsetN (bsetN (bsetN hbz.out (by omega)) (by omega)) (by omega)
set_option maxRecDepth 20000 in
set_option maxHeartbeats 4000000 in
theorem whole_neg (w : World) (ai an : Option Addr) (ci cn : Nat) (G : GR) (sets : List (List Bool)) (A : AU) (m : Int) (v : Value) (hv : SrcV w G sets v) (ok : GOk G) (hA : AuAt w ai A.init.length an A.nodes.length A) (aok : AuOk A) (hn : newB G sets A = true) (hm : m < 0) :
    Calls Try.prog 23 #[v, .agg #[.int .i64 A.sets, .slice ai A.init.length ci, .slice an A.nodes.length cn], .int .i64 m] w (Whole4 11 [] ⟨[], [], [], []⟩ w) := by
  obtain ⟨w2, hw2⟩ : ∃ w2, w2 = (w.alloc (.cells #[.int .i64 A.sets, .slice ai A.init.length ci, .slice an A.nodes.length cn] TA)).alloc (.cells #[.slice none 0 0, .slice none 0 0, .slice none 0 0] TG) := ⟨_, rfl⟩
  have hb2 : Below w.heap.size w w2 := by rw [hw2]; exact balloc (balloc (Below.refl _ _) _) _
  have ra : RowAt w2 w.heap.size TA [.int .i64 A.sets, .slice ai A.init.length ci, .slice an A.nodes.length cn] := by rw [hw2]; exact (RowAt.new #[_, _, _] rfl).alloc _
  have rr : RowAt w2 (w.heap.size + 1) TG gz := by rw [hw2]; exact RowAt.new #[_, _, _] (by simp)
  have NW : Hid (Calls Try.prog 13 #[v, .agg #[.int .i64 A.sets, .slice ai A.init.length ci, .slice an A.nodes.length cn]] w2 (NewMade G sets A w2)) := new_v w2 ai an ci cn G sets A v (hv.below hb2) ok (hA.below hb2) aok
  have a0 : w2.cell? ⟨w.heap.size, 0, none⟩ = some (.int .i64 A.sets) := ra.cell 0
  have a1 : w2.cell? ⟨w.heap.size, 1, none⟩ = some (.slice ai A.init.length ci) := ra.cell 1
  have a2 : w2.cell? ⟨w.heap.size, 2, none⟩ = some (.slice an A.nodes.length cn) := ra.cell 2
  have hmm := @run_makeMap Try.prog
  have hmd : decide (m < 0) = true := by simpa using hm
  replace hb2 := Lib.hid hb2
  replace rr := Lib.hid rr
  have HW := Lib.hid hw2
  replace hn := Lib.hid hn
  clear hv ok hA aok hw2 ra hm
  go_enter Try.func23, Try.ntmps23
  go_wp2_with fail
  rw [← HW.out]
  clear HW
  refine NW.out.mono ?_
  rintro e w3 ⟨hb3, h3⟩
  replace h3 := Lib.hid h3
  obtain ⟨p, rfl⟩ : ∃ p, e = .returned (.pointer (some ⟨p, 0, none⟩)) := by
    rcases h3.out with ⟨_, p, h1, _⟩ | ⟨h1, _⟩
    · exact ⟨p, h1⟩
    · rw [hn.out] at h1; cases h1
  have hb4 : Below w3.heap.size w3 ((w3.alloc (.cells #[.slice none 0 0, .slice none 0 0, .slice none 0 0] TG)).alloc (.map #[] 0)) := balloc (balloc (Below.refl _ _) _) _
  have hbz := Lib.hid (btrans (btrans hb2.out hb3) hb4)
  have rr4 := Lib.hid ((rr.out.below hb3).below hb4)
  clear h3 a0 a1 a2 NW hb3 rr
  generalize hw4 : ((w3.alloc (.cells #[.slice none 0 0, .slice none 0 0, .slice none 0 0] TG)).alloc (.map #[] 0)) = w4 at hbz rr4 hb4
  have c0 : w4.cell? ⟨w.heap.size + 1, 0, none⟩ = some (.slice none 0 0) := rr4.out.cell 0
  have c1 : w4.cell? ⟨w.heap.size + 1, 1, none⟩ = some (.slice none 0 0) := rr4.out.cell 1
  have c2 : w4.cell? ⟨w.heap.size + 1, 2, none⟩ = some (.slice none 0 0) := rr4.out.cell 2
  have f0 := rr4.out.free 0
  have f1 := rr4.out.free 1
  have f2 := rr4.out.free 2
  subst hw4
  clear hb4
  go_wp2
  refine bodyPost_ret (v := .tuple #[.agg #[.slice none 0 0, .slice none 0 0, .slice none 0 0], .slice none 0 0, .slice none 0 0, .int .i64 11]) (by simp [results, Try.results23, go_sem, c0, c1, c2]) rfl (whole_err 11 ?_)
  exact bsetN (bsetN (bsetN hbz.out (by omega)) (by omega)) (by omega)
theorem newB_split {G : GR} {sets : List (List Bool)} {A : AU} (h : newB G sets A = true) : srcB G sets = true ∧ chk A = 0 := by
  unfold newB at h
  rw [Bool.and_eq_true] at h
  exact ⟨h.1, of_decide_eq_true h.2⟩
/-- Whole -/
theorem whole_any (w : World) (ai an : Option Addr) (ci cn : Nat) (G : GR) (sets : List (List Bool)) (A : AU) (m : Int) (v : Value) (hv : SrcV w G sets v) (ok : GOk G) (hA : AuAt w ai A.init.length an A.nodes.length A) (aok : AuOk A) (lt : Lt G sets A) :
    Calls Try.prog 23 #[v, .agg #[.int .i64 A.sets, .slice ai A.init.length ci, .slice an A.nodes.length cn], .int .i64 m] w (Whole4 (wholeP G sets A m).1 (wholeP G sets A m).2.1 (wholeP G sets A m).2.2 w) := by
  cases hn : newB G sets A with
  | false =>
    have h := whole_no w ai an ci cn G sets A m v hv ok hA aok hn
    have e : wholeP G sets A m = (2, [], ⟨[], [], [], []⟩) := by unfold wholeP; rw [hn]; rfl
    rw [e]
    exact h
  | true =>
    obtain ⟨hs, hc⟩ := newB_split hn
    by_cases hm : m < 0
    · have h := whole_neg w ai an ci cn G sets A m v hv ok hA aok hn hm
      have e : wholeP G sets A m = (11, [], ⟨[], [], [], []⟩) := by unfold wholeP; rw [hn, if_pos rfl, if_pos hm]
      rw [e]
      exact h
    · rcases hv with ⟨_, f, rfl, hF⟩ | ⟨h1, _⟩
      · have h := whole_yes w ai an ci cn f G sets A m hF hs ok hA aok lt hc (by omega) _ rfl
        have e : wholeP G sets A m = match wholeL G sets A (most' m) 65540 0 ⟨firstP G A, [], [], []⟩ with
          | none => (11, [], ⟨[], [], [], []⟩)
          | some s => (0, upTo (firstP G A).length, s) := by unfold wholeP; rw [hn, if_pos rfl, if_neg hm]; cases wholeL G sets A (most' m) 65540 0 ⟨firstP G A, [], [], []⟩ <;> rfl
        rw [e]
        refine h.mono fun e w' hh => ?_
        rcases hh with ⟨h1, h2⟩ | ⟨s, h1, h2⟩
        · rw [h1]; exact h2
        · rw [h1]; exact h2
      · rw [hs] at h1; cases h1
end Go.Proofs.Ytmlbjfaofppikaa
