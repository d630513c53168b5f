/- Pairs of a node with states. Conditions: a product that New made, and how many there are. -/
import Derived.Test.YtmlbjfaofppikaaPrMap
namespace Go.Proofs.Ytmlbjfaofppikaa
open Go.RowKit

/-- what pairs gives -/
def Paired (w : World) (B mb : Nat) (a : Option Addr) (n c : Nat) (l : List PP) (e : Ending) (w' : World) : Prop :=
  ∃ a' c', e = .returned (.slice a' l.length c') ∧ Acc w' B mb a' c' l ∧ Finds w mb a n c w' a' l.length c'
theorem meth_Label (r f : Nat) (w : World) : Sem.run Try.prog (method (r + 1) TFp (.pointer (some ⟨f, 0, none⟩)) "Label") w = Result.ok (80, .pointer (some ⟨f, 0, none⟩)) w := by kernel_rfl
theorem labP_lt {G : GR} (ok : GOk G) (x : Int) : labP G x < 18446744073709551616 := by
  unfold labP
  split
  · rw [List.getD_eq_getElem?_getD]
    cases hx : G.labels[x.toNat]? with
    | none => decide
    | some v => exact ok.labs v (List.mem_of_getElem? hx)
  · decide
set_option maxHeartbeats 4000000 in
theorem pairs_any (W w : World) (p : Nat) (G : GR) (sets : List (List Bool)) (A : AU) (h : PrAt W p G sets A) (hb : Below W.heap.size W w) (B mb : Nat) (hWB : W.heap.size ≤ B) (hBw : B ≤ w.heap.size)
    (a : Option Addr) (c : Nat) (out : List PP) (hA : Acc w B mb a c out) (af : Option Addr) (cf : Nat) (fs : List Int) (hf : NumsAt .i64 W af fs) (hfs : ∀ q ∈ fs, 0 ≤ q ∧ q < (A.nodes.length : Int)) (x t : Int) (hx : (Lit.int .i64 x).wf = true) (ht : (Lit.int .i64 t).wf = true) (hl : out.length + fs.length ≤ 1000000) :
    Calls Try.prog 35 #[.pointer (some ⟨p, 0, none⟩), .slice a out.length c, .map (some mb), .int .i64 x, .slice af fs.length cf, .int .i64 t] w (Paired w B mb a out.length c (pairsP A (labP G x) x t out fs)) := by
  have hP := Lib.hid (fun wr (hb : Below W.heap.size W wr) => h.below hb)
  obtain ⟨f, ai, an, ci, cn, h⟩ := h
  have L := Lib.hid (flabel_any w f G _ _ (h.fx.below hb) x)
  have hlab := labP_lt h.ok x
  have hnl := (chk_sets h.chk).2.2
  have c0 : w.cell? ⟨p, 0, none⟩ = some (.iface TFp (.pointer (some ⟨f, 0, none⟩))) := (h.row.below hb).cell 0
  obtain ⟨lab, hlb⟩ : ∃ lab, lab = labP G x := ⟨_, rfl⟩
  rw [← hlb] at L hlab ⊢
  replace hf := Lib.hid hf
  replace hfs := Lib.hid hfs
  replace hx := Lib.hid hx
  replace ht := Lib.hid ht
  have hA0 := Lib.hid hA
  replace hb := Lib.hid hb
  have RD := Lib.hid (fun wr (hb : Below W.heap.size W wr) k hk => preads_any wr p G sets A (hP.out wr hb) k hk lab hlab)
  clear h hA hlb hlab
  have hM := meth_Label
  go_enter Try.func35, Try.ntmps35
  go_wp2_with fail
  refine L.out.mono ?_
  rintro e w1 ⟨rfl, rfl⟩
  clear L c0
  go_wp2
  go_loopw [1, 25] (fun lv iv wr => ∃ (k : Nat) (l : List PP) (al : Option Addr) (cl : Nat), k ≤ fs.length ∧ iv = .int .i64 k ∧ lv = .slice al l.length cl ∧ Hid (l = pairsP A lab x t out (fs.take k)) ∧ Acc wr B mb al cl l ∧ Finds w mb a out.length c wr al l.length cl) (fun _ iv _ => fs.length - (intOf iv).toNat)
  case atStart => exact ⟨0, out, a, c, Nat.zero_le _, rfl, rfl, rfl, hA0.out, Finds.refl _ _ _ _ _⟩
  case round =>
    obtain ⟨k, l, al, cl, hk, rfl, rfl, hs, hA, hF⟩ := hrel
    have hln : l.length ≤ 1000000 := by
      rw [hs.out]
      have := pairsP_len A lab x t (fs.take k) out
      rw [List.length_take] at this
      omega
    have hbr : Below W.heap.size W wr := hF.1.below hb.out (fun j hj => Nat.le_trans hWB (hA0.out.hotB hj).1)
    by_cases hlt : k < fs.length
    · obtain ⟨bb, off, q, rfl, cx, hxx⟩ := (hf.out.below hbr).at k hlt
      have hq2 : q = fs[k] := by rw [hxx.out, List.getD_eq_getElem?_getD, List.getElem?_eq_getElem hlt]; rfl
      have hqr := hfs.out _ (List.getElem_mem hlt)
      rw [← hq2] at hqr
      obtain ⟨s, rfl⟩ := Int.eq_ofNat_of_zero_le hqr.1
      have hsn : s < A.nodes.length := by omega
      have hst := pairsP_snoc A lab x t out (fs.take k) s
      rw [← hs.out, hq2, show fs.take k ++ [fs[k]] = fs.take (k + 1) by rw [List.take_add_one, List.getElem?_eq_getElem hlt, Option.toList_some], ← hq2] at hst
      have hok : okPP ⟨x, s, t⟩ := ⟨hx.out, by unfold Lit.wf; simp [IntKind.min, IntKind.max, IntKind.signed, IntKind.bits]; omega, ht.out⟩
      have hbb : Below wr.heap.size wr (wr.alloc (.cells #[.int .i64 x, .int .i64 s, .int .i64 t] TPP)) := balloc (Below.refl _ _) _
      have C := Lib.hid (RD.out _ (btrans hbr hbb) s hsn)
      have r0 := Lib.hid (RowAt.new (w := wr) (T := TPP) #[.int .i64 x, .int .i64 s, .int .i64 t] rfl)
      generalize readsB (nodeP A s) lab = rd at C hst
      have hlt2 : (k : Int) < (fs.length : Int) := by omega
      have hst := Lib.hid hst
      have hls : Hid (l.length = l.length) := rfl
      replace hok := Lib.hid hok
      have hAw := Lib.hid hA
      have hFw := Lib.hid hF
      clear hqr hsn hq2 hxx hM hA hF
      cases rd with
      | false =>
        have hs2 : Hid (l = pairsP A lab x t out (fs.take (k + 1))) := by show _ = _; rw [hst.out, if_neg (by decide)]
        clear hst hs
        go_wp2_with fail
        refine C.out.mono ?_
        rintro e w2 ⟨rfl, hb2⟩
        have hb3 := btrans hbb hb2
        go_wp2
        go_roundw
        case rel => exact ⟨k + 1, l, al, cl, by omega, by go_num, rfl, hs2, hAw.out.below hb3, hFw.out.below_r hb3⟩
        case measure => simp [intOf]; omega
      | true =>
        by_cases hin : (⟨x, s, t⟩ : PP) ∈ l
        · have hs2 : Hid (l = pairsP A lab x t out (fs.take (k + 1))) := by show _ = _; rw [hst.out, if_pos rfl]; unfold addP; rw [if_pos hin]
          have LK := Lib.hid (fun w2 (hm : QMap w2 mb l) => hm.look hok.out)
          rw [decide_eq_true hin] at LK
          clear hst hs hin
          go_wp2_with fail
          refine C.out.mono ?_
          rintro e w2 ⟨rfl, hb2⟩
          have hb3 := btrans hbb hb2
          have lk := LK.out w2 (hAw.out.map.keeps (S := fun _ => False) (Keeps.of_below hb3) (fun h => h))
          have r2 := r0.out.below hb2
          have x0 : w2.cell? ⟨wr.heap.size, 0, none⟩ = some (.int .i64 x) := r2.cell 0
          have x1 : w2.cell? ⟨wr.heap.size, 1, none⟩ = some (.int .i64 s) := r2.cell 1
          have x2 : w2.cell? ⟨wr.heap.size, 2, none⟩ = some (.int .i64 t) := r2.cell 2
          simp only [ppv] at lk
          clear r2 LK C hb2 hbb
          go_wp2
          go_roundw
          case rel => exact ⟨k + 1, l, al, cl, by omega, by go_num, rfl, hs2, hAw.out.below hb3, hFw.out.below_r hb3⟩
          case measure => simp [intOf]; omega
        · have hs2 : Hid (l ++ [⟨x, s, t⟩] = pairsP A lab x t out (fs.take (k + 1))) := by show _ = _; rw [hst.out, if_pos rfl]; unfold addP; rw [if_neg hin]
          have LK := Lib.hid (fun w2 (hm : QMap w2 mb l) => hm.look hok.out)
          rw [decide_eq_false hin] at LK
          clear hst hs hin
          go_wp2_with fail
          refine C.out.mono ?_
          rintro e w2 ⟨rfl, hb2⟩
          have hb3 := btrans hbb hb2
          have hA2 := hAw.out.below hb3
          have hF2 := hFw.out.below_r hb3
          have lk := LK.out w2 hA2.map
          have r2 := r0.out.below hb2
          have x0 : w2.cell? ⟨wr.heap.size, 0, none⟩ = some (.int .i64 x) := r2.cell 0
          have x1 : w2.cell? ⟨wr.heap.size, 1, none⟩ = some (.int .i64 s) := r2.cell 1
          have x2 : w2.cell? ⟨wr.heap.size, 2, none⟩ = some (.int .i64 t) := r2.cell 2
          obtain ⟨w3, hrun3, hm3, hg3⟩ := hA2.map.put hok.out (by omega)
          have hmlt := hAw.out.map.lt
          have K3 : Keeps w2 w3 (fun j => j = mb) := Keeps.of_grown hg3 (fun j e => by cases e; rfl)
          have r3 := r2.keeps K3 (by omega)
          have y0 : w3.cell? ⟨wr.heap.size, 0, none⟩ = some (.int .i64 x) := r3.cell 0
          have y1 : w3.cell? ⟨wr.heap.size, 1, none⟩ = some (.int .i64 s) := r3.cell 1
          have y2 : w3.cell? ⟨wr.heap.size, 2, none⟩ = some (.int .i64 t) := r3.cell 2
          have own3 : OwnR w3 B TPP 3 al l.length cl (qcells l) := OwnR.keeps hA2.own K3 (fun j hj => hA2.ne.out j hj)
          have hB3 : B ≤ w3.heap.size := by have := K3.size; have := hb3.size; have := hFw.out.1.size; omega
          simp only [ppv] at lk hrun3
          replace own3 := Lib.hid own3
          replace hB3 := Lib.hid hB3
          replace K3 := Lib.hid K3
          replace hA2 := Lib.hid hA2
          replace hF2 := Lib.hid hF2
          replace hm3 := Lib.hid hm3
          clear r2 r3 LK C hb2 hbb hg3 hmlt
          have hZ := balloc (Below.refl w3.heap.size w3) (.cells #[.int .i64 x, .int .i64 s, .int .i64 t] TPP)
          have hB4 : Hid (B ≤ (w3.alloc (.cells #[.int .i64 x, .int .i64 s, .int .i64 t] TPP)).heap.size) := Nat.le_trans hB3.out hZ.size
          have hZ := Lib.hid hZ
          go_wp2_with (at_builtin; refine wp_appR rfl _ _ 46 TPP (.agg #[.int .i64 0, .int .i64 0, .int .i64 0]) 3 24 rfl Try.underlying46 infoQ rfl (by decide) B al l.length cl (qcells l) rfl (OwnR.alloc own3.out _) w3.heap.size 1 [.int .i64 x, .int .i64 s, .int .i64 t] rfl rfl (new_cells w3 #[.int .i64 x, .int .i64 s, .int .i64 t] TPP rfl) (by intro u hu; simp at hu; rcases hu with rfl | rfl | rfl <;> rfl) (by unfold maxLen; omega) (by omega) hB4.out ?_)
          intro a' c' w4 ho4 hg4 hat4
          have K4 : Keeps w3 w4 (fun j => (Value.slice al l.length cl).ownBlock = some j) := (Keeps.alloc w3 _ _).trans (Keeps.of_grown (S := fun j => (Value.slice al l.length cl).ownBlock = some j) hg4 (fun j e => e)) (fun _ _ h => h)
          have hfr : ∀ j, (Value.slice a' (l.length + 1) c').ownBlock = some j → (Value.slice al l.length cl).ownBlock = some j ∨ w3.heap.size ≤ j := by
            intro j hj
            rcases hat4 with h | h
            · exact .inl (by rw [← h]; exact hj)
            · rw [h] at hj
              simp at hj
              exact .inr (by omega)
          have el : (l ++ [(⟨x, s, t⟩ : PP)]).length = l.length + 1 := by simp
          have K24 : Keeps w2 w4 (HotQ mb al l.length cl) := ((Keeps.trans (S := HotQ mb al l.length cl) ⟨K3.out.os, K3.out.tape, K3.out.output, K3.out.size, fun j hj hn => K3.out.block j hj (fun e => hn (.inl e))⟩ K4 (fun j _ h => .inr h)))
          have hA4 : Hid (Acc w4 B mb a' c' (l ++ [⟨x, s, t⟩])) := by
            refine ⟨hm3.out.keeps K4 (fun e => hA2.out.ne.out _ e rfl), ?_, hA2.out.hmb, ?_⟩
            · unfold OwnQ
              rw [el, qcells_snoc]
              exact ho4
            · rw [el]
              intro j hj
              rcases hfr j hj with h | h
              · exact hA2.out.ne.out j h
              · have := hm3.out.lt
                omega
          have hF4 : Hid (Finds w mb a out.length c w4 a' (l.length + 1) c') := hF2.out.trans ⟨K24, fun j hj => by
            rcases hfr j hj with h | h
            · exact .inl h
            · exact .inr (Nat.le_trans K3.out.size h)⟩
          clear ho4 hg4 hat4 K4 hfr K24 hA2 hF2 hAw hFw K3 hm3 own3 hB3 hB4 hZ x0 x1 x2 y0 y1 y2 lk hrun3 hb3 r0
          go_wp2
          go_roundw
          case rel => exact ⟨k + 1, l ++ [⟨x, s, t⟩], a', c', by omega, by go_num, by rw [el], hs2, hA4.out, by rw [el]; exact hF4.out⟩
          case measure => simp [intOf]; omega
    · have hke : k = fs.length := by omega
      subst hke
      rw [List.take_length] at hs
      replace hA := Lib.hid hA
      replace hF := Lib.hid hF
      go_wp2
      go_ret
      rw [← hs.out]
      exact ⟨al, cl, rfl, hA.out, hF.out⟩
end Go.Proofs.Ytmlbjfaofppikaa
