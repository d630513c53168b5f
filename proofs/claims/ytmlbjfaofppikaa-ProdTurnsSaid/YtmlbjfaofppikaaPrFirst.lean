/- The first pairs of a product. Conditions: a product that New made, and a small one. -/
import Derived.Test.YtmlbjfaofppikaaPrPairs
namespace Go.Proofs.Ytmlbjfaofppikaa
open Go.RowKit

/-- a small graph with a small automaton -/
structure Lt (G : GR) (sets : List (List Bool)) (A : AU) : Prop where
  e : G.edges.length ≤ 12
  i : G.init.length ≤ 12
  l : G.labels.length ≤ 40
  s : sets.length ≤ 20
  n : A.nodes.length ≤ 8
  ai : A.init.length ≤ 8
  r : ∀ l ∈ G.edges, l.length ≤ 12
  t : ∀ x ∈ A.nodes, x.to.length ≤ 12
/-- pairs in a row of the call's own -/
def GivesQ (w : World) (l : List PP) (e : Ending) (w' : World) : Prop := ∃ a c, e = .returned (.slice a l.length c) ∧ OwnQ w' w.heap.size TPP a c l ∧ Below w.heap.size w w'
theorem meth_First (r f : Nat) (w : World) : Sem.run Try.prog (method (r + 1) TFp (.pointer (some ⟨f, 0, none⟩)) "First") w = Result.ok (78, .pointer (some ⟨f, 0, none⟩)) w := by kernel_rfl
theorem meth_Edges (r f : Nat) (w : World) : Sem.run Try.prog (method (r + 1) TFp (.pointer (some ⟨f, 0, none⟩)) "Edges") w = Result.ok (77, .pointer (some ⟨f, 0, none⟩)) w := by kernel_rfl
theorem meth_Sets (r f : Nat) (w : World) : Sem.run Try.prog (method (r + 1) TFp (.pointer (some ⟨f, 0, none⟩)) "Sets") w = Result.ok (81, .pointer (some ⟨f, 0, none⟩)) w := by kernel_rfl
theorem nonil_any (w : World) : Calls Try.prog 34 #[.pointer none] w fun e w' => e = .returned (.bool true) ∧ w = w' := by
  go_enter Try.func34, Try.ntmps34
  go_wp2
  go_ret
  exact ⟨rfl, rfl⟩
theorem first_nil (w : World) : Calls Try.prog 14 #[.pointer none] w (GivesQ w []) := by
  go_enter Try.func14, Try.ntmps14
  go_wp2_with fail
  refine (nonil_any _).mono ?_
  rintro e w1 ⟨rfl, rfl⟩
  go_wp2
  go_ret
  exact ⟨none, 0, rfl, OwnR.nil _ _ _ _, Below.refl _ _⟩
theorem gchk_good {G : GR} (h : gchk G = 0) : G.edges.length ≤ 65536 ∧ G.labels.length = G.edges.length ∧ (∀ x ∈ G.init, 0 ≤ x ∧ x < (G.edges.length : Int)) ∧ ∀ l ∈ G.edges, ∀ e ∈ l, 0 ≤ e.1 ∧ e.1 < (G.edges.length : Int) := by
  unfold gchk at h
  by_cases h1 : 65536 < G.edges.length
  · rw [if_pos h1] at h; cases h
  rw [if_neg h1] at h
  by_cases h2 : G.labels.length ≠ G.edges.length
  · rw [if_pos h2] at h; cases h
  rw [if_neg h2] at h
  by_cases h3 : G.init.any (outB G.edges.length) = true
  · rw [if_pos h3] at h; cases h
  rw [if_neg h3] at h
  by_cases h4 : G.edges.any (fun l => l.any fun e => outB G.edges.length e.1) = true
  · rw [if_pos h4] at h; cases h
  simp [outB] at h2 h3 h4
  refine ⟨by omega, by omega, fun x hx => ?_, fun l hl e he => ?_⟩
  · have := h3 x hx
    omega
  · have := h4 l hl e.1 e.2 he
    omega
theorem wf_small {x : Int} (h0 : 0 ≤ x) (h1 : x < 1000000) : (Lit.int .i64 x).wf = true := by
  unfold Lit.wf
  simp [IntKind.min, IntKind.max, IntKind.signed, IntKind.bits]
  omega
def firstTo (G : GR) (A : AU) (ns : List Int) : List PP := ns.foldl (fun out n => pairsP A (labP G n) n 0 out A.init) []
theorem firstTo_snoc (G : GR) (A : AU) (ns : List Int) (n : Int) : firstTo G A (ns ++ [n]) = pairsP A (labP G n) n 0 (firstTo G A ns) A.init := by simp [firstTo]
set_option maxHeartbeats 4000000 in
theorem first_any (w : World) (p : Nat) (G : GR) (sets : List (List Bool)) (A : AU) (h : PrAt w p G sets A) (lt : Lt G sets A) :
    Calls Try.prog 14 #[.pointer (some ⟨p, 0, none⟩)] w (GivesQ w (firstP G A)) := by
  have hP := Lib.hid h
  have N := Lib.hid (pnone_any w p G sets A h)
  obtain ⟨f, ai, an, ci, cn, h⟩ := h
  have hg := gchk_good (src_sets h.src).1
  have hbm := balloc (Below.refl w.heap.size w) (.map #[] 0)
  have hbn : Below w.heap.size w (w.alloc (.map #[] 0)) := hbm
  have F := Lib.hid (ffirst_any _ f G _ _ (h.fx.below hbn) (by have := h.ok.initL; omega))
  have AP := Lib.hid h.au.init
  have hin := Lib.hid (chk_good h.chk).2.2.2.1
  have R := Lib.hid h.row
  have c0 : w.cell? ⟨p, 0, none⟩ = some (.iface TFp (.pointer (some ⟨f, 0, none⟩))) := h.row.cell 0
  have c2 : w.cell? ⟨p, 2, none⟩ = some (.slice ai A.init.length ci) := h.row.cell 2
  have c0m : (w.alloc (.map #[] 0)).cell? ⟨p, 0, none⟩ = some (.iface TFp (.pointer (some ⟨f, 0, none⟩))) := (h.row.below hbn).cell 0
  have QM := Lib.hid (QMap.made w)
  replace hg := Lib.hid hg
  replace hbn := Lib.hid hbn
  replace hbm := Lib.hid hbm
  have hM := meth_First
  have hmm := @run_makeMap Try.prog
  obtain ⟨ni, hni⟩ : ∃ ni, ni = G.init.length := ⟨_, rfl⟩
  have hni12 : ni ≤ 12 := by have := lt.i; omega
  have hai8 := lt.ai
  have hnn8 := lt.n
  have he12 := lt.e
  clear h lt
  go_enter Try.func14, Try.ntmps14
  go_wp2_with fail
  refine N.out.mono ?_
  rintro e w1 ⟨rfl, rfl⟩
  go_wp2_with fail
  refine F.out.mono ?_
  rintro e w2 ⟨a0, k0, rfl, hO, hb2⟩
  rw [← hni] at hO ⊢
  have hbw2 : Below w.heap.size w w2 := btrans hbn.out (hb2)
  have hQ2 : Hid (Acc w2 w.heap.size w.heap.size none 0 []) := ⟨QM.out.keeps (S := fun _ => False) (Keeps.of_below hb2) (fun h => h), OwnR.nil _ _ _ _, Nat.le_refl _, fun j hj => by simp [Value.ownBlock] at hj⟩
  have hN2 : Hid (∀ wr al nl cl, Finds w2 w.heap.size none 0 0 wr al nl cl → NumsAt .i64 wr a0 G.init) := fun wr al nl cl hF => NumsAt.of_owns (hO.keeps hF.1 (fun j hj hh => by
    have h1 := (hO.lt2 hj).1
    have h2 : (w.alloc (.map #[] 0)).heap.size = w.heap.size + 1 := by simp
    rcases hh with h3 | h3
    · omega
    · simp [Value.ownBlock] at h3))
  have hlen2 : w.heap.size ≤ w2.heap.size := hbw2.size
  replace hni := Lib.hid hni
  clear F N hO hb2 QM hbn hbm c0 c2 hM hmm c0m
  go_wp2
  go_loopw [3, 16] (fun lv iv wr => ∃ (k : Nat) (l : List PP) (al : Option Addr) (cl : Nat), k ≤ ni ∧ iv = .int .i64 k ∧ lv = .slice al l.length cl ∧ Hid (l = firstTo G A (G.init.take k)) ∧ l.length ≤ k * 8 ∧ Acc wr w.heap.size w.heap.size al cl l ∧ Finds w2 w.heap.size none 0 0 wr al l.length cl) (fun _ iv _ => ni - (intOf iv).toNat)
  case atStart => exact ⟨0, [], none, 0, Nat.zero_le _, rfl, rfl, rfl, Nat.zero_le _, hQ2.out, Finds.refl _ _ _ _ _⟩
  case round =>
    obtain ⟨k, l, al, cl, hk, rfl, rfl, hs, hll, hA, hF⟩ := hrel
    have hbr : Below w.heap.size w wr := hF.1.below hbw2 (fun j hj => by
      rcases hj with rfl | hj
      · exact Nat.le_refl _
      · simp [Value.ownBlock] at hj)
    by_cases hlt : k < ni
    · have hki : k < G.init.length := by have := hni.out; omega
      obtain ⟨bb, off, x, ha0, cx, hxx⟩ := (hN2.out _ _ _ _ hF).at k hki
      have hq2 : x = G.init[k] := by rw [hxx.out, List.getD_eq_getElem?_getD, List.getElem?_eq_getElem hki]; rfl
      have hxr := hg.out.2.2.1 _ (List.getElem_mem hki)
      rw [← hq2] at hxr
      have hst : Hid (firstTo G A (G.init.take (k + 1)) = pairsP A (labP G x) x 0 l A.init) := by
        show _ = _
        rw [List.take_add_one, List.getElem?_eq_getElem hki, Option.toList_some, ← hq2, firstTo_snoc, ← hs.out]
      have hwr : w.heap.size ≤ wr.heap.size := hbr.size
      have C := pairs_any w wr p G sets A hP.out hbr w.heap.size w.heap.size (Nat.le_refl _) hwr al cl l hA ai ci A.init AP.out hin.out x 0 (wf_small hxr.1 (by omega)) (by decide) (by omega)
      have hl2 := pairsP_len A (labP G x) x 0 A.init l
      rw [← hst.out] at C hl2
      obtain ⟨l2, hl2e⟩ : ∃ l2, l2 = firstTo G A (G.init.take (k + 1)) := ⟨_, rfl⟩
      rw [← hl2e] at C hl2
      replace C := Lib.hid C
      replace hl2e := Lib.hid hl2e
      have c2 : wr.cell? ⟨p, 2, none⟩ = some (.slice ai A.init.length ci) := (R.out.below hbr).cell 2
      have hlt2 : (k : Int) < (ni : Int) := by omega
      replace hF := Lib.hid hF
      subst ha0
      clear hst hxr hq2 hxx hs hki
      go_wp2_with fail
      refine C.out.mono ?_
      rintro e w3 ⟨a3, c3, rfl, hA3, hF3⟩
      replace hA3 := Lib.hid hA3
      have hF3 := Lib.hid (hF.out.trans hF3)
      clear C hF c2 cx hA
      go_wp2
      go_roundw
      case rel => exact ⟨k + 1, l2, a3, c3, by omega, by go_num, rfl, hl2e, by omega, hA3.out, hF3.out⟩
      case measure => simp [intOf]; omega
    · have hke : k = ni := by omega
      subst hke
      rw [hni.out, List.take_length] at hs
      replace hA := Lib.hid hA
      go_wp2
      go_ret
      show GivesQ _ (firstTo G A G.init) _ _
      rw [← hs.out]
      exact ⟨al, cl, rfl, hA.out.own, hbr⟩
end Go.Proofs.Ytmlbjfaofppikaa
