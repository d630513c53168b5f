/- The law's light: whether there is not too much. Conditions: the bounds of an argument. -/
import Derived.Test.YtmlbjfaofppikaaPrSame
namespace Go.Proofs.Ytmlbjfaofppikaa
open Go.RowKit

def lightB (G : GR) (sets : List (List Bool)) (A : AU) : Bool :=
  decide (G.edges.length ≤ 12 ∧ G.init.length ≤ 12 ∧ G.labels.length ≤ 40 ∧ sets.length ≤ 20 ∧ A.nodes.length ≤ 8 ∧ A.init.length ≤ 8) && G.edges.all (fun l => decide (l.length ≤ 12)) && A.nodes.all (fun x => decide (x.to.length ≤ 12))
theorem lightB_lt {G : GR} {sets : List (List Bool)} {A : AU} (h : lightB G sets A = true) : Lt G sets A := by
  unfold lightB at h
  simp only [Bool.and_eq_true, decide_eq_true_eq, List.all_eq_true] at h
  obtain ⟨⟨⟨h1, h2, h3, h4, h5, h6⟩, h7⟩, h8⟩ := h
  exact ⟨h1, h2, h3, h4, h5, h6, h7, h8⟩
theorem all_no {α : Type} {p : α → Bool} {l : List α} {k : Nat} (hk : k < l.length) (h : p l[k] = false) : l.all p = false := by
  rw [List.all_eq_false]
  exact ⟨l[k], List.getElem_mem hk, by simp [h]⟩
theorem all_snoc {α : Type} {p : α → Bool} {l : List α} {k : Nat} (hk : k < l.length) (h : (l.take k).all p = true) (h1 : p l[k] = true) : (l.take (k + 1)).all p = true := by
  rw [List.take_add_one, List.getElem?_eq_getElem hk, Option.toList_some, List.all_append, h]
  simp [h1]
set_option maxHeartbeats 4000000 in
theorem light_any (w : World) (X : RX) (G : GR) (sets : List (List Bool)) (A : AU) (hG : GAt w X.ai X.ae X.al G) (hA : AuAt w X.bi A.init.length X.bn A.nodes.length A) :
    Calls Try.prog 8 #[gv X G, .slice X.as_ sets.length X.cs, av X A] w fun e w' => e = .returned (.bool (lightB G sets A)) ∧ Below w.heap.size w w' := by
  have rg := RowAt.new (w := w) (T := TG) #[.slice X.ai G.init.length X.ci, .slice X.ae G.edges.length X.ce, .slice X.al G.labels.length X.cl] rfl
  have hz1 : (w.alloc (.cells #[.slice X.ai G.init.length X.ci, .slice X.ae G.edges.length X.ce, .slice X.al G.labels.length X.cl] TG)).heap.size = w.heap.size + 1 := by simp
  have ra := RowAt.new (w := w.alloc (.cells #[.slice X.ai G.init.length X.ci, .slice X.ae G.edges.length X.ce, .slice X.al G.labels.length X.cl] TG)) (T := 30) #[.int .i64 A.sets, .slice X.bi A.init.length X.di, .slice X.bn A.nodes.length X.dn] rfl
  have rg' := rg.alloc (.cells #[.int .i64 A.sets, .slice X.bi A.init.length X.di, .slice X.bn A.nodes.length X.dn] 30)
  rw [hz1] at ra
  have hb2 := balloc (balloc (Below.refl w.heap.size w) (.cells #[.slice X.ai G.init.length X.ci, .slice X.ae G.edges.length X.ce, .slice X.al G.labels.length X.cl] TG)) (.cells #[.int .i64 A.sets, .slice X.bi A.init.length X.di, .slice X.bn A.nodes.length X.dn] 30)
  obtain ⟨w2, hw2⟩ : ∃ w2, (w.alloc (.cells #[.slice X.ai G.init.length X.ci, .slice X.ae G.edges.length X.ce, .slice X.al G.labels.length X.cl] TG)).alloc (.cells #[.int .i64 A.sets, .slice X.bi A.init.length X.di, .slice X.bn A.nodes.length X.dn] 30) = w2 := ⟨_, rfl⟩
  rw [hw2] at rg' ra hb2
  have c0 : w2.cell? ⟨w.heap.size, 0, none⟩ = some (.slice X.ai G.init.length X.ci) := rg'.cell 0
  have c1 : w2.cell? ⟨w.heap.size, 1, none⟩ = some (.slice X.ae G.edges.length X.ce) := rg'.cell 1
  have c2 : w2.cell? ⟨w.heap.size, 2, none⟩ = some (.slice X.al G.labels.length X.cl) := rg'.cell 2
  have a1 : w2.cell? ⟨w.heap.size + 1, 1, none⟩ = some (.slice X.bi A.init.length X.di) := ra.cell 1
  have a2 : w2.cell? ⟨w.heap.size + 1, 2, none⟩ = some (.slice X.bn A.nodes.length X.dn) := ra.cell 2
  have hE := Lib.hid (hG.edges.below hb2)
  have hN := Lib.hid (hA.nodes.below hb2)
  obtain ⟨R, hR⟩ : ∃ R, R = lightB G sets A := ⟨_, rfl⟩
  rw [← hR]
  replace hR : Hid (R = (decide (G.edges.length ≤ 12 ∧ G.init.length ≤ 12 ∧ G.labels.length ≤ 40 ∧ sets.length ≤ 20 ∧ A.nodes.length ≤ 8 ∧ A.init.length ≤ 8) && G.edges.all (fun l => decide (l.length ≤ 12)) && A.nodes.all (fun x => decide (x.to.length ≤ 12)))) := hR
  clear rg ra rg' hz1 hG hA
  by_cases q0 : G.edges.length ≤ 12
  · have p0 : (G.edges.length : Int) ≤ 12 := by omega
    by_cases q1 : G.init.length ≤ 12
    · have p1 : (G.init.length : Int) ≤ 12 := by omega
      by_cases q2 : G.labels.length ≤ 40
      · have p2 : (G.labels.length : Int) ≤ 40 := by omega
        by_cases q3 : sets.length ≤ 20
        · have p3 : (sets.length : Int) ≤ 20 := by omega
          by_cases q4 : A.nodes.length ≤ 8
          · have p4 : (A.nodes.length : Int) ≤ 8 := by omega
            by_cases q5 : A.init.length ≤ 8
            · have p5 : (A.init.length : Int) ≤ 8 := by omega
              have hR2 : Hid (R = (G.edges.all (fun l => decide (l.length ≤ 12)) && A.nodes.all (fun x => decide (x.to.length ≤ 12)))) := by show _ = _; rw [hR.out, decide_eq_true ⟨q0, q1, q2, q3, q4, q5⟩, Bool.true_and]
              have hnx : Hid True := trivial
              clear hR
              go_enter Try.func8, Try.ntmps8
              go_wp2
              clear hw2
              go_loop [6, 7] (fun bv iv => ∃ k : Nat, bv = .bool false ∧ k ≤ G.edges.length ∧ iv = .int .i64 k ∧ Hid ((G.edges.take k).all (fun l => decide (l.length ≤ 12)) = true)) (fun _ iv => G.edges.length - (intOf iv).toNat)
              case atStart => exact ⟨0, rfl, Nat.zero_le _, rfl, rfl⟩
              case round =>
                obtain ⟨k, rfl, hk, rfl, hs⟩ := hrel
                by_cases hlt : k < G.edges.length
                · have hk2 : (k : Int) < (G.edges.length : Int) := by omega
                  obtain ⟨b, off, a3, c3, ha, _, e0, _, _⟩ := hE.out.at k hlt
                  have hy := Lib.hid (fun h => all_snoc (p := fun l : List PR => decide (l.length ≤ 12)) hlt hs.out h)
                  have hn := Lib.hid (fun h => all_no (p := fun l : List PR => decide (l.length ≤ 12)) hlt h)
                  generalize G.edges[k] = es at e0 hy hn
                  obtain ⟨ai, ae, al, as_, bi, bn, ci, ce, cl, cs, di, dn⟩ := X
                  dsimp only at ha c0 c1 c2 a1 a2
                  subst ha
                  by_cases hl : es.length ≤ 12
                  · have hl2 : (es.length : Int) ≤ 12 := by omega
                    have hs2 := Lib.hid (hy.out (decide_eq_true hl))
                    clear hy hn hs
                    go_wp2
                    go_round
                    case rel => exact ⟨k + 1, rfl, by omega, by go_num, hs2⟩
                    case measure => simp [intOf]; omega
                  · have hl2 : 12 < (es.length : Int) := by omega
                    have hr := Lib.hid (hn.out (decide_eq_false hl))
                    clear hy hn hs
                    go_wp2
                    go_ret
                    rw [show R = false by rw [hR2.out, hr.out]; rfl]
                    exact ⟨rfl, hb2⟩
                · obtain rfl : k = G.edges.length := by omega
                  rw [List.take_length] at hs
                  have hR3 : Hid (R = A.nodes.all (fun x => decide (x.to.length ≤ 12))) := by show _ = _; rw [hR2.out, hs.out, Bool.true_and]
                  clear hs
                  go_wp2
                  go_loop [6, 8] (fun bv iv => ∃ k : Nat, bv = .bool false ∧ k ≤ A.nodes.length ∧ iv = .int .i64 k ∧ Hid ((A.nodes.take k).all (fun x => decide (x.to.length ≤ 12)) = true)) (fun _ iv => A.nodes.length - (intOf iv).toNat)
                  case atStart => exact ⟨0, rfl, Nat.zero_le _, rfl, rfl⟩
                  case round =>
                    obtain ⟨k, rfl, hk, rfl, hs⟩ := hrel
                    by_cases hlt : k < A.nodes.length
                    · have hk2 : (k : Int) < (A.nodes.length : Int) := by omega
                      obtain ⟨b, off, ha, _, _, _, a3, x3, n3, _⟩ := hN.out.at k hlt
                      have hy := Lib.hid (fun h => all_snoc (p := fun x : AN => decide (x.to.length ≤ 12)) hlt hs.out h)
                      have hn := Lib.hid (fun h => all_no (p := fun x : AN => decide (x.to.length ≤ 12)) hlt h)
                      generalize A.nodes[k] = nd at n3 hy hn
                      obtain ⟨ai, ae, al, as_, bi, bn, ci, ce, cl, cs, di, dn⟩ := X
                      dsimp only at ha c0 c1 c2 a1 a2
                      subst ha
                      by_cases hl : nd.to.length ≤ 12
                      · have hl2 : (nd.to.length : Int) ≤ 12 := by omega
                        have hs2 := Lib.hid (hy.out (decide_eq_true hl))
                        clear hy hn hs
                        go_wp2
                        go_round
                        case rel => exact ⟨k + 1, rfl, by omega, by go_num, hs2⟩
                        case measure => simp [intOf]; omega
                      · have hl2 : 12 < (nd.to.length : Int) := by omega
                        have hr := Lib.hid (hn.out (decide_eq_false hl))
                        clear hy hn hs
                        go_wp2
                        go_ret
                        rw [show R = false by rw [hR3.out, hr.out]]
                        exact ⟨rfl, hb2⟩
                    · obtain rfl : k = A.nodes.length := by omega
                      rw [List.take_length] at hs
                      go_wp2
                      go_ret
                      rw [show R = true by rw [hR3.out, hs.out]]
                      exact ⟨rfl, hb2⟩
            · have p5 : 8 < (A.init.length : Int) := by omega
              have hR2 : Hid (R = false) := by show _ = _; rw [hR.out, decide_eq_false (by omega)]; rfl
              clear hR
              go_enter Try.func8, Try.ntmps8
              go_wp2
              go_ret
              rw [hR2.out]
              exact ⟨rfl, hb2⟩
          · have p4 : 8 < (A.nodes.length : Int) := by omega
            have hR2 : Hid (R = false) := by show _ = _; rw [hR.out, decide_eq_false (by omega)]; rfl
            clear hR
            go_enter Try.func8, Try.ntmps8
            go_wp2
            go_ret
            rw [hR2.out]
            exact ⟨rfl, hb2⟩
        · have p3 : 20 < (sets.length : Int) := by omega
          have hR2 : Hid (R = false) := by show _ = _; rw [hR.out, decide_eq_false (by omega)]; rfl
          clear hR
          go_enter Try.func8, Try.ntmps8
          go_wp2
          go_ret
          rw [hR2.out]
          exact ⟨rfl, hb2⟩
      · have p2 : 40 < (G.labels.length : Int) := by omega
        have hR2 : Hid (R = false) := by show _ = _; rw [hR.out, decide_eq_false (by omega)]; rfl
        clear hR
        go_enter Try.func8, Try.ntmps8
        go_wp2
        go_ret
        rw [hR2.out]
        exact ⟨rfl, hb2⟩
    · have p1 : 12 < (G.init.length : Int) := by omega
      have hR2 : Hid (R = false) := by show _ = _; rw [hR.out, decide_eq_false (by omega)]; rfl
      clear hR
      go_enter Try.func8, Try.ntmps8
      go_wp2
      go_ret
      rw [hR2.out]
      exact ⟨rfl, hb2⟩
  · have p0 : 12 < (G.edges.length : Int) := by omega
    have hR2 : Hid (R = false) := by show _ = _; rw [hR.out, decide_eq_false (by omega)]; rfl
    clear hR
    go_enter Try.func8, Try.ntmps8
    go_wp2
    go_ret
    rw [hR2.out]
    exact ⟨rfl, hb2⟩
end Go.Proofs.Ytmlbjfaofppikaa
