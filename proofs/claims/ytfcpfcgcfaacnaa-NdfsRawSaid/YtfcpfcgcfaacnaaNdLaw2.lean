/- Whether a task is too large: the walk. No conditions. -/
import Derived.Test.YtfcpfcgcfaacnaaNdLaw
namespace Go.Proofs.Ytfcpfcgcfaacnaa
open Go.RowKit

set_option maxHeartbeats 8000000 in
theorem heavy_any (w : World) (X : RX) (G : GR) (sets : List (List Bool)) (A : AU) (h : LawIn w X G sets A) :
    Calls Try.prog 9 #[.agg (tcells X G sets A).toArray] w fun e w' => e = .returned (.int .i64 (heavyN G sets A)) ∧ Below w.heap.size w w' := by
  obtain ⟨ai, ae, al, as_, bi, bn, ci, ce, cl, cs, di, dn⟩ := X
  dsimp only [tcells]
  have rg := RowAt.new (w := w) (T := TTk) #[.slice ai G.init.length ci, .slice ae G.edges.length ce, .slice al G.labels.length cl, .slice as_ sets.length cs, .int .i64 A.sets, .slice bi A.init.length di, .slice bn A.nodes.length dn] rfl
  have hb2 := balloc (Below.refl w.heap.size w) (.cells #[.slice ai G.init.length ci, .slice ae G.edges.length ce, .slice al G.labels.length cl, .slice as_ sets.length cs, .int .i64 A.sets, .slice bi A.init.length di, .slice bn A.nodes.length dn] TTk)
  obtain ⟨w2, hw2⟩ : ∃ w2, w.alloc (.cells #[.slice ai G.init.length ci, .slice ae G.edges.length ce, .slice al G.labels.length cl, .slice as_ sets.length cs, .int .i64 A.sets, .slice bi A.init.length di, .slice bn A.nodes.length dn] TTk) = w2 := ⟨_, rfl⟩
  rw [show (Obj.cells [Value.slice ai G.init.length ci, .slice ae G.edges.length ce, .slice al G.labels.length cl, .slice as_ sets.length cs, .int .i64 A.sets, .slice bi A.init.length di, .slice bn A.nodes.length dn].toArray TTk) = (.cells #[.slice ai G.init.length ci, .slice ae G.edges.length ce, .slice al G.labels.length cl, .slice as_ sets.length cs, .int .i64 A.sets, .slice bi A.init.length di, .slice bn A.nodes.length dn] TTk) from rfl] at rg hb2
  rw [hw2] at rg hb2
  have c0 : w2.cell? ⟨w.heap.size, 0, none⟩ = some (.slice ai G.init.length ci) := rg.cell 0
  have c1 : w2.cell? ⟨w.heap.size, 1, none⟩ = some (.slice ae G.edges.length ce) := rg.cell 1
  have c2 : w2.cell? ⟨w.heap.size, 2, none⟩ = some (.slice al G.labels.length cl) := rg.cell 2
  have c3 : w2.cell? ⟨w.heap.size, 3, none⟩ = some (.slice as_ sets.length cs) := rg.cell 3
  have c5 : w2.cell? ⟨w.heap.size, 5, none⟩ = some (.slice bi A.init.length di) := rg.cell 5
  have c6 : w2.cell? ⟨w.heap.size, 6, none⟩ = some (.slice bn A.nodes.length dn) := rg.cell 6
  have hE := Lib.hid (h.g.edges.below hb2)
  have hS := Lib.hid (h.s.below hb2)
  have hN := Lib.hid (h.au.nodes.below hb2)
  obtain ⟨R, hR⟩ : ∃ R, R = heavyN G sets A := ⟨_, rfl⟩
  rw [← hR]
  have hR1 : Hid (lightK G sets A = false → R = 1) := fun hl => by rw [hR, heavyN_1 hl]
  have hR0 : Hid (lightK G sets A = true → R = 0) := fun hl => by rw [hR, heavyN_0 hl]
  clear rg h hR
  by_cases q0 : G.edges.length ≤ 12
  · have p0 : (G.edges.length : Int) ≤ 12 := by omega
    by_cases q1 : G.labels.length ≤ 40
    · have p1 : (G.labels.length : Int) ≤ 40 := by omega
      by_cases q2 : G.init.length ≤ 20
      · have p2 : (G.init.length : Int) ≤ 20 := by omega
        by_cases q3 : sets.length ≤ 20
        · have p3 : (sets.length : Int) ≤ 20 := by omega
          by_cases q4 : A.nodes.length ≤ 8
          · have p4 : (A.nodes.length : Int) ≤ 8 := by omega
            by_cases q5 : A.init.length ≤ 20
            · have p5 : (A.init.length : Int) ≤ 20 := by omega
              have hq : Hid (lightK G sets A = (G.edges.all (fun l => decide (l.length ≤ 12)) && (sets.all (fun l => decide (l.length ≤ 40)) && A.nodes.all (fun x => decide (x.to.length ≤ 12))))) := by show _ = _; unfold lightK; rw [decide_eq_true ⟨q0, q1, q2, q3, q4, q5⟩, Bool.true_and]
              go_enter Try.func9, Try.ntmps9
              go_wp2
              clear hw2
              go_loop [2, 3] (fun bv iv => ∃ k : Nat, bv = .int .i64 0 ∧ k ≤ G.edges.length ∧ iv = .int .i64 k ∧ Hid ((G.edges.take k).all (fun l => decide (l.length ≤ 12)) = true)) (fun _ iv => G.edges.length - (intOf iv).toNat)
              case atStart => exact ⟨0, rfl, Nat.zero_le _, rfl, rfl⟩
              case round =>
                obtain ⟨k, rfl, hk, rfl, hs⟩ := hrel
                by_cases hlt : k < G.edges.length
                · have hk2 : (k : Int) < (G.edges.length : Int) := by omega
                  obtain ⟨b, off, a3, c3', ha, _, e0, _, _⟩ := hE.out.at k hlt
                  have hy := Lib.hid (fun h => all_snocK (p := fun l : List PR => decide (l.length ≤ 12)) hlt hs.out h)
                  have hn := Lib.hid (fun h => all_noK (p := fun l : List PR => decide (l.length ≤ 12)) hlt h)
                  generalize G.edges[k] = es at e0 hy hn
                  subst ha
                  by_cases hl : es.length ≤ 12
                  · have hl2 : (es.length : Int) ≤ 12 := by omega
                    have hs2 := Lib.hid (hy.out (decide_eq_true hl))
                    clear hy hn hs
                    go_wp2
                    go_round
                    case rel => exact ⟨k + 1, rfl, by omega, by go_num, hs2⟩
                    case measure => simp [intOf]; omega
                  · have hl2 : 12 < (es.length : Int) := by omega
                    have hr := Lib.hid (hn.out (decide_eq_false hl))
                    have hr1 := Lib.hid (hR1.out (by rw [hq.out, hr.out] <;> simp))
                    clear hy hn hs
                    go_wp2
                    go_ret
                    rw [hr1.out]
                    exact ⟨rfl, hb2⟩
                · obtain rfl : k = G.edges.length := by omega
                  rw [List.take_length] at hs
                  have hs0 := Lib.hid hs.out
                  clear hs
                  go_wp2
                  go_loop [2, 4] (fun bv iv => ∃ k : Nat, bv = .int .i64 0 ∧ k ≤ sets.length ∧ iv = .int .i64 k ∧ Hid ((sets.take k).all (fun l => decide (l.length ≤ 40)) = true)) (fun _ iv => sets.length - (intOf iv).toNat)
                  case atStart => exact ⟨0, rfl, Nat.zero_le _, rfl, rfl⟩
                  case round =>
                    obtain ⟨k, rfl, hk, rfl, hs⟩ := hrel
                    by_cases hlt : k < sets.length
                    · have hk2 : (k : Int) < (sets.length : Int) := by omega
                      obtain ⟨b, off, ha, hcell⟩ := hS.out (by omega)
                      obtain ⟨a3, c3', e0, _⟩ := hcell k hlt
                      have hy := Lib.hid (fun h => all_snocK (p := fun l : List Bool => decide (l.length ≤ 40)) hlt hs.out h)
                      have hn := Lib.hid (fun h => all_noK (p := fun l : List Bool => decide (l.length ≤ 40)) hlt h)
                      generalize sets[k] = es at e0 hy hn
                      subst ha
                      by_cases hl : es.length ≤ 40
                      · have hl2 : (es.length : Int) ≤ 40 := by omega
                        have hs2 := Lib.hid (hy.out (decide_eq_true hl))
                        clear hy hn hs
                        go_wp2
                        go_round
                        case rel => exact ⟨k + 1, rfl, by omega, by go_num, hs2⟩
                        case measure => simp [intOf]; omega
                      · have hl2 : 40 < (es.length : Int) := by omega
                        have hr := Lib.hid (hn.out (decide_eq_false hl))
                        have hr1 := Lib.hid (hR1.out (by rw [hq.out, hs0.out, Bool.true_and, hr.out] <;> simp))
                        clear hy hn hs
                        go_wp2
                        go_ret
                        rw [hr1.out]
                        exact ⟨rfl, hb2⟩
                    · obtain rfl : k = sets.length := by omega
                      rw [List.take_length] at hs
                      have hs1 := Lib.hid hs.out
                      clear hs
                      go_wp2
                      go_loop [2, 5] (fun bv iv => ∃ k : Nat, bv = .int .i64 0 ∧ k ≤ A.nodes.length ∧ iv = .int .i64 k ∧ Hid ((A.nodes.take k).all (fun x => decide (x.to.length ≤ 12)) = true)) (fun _ iv => A.nodes.length - (intOf iv).toNat)
                      case atStart => exact ⟨0, rfl, Nat.zero_le _, rfl, rfl⟩
                      case round =>
                        obtain ⟨k, rfl, hk, rfl, hs⟩ := hrel
                        by_cases hlt : k < A.nodes.length
                        · have hk2 : (k : Int) < (A.nodes.length : Int) := by omega
                          obtain ⟨b, off, ha, _, _, _, a3, x3, e0, _⟩ := hN.out.at k hlt
                          have hy := Lib.hid (fun h => all_snocK (p := fun l : AN => decide (l.to.length ≤ 12)) hlt hs.out h)
                          have hn := Lib.hid (fun h => all_noK (p := fun l : AN => decide (l.to.length ≤ 12)) hlt h)
                          generalize A.nodes[k] = es at e0 hy hn
                          subst ha
                          by_cases hl : es.to.length ≤ 12
                          · have hl2 : (es.to.length : Int) ≤ 12 := by omega
                            have hs2 := Lib.hid (hy.out (decide_eq_true hl))
                            clear hy hn hs
                            go_wp2
                            go_round
                            case rel => exact ⟨k + 1, rfl, by omega, by go_num, hs2⟩
                            case measure => simp [intOf]; omega
                          · have hl2 : 12 < (es.to.length : Int) := by omega
                            have hr := Lib.hid (hn.out (decide_eq_false hl))
                            have hr1 := Lib.hid (hR1.out (by rw [hq.out, hs0.out, Bool.true_and, hs1.out, Bool.true_and, hr.out] <;> simp))
                            clear hy hn hs
                            go_wp2
                            go_ret
                            rw [hr1.out]
                            exact ⟨rfl, hb2⟩
                        · obtain rfl : k = A.nodes.length := by omega
                          rw [List.take_length] at hs
                          have hr0 := Lib.hid (hR0.out (by rw [hq.out, hs0.out, hs1.out, hs.out, Bool.true_and, Bool.true_and]))
                          clear hs
                          go_wp2
                          go_ret
                          rw [hr0.out]
                          exact ⟨rfl, hb2⟩
            · have p5 : 20 < (A.init.length : Int) := by omega
              have hr1 := Lib.hid (hR1.out (by unfold lightK; rw [decide_eq_false (by omega)]; rfl))
              go_enter Try.func9, Try.ntmps9
              go_wp2
              go_ret
              rw [hr1.out]
              exact ⟨rfl, hb2⟩
          · have p4 : 8 < (A.nodes.length : Int) := by omega
            have hr1 := Lib.hid (hR1.out (by unfold lightK; rw [decide_eq_false (by omega)]; rfl))
            go_enter Try.func9, Try.ntmps9
            go_wp2
            go_ret
            rw [hr1.out]
            exact ⟨rfl, hb2⟩
        · have p3 : 20 < (sets.length : Int) := by omega
          have hr1 := Lib.hid (hR1.out (by unfold lightK; rw [decide_eq_false (by omega)]; rfl))
          go_enter Try.func9, Try.ntmps9
          go_wp2
          go_ret
          rw [hr1.out]
          exact ⟨rfl, hb2⟩
      · have p2 : 20 < (G.init.length : Int) := by omega
        have hr1 := Lib.hid (hR1.out (by unfold lightK; rw [decide_eq_false (by omega)]; rfl))
        go_enter Try.func9, Try.ntmps9
        go_wp2
        go_ret
        rw [hr1.out]
        exact ⟨rfl, hb2⟩
    · have p1 : 40 < (G.labels.length : Int) := by omega
      have hr1 := Lib.hid (hR1.out (by unfold lightK; rw [decide_eq_false (by omega)]; rfl))
      go_enter Try.func9, Try.ntmps9
      go_wp2
      go_ret
      rw [hr1.out]
      exact ⟨rfl, hb2⟩
  · have p0 : 12 < (G.edges.length : Int) := by omega
    have hr1 := Lib.hid (hR1.out (by unfold lightK; rw [decide_eq_false (by omega)]; rfl))
    go_enter Try.func9, Try.ntmps9
    go_wp2
    go_ret
    rw [hr1.out]
    exact ⟨rfl, hb2⟩
end Go.Proofs.Ytfcpfcgcfaacnaa
