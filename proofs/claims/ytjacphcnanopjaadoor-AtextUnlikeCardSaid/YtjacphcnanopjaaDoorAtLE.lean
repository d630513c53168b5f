/- The walk of a law of chapter 35. Conditions: what the listed variables hold; the bounds that an argument brings along. -/
import Derived.Test.YtjacphcnanopjaaDoorAtLA
namespace Go.Proofs.YtjacphcnanopjaaDoor
open Go.Shelf Go.RowKit
set_option linter.unusedVariables false
set_option linter.unusedSimpArgs false

set_option maxHeartbeats 8000000 in
theorem unlike_walk (W : World) (hd : Door W) (c : Array Value) (A : AU) (h : rAU W c.toList A) (c' : Array Value) (B : AU) (h' : rAU W c'.toList B) :
    Calls Tryd.prog 7 #[.agg c, .agg c'] W fun e w' => e = .returned (.bool true) ∧ Below W.heap.size W w' := by
  obtain ⟨ai, ci, an, cn, hcs, hA, okA, _, _⟩ := AuAt.of_rAU h
  obtain rfl : c = #[.int .i64 A.sets, .slice ai A.init.length ci, .slice an A.nodes.length cn] := by
    cases c; simpa using hcs
  clear h hcs
  obtain ⟨bi, di, bn, dn, hcs, hB, okB, _, _⟩ := AuAt.of_rAU h'
  obtain rfl : c' = #[.int .i64 B.sets, .slice bi B.init.length di, .slice bn B.nodes.length dn] := by
    cases c'; simpa using hcs
  clear h' hcs
  have hb0 : Below W.heap.size W ((W.alloc (.cells #[.int .i64 A.sets, .slice ai A.init.length ci, .slice an A.nodes.length cn] AUT)).alloc (.cells #[.int .i64 B.sets, .slice bi B.init.length di, .slice bn B.nodes.length dn] AUT)) := balloc (balloc (Below.refl _ _) _) _
  have rA := Lib.hid ((RowAt.new (w := W) (T := AUT) #[.int .i64 A.sets, .slice ai A.init.length ci, .slice an A.nodes.length cn] rfl).alloc (.cells #[.int .i64 B.sets, .slice bi B.init.length di, .slice bn B.nodes.length dn] AUT))
  have rB := Lib.hid (RowAt.new (w := W.alloc (.cells #[.int .i64 A.sets, .slice ai A.init.length ci, .slice an A.nodes.length cn] AUT)) (T := AUT) (n := W.heap.size + 1) #[.int .i64 B.sets, .slice bi B.init.length di, .slice bn B.nodes.length dn] (by simp))
  have HA := fun v (hb : Below W.heap.size W v) => heavy_any v ai an ci cn A (hA.below hb) okA
  have HB := fun v (hb : Below W.heap.size W v) => heavy_any v bi bn di dn B (hB.below hb) okB
  have fA := fun h => few_of (A := A) h
  have fB := fun h => few_of (A := B) h
  have TA := fun (few : AuFew A) w' (hb : Below W.heap.size W w') => text_any w' (hd.below hb) ai an ci cn A (hA.below hb) okA few
  have TB := fun (few : AuFew B) w' (hb : Below W.heap.size W w') => text_any w' (hd.below hb) bi bn di dn B (hB.below hb) okB few
  have SAM := fun w' (hb : Below W.heap.size W w') => same_any w' ai an bi bn ci cn di dn A B (hA.below hb) (hB.below hb) okA okB
  unfold TextV at TA TB
  unfold SamV at SAM
  have hq : (textP A).2 = 0 → (textP B).2 = 0 → ((textP A).1.toArray = (textP B).1.toArray ↔ A = B) := fun e1 e2 => by
    obtain ⟨p1, p2, p3⟩ := text_yes e1
    obtain ⟨q1, q2, q3⟩ := text_yes e2
    rw [p1, q1]
    exact ⟨fun h => whole_inj (tx_of okA p2) (tx_of okB q2) (by simpa using h), fun h => by rw [h]⟩
  generalize (textP A).1.toArray = qa at TA hq
  generalize (textP B).1.toArray = qb at TB hq
  generalize (textP A).2 = ca at TA hq
  generalize (textP B).2 = cb at TB hq
  have hs : ca = 0 → cb = 0 → ((qa = qb) ↔ (decide (A = B) = true)) := fun e1 e2 => by rw [hq e1 e2, decide_eq_true_iff]
  clear hq
  generalize decide (A = B) = same at SAM hs
  generalize heavyB A = ha at HA fA
  generalize heavyB B = hb at HB fB
  obtain ⟨s, init, nodes⟩ := A
  obtain ⟨s', init', nodes'⟩ := B
  simp only at HA HB TA TB SAM rA rB hb0
  replace hd := Lib.hid hd
  replace HA := Lib.hid HA
  replace HB := Lib.hid HB
  replace SAM := Lib.hid SAM
  replace hb0 := Lib.hid hb0
  replace hs := Lib.hid hs
  clear hA hB okA okB
  have ENT : Hid True := trivial
  cases ha with
  | true =>
    clear fA fB TA TB SAM hs HB
    go_enter Tryd.func7, Tryd.ntmps7
    go_wp2_with fail
    refine (HA.out _ hb0.out).mono ?_
    rintro e w1 ⟨rfl, k1⟩
    have pA := rA.out.below k1
    have pB := rB.out.below k1
    replace k1 := Lib.hid (btrans hb0.out k1)
    clear rA rB hb0
    have a0 : w1.cell? ⟨W.heap.size, 0, none⟩ = some (.int .i64 s) := pA.cell 0
    have a1 : w1.cell? ⟨W.heap.size, 1, none⟩ = some (.slice ai init.length ci) := pA.cell 1
    have a2 : w1.cell? ⟨W.heap.size, 2, none⟩ = some (.slice an nodes.length cn) := pA.cell 2
    have e0 : w1.cell? ⟨W.heap.size + 1, 0, none⟩ = some (.int .i64 s') := pB.cell 0
    have e1 : w1.cell? ⟨W.heap.size + 1, 1, none⟩ = some (.slice bi init'.length di) := pB.cell 1
    have e2 : w1.cell? ⟨W.heap.size + 1, 2, none⟩ = some (.slice bn nodes'.length dn) := pB.cell 2
    replace pA := Lib.hid pA
    replace pB := Lib.hid pB
    clear a0 a1 a2 e0 e1 e2 pA pB
    go_wp2_with fail
    refine (works_true _ (hd.out.below k1.out)).mono ?_
    rintro e wz ⟨rfl, hbz⟩
    replace hbz := Lib.hid (btrans k1.out hbz)
    go_wp2
    go_ret
    exact ⟨rfl, hbz.out⟩
  | false =>
    have TA := Lib.hid (TA (fA rfl))
    cases hb with
    | true =>
      clear fA fB TA TB SAM hs
      go_enter Tryd.func7, Tryd.ntmps7
      go_wp2_with fail
      refine (HA.out _ hb0.out).mono ?_
      rintro e w1 ⟨rfl, k1⟩
      have pA := rA.out.below k1
      have pB := rB.out.below k1
      replace k1 := Lib.hid (btrans hb0.out k1)
      clear rA rB hb0
      have a0 : w1.cell? ⟨W.heap.size, 0, none⟩ = some (.int .i64 s) := pA.cell 0
      have a1 : w1.cell? ⟨W.heap.size, 1, none⟩ = some (.slice ai init.length ci) := pA.cell 1
      have a2 : w1.cell? ⟨W.heap.size, 2, none⟩ = some (.slice an nodes.length cn) := pA.cell 2
      have e0 : w1.cell? ⟨W.heap.size + 1, 0, none⟩ = some (.int .i64 s') := pB.cell 0
      have e1 : w1.cell? ⟨W.heap.size + 1, 1, none⟩ = some (.slice bi init'.length di) := pB.cell 1
      have e2 : w1.cell? ⟨W.heap.size + 1, 2, none⟩ = some (.slice bn nodes'.length dn) := pB.cell 2
      replace pA := Lib.hid pA
      replace pB := Lib.hid pB
      go_wp2_with fail
      refine (HB.out _ k1.out).mono ?_
      rintro e w2 ⟨rfl, k2⟩
      replace pA := Lib.hid (pA.out.below k2)
      replace pB := Lib.hid (pB.out.below k2)
      replace k2 := Lib.hid (btrans k1.out k2)
      clear k1 a0 a1 a2 e0 e1 e2
      have a0 : w2.cell? ⟨W.heap.size, 0, none⟩ = some (.int .i64 s) := pA.out.cell 0
      have a1 : w2.cell? ⟨W.heap.size, 1, none⟩ = some (.slice ai init.length ci) := pA.out.cell 1
      have a2 : w2.cell? ⟨W.heap.size, 2, none⟩ = some (.slice an nodes.length cn) := pA.out.cell 2
      have e0 : w2.cell? ⟨W.heap.size + 1, 0, none⟩ = some (.int .i64 s') := pB.out.cell 0
      have e1 : w2.cell? ⟨W.heap.size + 1, 1, none⟩ = some (.slice bi init'.length di) := pB.out.cell 1
      have e2 : w2.cell? ⟨W.heap.size + 1, 2, none⟩ = some (.slice bn nodes'.length dn) := pB.out.cell 2
      clear a0 a1 a2 e0 e1 e2 pA pB
      go_wp2_with fail
      refine (works_true _ (hd.out.below k2.out)).mono ?_
      rintro e wz ⟨rfl, hbz⟩
      replace hbz := Lib.hid (btrans k2.out hbz)
      go_wp2
      go_ret
      exact ⟨rfl, hbz.out⟩
    | false =>
      have TB := Lib.hid (TB (fB rfl))
      clear fA fB
      by_cases h1 : ca = 0
      · by_cases h2 : cb = 0
        · replace hs := hs.out h1 h2
          subst h1 h2
          cases hsm : same with
          | true =>
            have hqq : qa = qb := hs.2 hsm
            subst hqq hsm
            clear hs
            go_enter Tryd.func7, Tryd.ntmps7
            go_wp2_with fail
            refine (HA.out _ hb0.out).mono ?_
            rintro e w1 ⟨rfl, k1⟩
            have pA := rA.out.below k1
            have pB := rB.out.below k1
            replace k1 := Lib.hid (btrans hb0.out k1)
            clear rA rB hb0
            have a0 : w1.cell? ⟨W.heap.size, 0, none⟩ = some (.int .i64 s) := pA.cell 0
            have a1 : w1.cell? ⟨W.heap.size, 1, none⟩ = some (.slice ai init.length ci) := pA.cell 1
            have a2 : w1.cell? ⟨W.heap.size, 2, none⟩ = some (.slice an nodes.length cn) := pA.cell 2
            have e0 : w1.cell? ⟨W.heap.size + 1, 0, none⟩ = some (.int .i64 s') := pB.cell 0
            have e1 : w1.cell? ⟨W.heap.size + 1, 1, none⟩ = some (.slice bi init'.length di) := pB.cell 1
            have e2 : w1.cell? ⟨W.heap.size + 1, 2, none⟩ = some (.slice bn nodes'.length dn) := pB.cell 2
            replace pA := Lib.hid pA
            replace pB := Lib.hid pB
            go_wp2_with fail
            refine (HB.out _ k1.out).mono ?_
            rintro e w2 ⟨rfl, k2⟩
            replace pA := Lib.hid (pA.out.below k2)
            replace pB := Lib.hid (pB.out.below k2)
            replace k2 := Lib.hid (btrans k1.out k2)
            clear k1 a0 a1 a2 e0 e1 e2
            have a0 : w2.cell? ⟨W.heap.size, 0, none⟩ = some (.int .i64 s) := pA.out.cell 0
            have a1 : w2.cell? ⟨W.heap.size, 1, none⟩ = some (.slice ai init.length ci) := pA.out.cell 1
            have a2 : w2.cell? ⟨W.heap.size, 2, none⟩ = some (.slice an nodes.length cn) := pA.out.cell 2
            have e0 : w2.cell? ⟨W.heap.size + 1, 0, none⟩ = some (.int .i64 s') := pB.out.cell 0
            have e1 : w2.cell? ⟨W.heap.size + 1, 1, none⟩ = some (.slice bi init'.length di) := pB.out.cell 1
            have e2 : w2.cell? ⟨W.heap.size + 1, 2, none⟩ = some (.slice bn nodes'.length dn) := pB.out.cell 2
            go_wp2_with fail
            refine (TA.out _ k2.out).mono ?_
            rintro e w3 ⟨rfl, k3⟩
            replace pA := Lib.hid (pA.out.below k3)
            replace pB := Lib.hid (pB.out.below k3)
            replace k3 := Lib.hid (btrans k2.out k3)
            clear k2 a0 a1 a2 e0 e1 e2
            have a0 : w3.cell? ⟨W.heap.size, 0, none⟩ = some (.int .i64 s) := pA.out.cell 0
            have a1 : w3.cell? ⟨W.heap.size, 1, none⟩ = some (.slice ai init.length ci) := pA.out.cell 1
            have a2 : w3.cell? ⟨W.heap.size, 2, none⟩ = some (.slice an nodes.length cn) := pA.out.cell 2
            have e0 : w3.cell? ⟨W.heap.size + 1, 0, none⟩ = some (.int .i64 s') := pB.out.cell 0
            have e1 : w3.cell? ⟨W.heap.size + 1, 1, none⟩ = some (.slice bi init'.length di) := pB.out.cell 1
            have e2 : w3.cell? ⟨W.heap.size + 1, 2, none⟩ = some (.slice bn nodes'.length dn) := pB.out.cell 2
            go_wp2_with fail
            refine (TB.out _ k3.out).mono ?_
            rintro e w4 ⟨rfl, k4⟩
            replace pA := Lib.hid (pA.out.below k4)
            replace pB := Lib.hid (pB.out.below k4)
            replace k4 := Lib.hid (btrans k3.out k4)
            clear k3 a0 a1 a2 e0 e1 e2
            have a0 : w4.cell? ⟨W.heap.size, 0, none⟩ = some (.int .i64 s) := pA.out.cell 0
            have a1 : w4.cell? ⟨W.heap.size, 1, none⟩ = some (.slice ai init.length ci) := pA.out.cell 1
            have a2 : w4.cell? ⟨W.heap.size, 2, none⟩ = some (.slice an nodes.length cn) := pA.out.cell 2
            have e0 : w4.cell? ⟨W.heap.size + 1, 0, none⟩ = some (.int .i64 s') := pB.out.cell 0
            have e1 : w4.cell? ⟨W.heap.size + 1, 1, none⟩ = some (.slice bi init'.length di) := pB.out.cell 1
            have e2 : w4.cell? ⟨W.heap.size + 1, 2, none⟩ = some (.slice bn nodes'.length dn) := pB.out.cell 2
            go_wp2_with fail
            refine (SAM.out _ k4.out).mono ?_
            rintro e w5 ⟨rfl, k5⟩
            replace k5 := Lib.hid (btrans k4.out k5)
            clear a0 a1 a2 e0 e1 e2 pA pB k4
            go_wp2_with fail
            refine (works_true _ (hd.out.below k5.out)).mono ?_
            rintro e wz ⟨rfl, hbz⟩
            replace hbz := Lib.hid (btrans k5.out hbz)
            go_wp2
            go_ret
            exact ⟨rfl, hbz.out⟩
          | false =>
            have hqq : ¬ qa = qb := fun h => by have := hs.1 h; rw [hsm] at this; cases this
            subst hsm
            have g1 : ((⟨qa⟩ : ByteArray).toList == (⟨qb⟩ : ByteArray).toList) = false := by
              rw [beq_eq_false_iff_ne, ByteArray.toList_eq, ByteArray.toList_eq]
              exact fun h => hqq (by simpa using h)
            clear hs hqq
            go_enter Tryd.func7, Tryd.ntmps7
            go_wp2_with fail
            refine (HA.out _ hb0.out).mono ?_
            rintro e w1 ⟨rfl, k1⟩
            have pA := rA.out.below k1
            have pB := rB.out.below k1
            replace k1 := Lib.hid (btrans hb0.out k1)
            clear rA rB hb0
            have a0 : w1.cell? ⟨W.heap.size, 0, none⟩ = some (.int .i64 s) := pA.cell 0
            have a1 : w1.cell? ⟨W.heap.size, 1, none⟩ = some (.slice ai init.length ci) := pA.cell 1
            have a2 : w1.cell? ⟨W.heap.size, 2, none⟩ = some (.slice an nodes.length cn) := pA.cell 2
            have e0 : w1.cell? ⟨W.heap.size + 1, 0, none⟩ = some (.int .i64 s') := pB.cell 0
            have e1 : w1.cell? ⟨W.heap.size + 1, 1, none⟩ = some (.slice bi init'.length di) := pB.cell 1
            have e2 : w1.cell? ⟨W.heap.size + 1, 2, none⟩ = some (.slice bn nodes'.length dn) := pB.cell 2
            replace pA := Lib.hid pA
            replace pB := Lib.hid pB
            go_wp2_with fail
            refine (HB.out _ k1.out).mono ?_
            rintro e w2 ⟨rfl, k2⟩
            replace pA := Lib.hid (pA.out.below k2)
            replace pB := Lib.hid (pB.out.below k2)
            replace k2 := Lib.hid (btrans k1.out k2)
            clear k1 a0 a1 a2 e0 e1 e2
            have a0 : w2.cell? ⟨W.heap.size, 0, none⟩ = some (.int .i64 s) := pA.out.cell 0
            have a1 : w2.cell? ⟨W.heap.size, 1, none⟩ = some (.slice ai init.length ci) := pA.out.cell 1
            have a2 : w2.cell? ⟨W.heap.size, 2, none⟩ = some (.slice an nodes.length cn) := pA.out.cell 2
            have e0 : w2.cell? ⟨W.heap.size + 1, 0, none⟩ = some (.int .i64 s') := pB.out.cell 0
            have e1 : w2.cell? ⟨W.heap.size + 1, 1, none⟩ = some (.slice bi init'.length di) := pB.out.cell 1
            have e2 : w2.cell? ⟨W.heap.size + 1, 2, none⟩ = some (.slice bn nodes'.length dn) := pB.out.cell 2
            go_wp2_with fail
            refine (TA.out _ k2.out).mono ?_
            rintro e w3 ⟨rfl, k3⟩
            replace pA := Lib.hid (pA.out.below k3)
            replace pB := Lib.hid (pB.out.below k3)
            replace k3 := Lib.hid (btrans k2.out k3)
            clear k2 a0 a1 a2 e0 e1 e2
            have a0 : w3.cell? ⟨W.heap.size, 0, none⟩ = some (.int .i64 s) := pA.out.cell 0
            have a1 : w3.cell? ⟨W.heap.size, 1, none⟩ = some (.slice ai init.length ci) := pA.out.cell 1
            have a2 : w3.cell? ⟨W.heap.size, 2, none⟩ = some (.slice an nodes.length cn) := pA.out.cell 2
            have e0 : w3.cell? ⟨W.heap.size + 1, 0, none⟩ = some (.int .i64 s') := pB.out.cell 0
            have e1 : w3.cell? ⟨W.heap.size + 1, 1, none⟩ = some (.slice bi init'.length di) := pB.out.cell 1
            have e2 : w3.cell? ⟨W.heap.size + 1, 2, none⟩ = some (.slice bn nodes'.length dn) := pB.out.cell 2
            go_wp2_with fail
            refine (TB.out _ k3.out).mono ?_
            rintro e w4 ⟨rfl, k4⟩
            replace pA := Lib.hid (pA.out.below k4)
            replace pB := Lib.hid (pB.out.below k4)
            replace k4 := Lib.hid (btrans k3.out k4)
            clear k3 a0 a1 a2 e0 e1 e2
            have a0 : w4.cell? ⟨W.heap.size, 0, none⟩ = some (.int .i64 s) := pA.out.cell 0
            have a1 : w4.cell? ⟨W.heap.size, 1, none⟩ = some (.slice ai init.length ci) := pA.out.cell 1
            have a2 : w4.cell? ⟨W.heap.size, 2, none⟩ = some (.slice an nodes.length cn) := pA.out.cell 2
            have e0 : w4.cell? ⟨W.heap.size + 1, 0, none⟩ = some (.int .i64 s') := pB.out.cell 0
            have e1 : w4.cell? ⟨W.heap.size + 1, 1, none⟩ = some (.slice bi init'.length di) := pB.out.cell 1
            have e2 : w4.cell? ⟨W.heap.size + 1, 2, none⟩ = some (.slice bn nodes'.length dn) := pB.out.cell 2
            go_wp2_with fail
            refine (SAM.out _ k4.out).mono ?_
            rintro e w5 ⟨rfl, k5⟩
            replace k5 := Lib.hid (btrans k4.out k5)
            clear a0 a1 a2 e0 e1 e2 pA pB k4
            go_wp2_with fail
            refine (works_true _ (hd.out.below k5.out)).mono ?_
            rintro e wz ⟨rfl, hbz⟩
            replace hbz := Lib.hid (btrans k5.out hbz)
            go_wp2
            go_ret
            exact ⟨rfl, hbz.out⟩
        · have hcd : (cb != 0) = true := by simp [h2]
          subst h1
          clear hs h2 SAM
          go_enter Tryd.func7, Tryd.ntmps7
          go_wp2_with fail
          refine (HA.out _ hb0.out).mono ?_
          rintro e w1 ⟨rfl, k1⟩
          have pA := rA.out.below k1
          have pB := rB.out.below k1
          replace k1 := Lib.hid (btrans hb0.out k1)
          clear rA rB hb0
          have a0 : w1.cell? ⟨W.heap.size, 0, none⟩ = some (.int .i64 s) := pA.cell 0
          have a1 : w1.cell? ⟨W.heap.size, 1, none⟩ = some (.slice ai init.length ci) := pA.cell 1
          have a2 : w1.cell? ⟨W.heap.size, 2, none⟩ = some (.slice an nodes.length cn) := pA.cell 2
          have e0 : w1.cell? ⟨W.heap.size + 1, 0, none⟩ = some (.int .i64 s') := pB.cell 0
          have e1 : w1.cell? ⟨W.heap.size + 1, 1, none⟩ = some (.slice bi init'.length di) := pB.cell 1
          have e2 : w1.cell? ⟨W.heap.size + 1, 2, none⟩ = some (.slice bn nodes'.length dn) := pB.cell 2
          replace pA := Lib.hid pA
          replace pB := Lib.hid pB
          go_wp2_with fail
          refine (HB.out _ k1.out).mono ?_
          rintro e w2 ⟨rfl, k2⟩
          replace pA := Lib.hid (pA.out.below k2)
          replace pB := Lib.hid (pB.out.below k2)
          replace k2 := Lib.hid (btrans k1.out k2)
          clear k1 a0 a1 a2 e0 e1 e2
          have a0 : w2.cell? ⟨W.heap.size, 0, none⟩ = some (.int .i64 s) := pA.out.cell 0
          have a1 : w2.cell? ⟨W.heap.size, 1, none⟩ = some (.slice ai init.length ci) := pA.out.cell 1
          have a2 : w2.cell? ⟨W.heap.size, 2, none⟩ = some (.slice an nodes.length cn) := pA.out.cell 2
          have e0 : w2.cell? ⟨W.heap.size + 1, 0, none⟩ = some (.int .i64 s') := pB.out.cell 0
          have e1 : w2.cell? ⟨W.heap.size + 1, 1, none⟩ = some (.slice bi init'.length di) := pB.out.cell 1
          have e2 : w2.cell? ⟨W.heap.size + 1, 2, none⟩ = some (.slice bn nodes'.length dn) := pB.out.cell 2
          go_wp2_with fail
          refine (TA.out _ k2.out).mono ?_
          rintro e w3 ⟨rfl, k3⟩
          replace pA := Lib.hid (pA.out.below k3)
          replace pB := Lib.hid (pB.out.below k3)
          replace k3 := Lib.hid (btrans k2.out k3)
          clear k2 a0 a1 a2 e0 e1 e2
          have a0 : w3.cell? ⟨W.heap.size, 0, none⟩ = some (.int .i64 s) := pA.out.cell 0
          have a1 : w3.cell? ⟨W.heap.size, 1, none⟩ = some (.slice ai init.length ci) := pA.out.cell 1
          have a2 : w3.cell? ⟨W.heap.size, 2, none⟩ = some (.slice an nodes.length cn) := pA.out.cell 2
          have e0 : w3.cell? ⟨W.heap.size + 1, 0, none⟩ = some (.int .i64 s') := pB.out.cell 0
          have e1 : w3.cell? ⟨W.heap.size + 1, 1, none⟩ = some (.slice bi init'.length di) := pB.out.cell 1
          have e2 : w3.cell? ⟨W.heap.size + 1, 2, none⟩ = some (.slice bn nodes'.length dn) := pB.out.cell 2
          go_wp2_with fail
          refine (TB.out _ k3.out).mono ?_
          rintro e w4 ⟨rfl, k4⟩
          replace pA := Lib.hid (pA.out.below k4)
          replace pB := Lib.hid (pB.out.below k4)
          replace k4 := Lib.hid (btrans k3.out k4)
          clear k3 a0 a1 a2 e0 e1 e2
          have a0 : w4.cell? ⟨W.heap.size, 0, none⟩ = some (.int .i64 s) := pA.out.cell 0
          have a1 : w4.cell? ⟨W.heap.size, 1, none⟩ = some (.slice ai init.length ci) := pA.out.cell 1
          have a2 : w4.cell? ⟨W.heap.size, 2, none⟩ = some (.slice an nodes.length cn) := pA.out.cell 2
          have e0 : w4.cell? ⟨W.heap.size + 1, 0, none⟩ = some (.int .i64 s') := pB.out.cell 0
          have e1 : w4.cell? ⟨W.heap.size + 1, 1, none⟩ = some (.slice bi init'.length di) := pB.out.cell 1
          have e2 : w4.cell? ⟨W.heap.size + 1, 2, none⟩ = some (.slice bn nodes'.length dn) := pB.out.cell 2
          clear a0 a1 a2 e0 e1 e2 pA pB
          go_wp2_with fail
          refine (works_true _ (hd.out.below k4.out)).mono ?_
          rintro e wz ⟨rfl, hbz⟩
          replace hbz := Lib.hid (btrans k4.out hbz)
          go_wp2
          go_ret
          exact ⟨rfl, hbz.out⟩
      · have hcd : (ca != 0) = true := by simp [h1]
        clear hs h1 SAM
        go_enter Tryd.func7, Tryd.ntmps7
        go_wp2_with fail
        refine (HA.out _ hb0.out).mono ?_
        rintro e w1 ⟨rfl, k1⟩
        have pA := rA.out.below k1
        have pB := rB.out.below k1
        replace k1 := Lib.hid (btrans hb0.out k1)
        clear rA rB hb0
        have a0 : w1.cell? ⟨W.heap.size, 0, none⟩ = some (.int .i64 s) := pA.cell 0
        have a1 : w1.cell? ⟨W.heap.size, 1, none⟩ = some (.slice ai init.length ci) := pA.cell 1
        have a2 : w1.cell? ⟨W.heap.size, 2, none⟩ = some (.slice an nodes.length cn) := pA.cell 2
        have e0 : w1.cell? ⟨W.heap.size + 1, 0, none⟩ = some (.int .i64 s') := pB.cell 0
        have e1 : w1.cell? ⟨W.heap.size + 1, 1, none⟩ = some (.slice bi init'.length di) := pB.cell 1
        have e2 : w1.cell? ⟨W.heap.size + 1, 2, none⟩ = some (.slice bn nodes'.length dn) := pB.cell 2
        replace pA := Lib.hid pA
        replace pB := Lib.hid pB
        go_wp2_with fail
        refine (HB.out _ k1.out).mono ?_
        rintro e w2 ⟨rfl, k2⟩
        replace pA := Lib.hid (pA.out.below k2)
        replace pB := Lib.hid (pB.out.below k2)
        replace k2 := Lib.hid (btrans k1.out k2)
        clear k1 a0 a1 a2 e0 e1 e2
        have a0 : w2.cell? ⟨W.heap.size, 0, none⟩ = some (.int .i64 s) := pA.out.cell 0
        have a1 : w2.cell? ⟨W.heap.size, 1, none⟩ = some (.slice ai init.length ci) := pA.out.cell 1
        have a2 : w2.cell? ⟨W.heap.size, 2, none⟩ = some (.slice an nodes.length cn) := pA.out.cell 2
        have e0 : w2.cell? ⟨W.heap.size + 1, 0, none⟩ = some (.int .i64 s') := pB.out.cell 0
        have e1 : w2.cell? ⟨W.heap.size + 1, 1, none⟩ = some (.slice bi init'.length di) := pB.out.cell 1
        have e2 : w2.cell? ⟨W.heap.size + 1, 2, none⟩ = some (.slice bn nodes'.length dn) := pB.out.cell 2
        go_wp2_with fail
        refine (TA.out _ k2.out).mono ?_
        rintro e w3 ⟨rfl, k3⟩
        replace pA := Lib.hid (pA.out.below k3)
        replace pB := Lib.hid (pB.out.below k3)
        replace k3 := Lib.hid (btrans k2.out k3)
        clear k2 a0 a1 a2 e0 e1 e2
        have a0 : w3.cell? ⟨W.heap.size, 0, none⟩ = some (.int .i64 s) := pA.out.cell 0
        have a1 : w3.cell? ⟨W.heap.size, 1, none⟩ = some (.slice ai init.length ci) := pA.out.cell 1
        have a2 : w3.cell? ⟨W.heap.size, 2, none⟩ = some (.slice an nodes.length cn) := pA.out.cell 2
        have e0 : w3.cell? ⟨W.heap.size + 1, 0, none⟩ = some (.int .i64 s') := pB.out.cell 0
        have e1 : w3.cell? ⟨W.heap.size + 1, 1, none⟩ = some (.slice bi init'.length di) := pB.out.cell 1
        have e2 : w3.cell? ⟨W.heap.size + 1, 2, none⟩ = some (.slice bn nodes'.length dn) := pB.out.cell 2
        go_wp2_with fail
        refine (TB.out _ k3.out).mono ?_
        rintro e w4 ⟨rfl, k4⟩
        replace pA := Lib.hid (pA.out.below k4)
        replace pB := Lib.hid (pB.out.below k4)
        replace k4 := Lib.hid (btrans k3.out k4)
        clear k3 a0 a1 a2 e0 e1 e2
        have a0 : w4.cell? ⟨W.heap.size, 0, none⟩ = some (.int .i64 s) := pA.out.cell 0
        have a1 : w4.cell? ⟨W.heap.size, 1, none⟩ = some (.slice ai init.length ci) := pA.out.cell 1
        have a2 : w4.cell? ⟨W.heap.size, 2, none⟩ = some (.slice an nodes.length cn) := pA.out.cell 2
        have e0 : w4.cell? ⟨W.heap.size + 1, 0, none⟩ = some (.int .i64 s') := pB.out.cell 0
        have e1 : w4.cell? ⟨W.heap.size + 1, 1, none⟩ = some (.slice bi init'.length di) := pB.out.cell 1
        have e2 : w4.cell? ⟨W.heap.size + 1, 2, none⟩ = some (.slice bn nodes'.length dn) := pB.out.cell 2
        clear a0 a1 a2 e0 e1 e2 pA pB
        go_wp2_with fail
        refine (works_true _ (hd.out.below k4.out)).mono ?_
        rintro e wz ⟨rfl, hbz⟩
        replace hbz := Lib.hid (btrans k4.out hbz)
        go_wp2
        go_ret
        exact ⟨rfl, hbz.out⟩
end Go.Proofs.YtjacphcnanopjaaDoor
