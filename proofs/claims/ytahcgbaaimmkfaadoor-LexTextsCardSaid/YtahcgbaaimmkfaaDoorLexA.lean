/- The law's own small sentence, walked. Conditions: what the listed variables hold. -/
import Derived.Test.YtahcgbaaimmkfaaDoorLexX
namespace Go.Proofs.YtahcgbaaimmkfaaDoor
open Go.RowKit
set_option linter.unusedVariables false

def tA : List Tk := [⟨1, 0, 0, [120]⟩, ⟨3, 0, 1, [58, 61]⟩, ⟨1, 0, 3, [121]⟩, ⟨3, 0, 4, [43]⟩, ⟨2, 12, 5, [49, 50]⟩]
theorem awA1 : scanLex [120, 58, 61, 121, 43, 49, 50, 32, 35, 32, 110, 111] = ⟨tA, 0, 0⟩ := by kernel_rfl
theorem awA2 : scanLex [97, 32, 61, 32, 98] = ⟨[], 2, 13⟩ := by kernel_rfl
theorem awA3 : scanLex [48, 48, 55] = ⟨[], 0, 10⟩ := by kernel_rfl
theorem awN1 : nameP [97, 95, 49] = true := by kernel_rfl
theorem awN2 : nameP [115, 101, 108, 102] = false := by kernel_rfl
theorem awN3 : nameP [49, 97] = false := by kernel_rfl
theorem awT1 : joinT (tA.map tellT) = [120, 32, 58, 61, 32, 121, 32, 43, 32, 49, 50] := by kernel_rfl
theorem nameC (w : World) (hd : Door w) (l : List UInt8) (hl : l.length ≤ 100) (b : Bool) (hb : nameP l = b) :
    Calls Tryd.prog 17 #[.string ⟨l.toArray⟩] w fun e w' => e = .returned (.bool b) ∧ Below w.heap.size w w' := by
  subst hb
  exact name_any w hd ⟨l.toArray⟩ (by show l.toArray.size ≤ _; rw [List.size_toArray]; omega)
theorem scanC (w : World) (hd : Door w) (l : List UInt8) (hl : l.length ≤ 100) (r : ScR) (hr : scanLex l = r) :
    Calls Tryd.prog 10 #[.string ⟨l.toArray⟩] w fun e w' => ScanV w.heap.size r e w' ∧ Below w.heap.size w w' := by
  subst hr
  exact scan_any w hd ⟨l.toArray⟩ (by show l.toArray.size ≤ _; rw [List.size_toArray]; omega)
set_option maxRecDepth 8000 in
set_option maxHeartbeats 8000000 in
theorem awake_true (w : World) (hd : Door w) : Calls Tryd.prog 9 #[] w fun e w' => e = .returned (.bool true) ∧ Below w.heap.size w w' := by
  have S1 := Lib.hid (scanC w hd [120, 58, 61, 121, 43, 49, 50, 32, 35, 32, 110, 111] (by decide) _ awA1)
  have S2 := Lib.hid (fun v (hb : Below w.heap.size w v) => scanC v (hd.below hb) [97, 32, 61, 32, 98] (by decide) _ awA2)
  have S3 := Lib.hid (fun v (hb : Below w.heap.size w v) => scanC v (hd.below hb) [48, 48, 55] (by decide) _ awA3)
  have M1 := Lib.hid (fun v (hb : Below w.heap.size w v) => nameC v (hd.below hb) [97, 95, 49] (by decide) _ awN1)
  have M2 := Lib.hid (fun v (hb : Below w.heap.size w v) => nameC v (hd.below hb) [115, 101, 108, 102] (by decide) _ awN2)
  have M3 := Lib.hid (fun v (hb : Below w.heap.size w v) => nameC v (hd.below hb) [49, 97] (by decide) _ awN3)
  have TX : Hid (∀ v a c, Below w.heap.size w v → TokAt v a tA → Calls Tryd.prog 14 #[.slice a 5 c] v fun e w' => e = .returned (.string ⟨#[120, 32, 58, 61, 32, 121, 32, 43, 32, 49, 50]⟩) ∧ Below v.heap.size v w') := fun v a c hb ht => by
    have h := text_any v (hd.below hb) a c tA ht (by decide) (by
      intro t ht
      simp only [tA, List.mem_cons, List.not_mem_nil, or_false] at ht
      rcases ht with rfl | rfl | rfl | rfl | rfl <;> decide) (by rw [awT1]; decide)
    rw [awT1] at h
    exact h
  clear hd
  go_enter Tryd.func9, Tryd.ntmps9
  go_wp2_with fail
  refine S1.out.mono ?_
  rintro e w1 ⟨⟨oa, oc, rfl, own⟩, hb1⟩
  have z1 := Lib.hid hb1
  replace own := Lib.hid own
  clear hb1 S1
  dsimp only
  go_wp2_with fail
  refine (S2.out w1 z1.out).mono ?_
  rintro e w2 ⟨⟨oa2, oc2, rfl, _⟩, hb2⟩
  have z2 := Lib.hid (btrans z1.out hb2)
  have k12 := Lib.hid hb2
  clear hb2 S2
  dsimp only
  go_wp2_with fail
  refine (S3.out w2 z2.out).mono ?_
  rintro e w3 ⟨⟨oa3, oc3, rfl, _⟩, hb3⟩
  have z3 := Lib.hid (btrans z2.out hb3)
  have k13 := Lib.hid (btrans k12.out hb3)
  clear hb3 S3 k12 z1 z2
  dsimp only
  have TA := Lib.hid (fun v (hb : Below w3.heap.size w3 v) => (TokAt.of_own own.out).below (btrans k13.out hb))
  obtain ⟨g, e, _, hgl⟩ := OwnR.addr own.out (by decide)
  subst e
  have CL : Hid (∀ j, j < 20 → w3.cell? ⟨g, j, none⟩ = (tcells tA)[j]?) := fun j hj => by
    rw [k13.out.cell hgl]
    exact OwnR.cell own.out j hj
  have c4 : w3.cell? ⟨g, 4, none⟩ = some (.int .i64 3) := CL.out 4 (by decide)
  have c5 : w3.cell? ⟨g, 5, none⟩ = some (.int .i64 0) := CL.out 5 (by decide)
  have c6 : w3.cell? ⟨g, 6, none⟩ = some (.int .i64 1) := CL.out 6 (by decide)
  have c7 : w3.cell? ⟨g, 7, none⟩ = some (.string ⟨#[58, 61]⟩) := CL.out 7 (by decide)
  have c16 : w3.cell? ⟨g, 16, none⟩ = some (.int .i64 2) := CL.out 16 (by decide)
  have c17 : w3.cell? ⟨g, 17, none⟩ = some (.int .i64 12) := CL.out 17 (by decide)
  have c18 : w3.cell? ⟨g, 18, none⟩ = some (.int .i64 5) := CL.out 18 (by decide)
  have c19 : w3.cell? ⟨g, 19, none⟩ = some (.string ⟨#[49, 50]⟩) := CL.out 19 (by decide)
  replace hgl := Lib.hid hgl
  clear CL own k13
  rw [show tA.length = 5 from rfl]
  go_wp2_with fail
  refine (M1.out w3 z3.out).mono ?_
  rintro e w4 ⟨rfl, hb4⟩
  have y4 := Lib.hid hb4
  have z4 := Lib.hid (btrans z3.out hb4)
  clear hb4 M1 c4 c5 c6 c7 c16 c17 c18 c19
  go_wp2_with fail
  refine (M2.out w4 z4.out).mono ?_
  rintro e w5 ⟨rfl, hb5⟩
  have y5 := Lib.hid (btrans y4.out hb5)
  have z5 := Lib.hid (btrans z4.out hb5)
  clear hb5 M2 y4 z4
  go_wp2_with fail
  refine (M3.out w5 z5.out).mono ?_
  rintro e w6 ⟨rfl, hb6⟩
  have y6 := Lib.hid (btrans y5.out hb6)
  have z6 := Lib.hid (btrans z5.out hb6)
  clear hb6 M3 y5 z5
  go_wp2_with fail
  refine (TX.out w6 _ _ z6.out (TA.out w6 y6.out)).mono ?_
  rintro e w7 ⟨rfl, hb7⟩
  have z7 := Lib.hid (btrans z6.out hb7)
  clear hb7 TX TA
  go_wp2
  go_ret
  exact ⟨rfl, z7.out⟩
end Go.Proofs.YtahcgbaaimmkfaaDoor
