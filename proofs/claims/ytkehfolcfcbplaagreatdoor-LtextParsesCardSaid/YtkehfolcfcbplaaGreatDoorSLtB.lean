/- The law's own small sentence, walked. Conditions: what the listed variables hold. -/
import Derived.Test.YtkehfolcfcbplaaGreatDoorSLtA
namespace Go.Proofs.YtkehfolcfcbplaaGreatDoor
open Go.RowKit
set_option linter.unusedVariables false
set_option linter.unusedSimpArgs false
def nA : List (List UInt8) := [[112], [113], [114]]
def fA : List Nd := [(3, 0), (3, 1), (11, 0), (7, 0), (12, 0)]
def s1A : List UInt8 := [71, 32, 40, 112, 32, 61, 62, 32, 70, 32, 113, 41]
def s2A : List UInt8 := [112, 32, 85, 32, 40, 113, 32, 85, 32, 114, 41]
def s3A : List UInt8 := [112, 32, 85]
def s4A : List UInt8 := [112, 32, 38, 38, 32, 115]
set_option maxRecDepth 8000 in
theorem awX1 : textP fA nA = (s1A, 0) := by kernel_rfl
theorem awE1 : (scanLex s1A).e = 0 := by kernel_rfl
theorem awE2 : (scanLex s2A).e = 0 := by kernel_rfl
theorem awE3 : (scanLex s3A).e = 0 := by kernel_rfl
theorem awE4 : (scanLex s4A).e = 0 := by kernel_rfl
def runP (L : List UInt8) (N : List (List UInt8)) : Option (List Nd × Nat × Nat) := (prs 100 (.joint 1) (clsL N (scanLex L).toks)).map (resP L N (scanLex L).toks)
theorem run_parse {L : List UInt8} {N : List (List UInt8)} {o : List Nd × Nat × Nat} (h0 : (scanLex L).e = 0) (h : runP L N = some o) : ParseR L N o := by
 unfold ParseR
 rw [if_pos h0]
 unfold runP at h
 rw [Option.map_eq_some_iff] at h
 obtain ⟨R, h1, h2⟩ := h
 exact ⟨R, ⟨_, h1⟩, h2.symm⟩
theorem awP1 : runP s1A nA = some (fA, 0, 0) := by kernel_rfl
theorem awP2 : runP s2A nA = some ([], 4, 13) := by kernel_rfl
theorem awP3 : runP s3A nA = some ([], 3, 4) := by kernel_rfl
theorem awP4 : runP s4A nA = some ([], 5, 8) := by kernel_rfl
theorem parseC (v : World) (hd : Door v) (na : Option Addr) (hN : StrsAt v na nA) (L : List UInt8) (hL : L.length ≤ 100) (o : List Nd × Nat × Nat) (h0 : (scanLex L).e = 0) (h : runP L nA = some o) :
  Calls Tryz.prog 6 #[.string ⟨L.toArray⟩, .slice na 3 3] v fun e w' => ∃ oa oc, e = .returned (.tuple #[.slice oa o.1.length oc, .int .i64 (o.2.1 : Int), .int .i64 (o.2.2 : Int)]) ∧ NdAt w' oa o.1 ∧ Below v.heap.size v w' :=
 (parse_form v hd ⟨L.toArray⟩ (by show L.toArray.size ≤ _; rw [List.size_toArray]; omega) na 3 nA hN (by decide) (by decide) (by decide) o (run_parse h0 h)).mono fun e w' ⟨oa, oc, h1, h2, h3⟩ => ⟨oa, oc, h1, NdAt.of_own h2, h3⟩
set_option maxRecDepth 12000 in
set_option maxHeartbeats 16000000 in
theorem awake_true (w : World) (hd : Door w) : Calls Tryz.prog 5 #[] w fun e w' => e = .returned (.bool true) ∧ Below w.heap.size w w' := by
 obtain ⟨w1, hw1⟩ : ∃ w1, w1 = w.alloc (.cells #[.string ⟨#[112]⟩, .string ⟨#[113]⟩, .string ⟨#[114]⟩] 9) := ⟨_, rfl⟩
 obtain ⟨w2, hw2⟩ : ∃ w2, w2 = w1.alloc (.cells #[.int .i64 3, .int .i64 0, .int .i64 3, .int .i64 1, .int .i64 11, .int .i64 0, .int .i64 7, .int .i64 0, .int .i64 12, .int .i64 0] TNd) := ⟨_, rfl⟩
 obtain ⟨gn, hgn⟩ : ∃ gn, gn = w.heap.size := ⟨_, rfl⟩
 obtain ⟨gf, hgf⟩ : ∃ gf, gf = w.heap.size + 1 := ⟨_, rfl⟩
 have s1 : w1.heap.size = w.heap.size + 1 := by rw [hw1]; simp
 have b1 : Below w.heap.size w w1 := by rw [hw1]; exact balloc (Below.refl _ _) _
 have b2 : Below w1.heap.size w1 w2 := by rw [hw2]; exact balloc (Below.refl _ _) _
 have b02 := btrans b1 b2
 have hd2 := hd.below b02
 have rn : RowAt w2 gn 9 [.string ⟨#[112]⟩, .string ⟨#[113]⟩, .string ⟨#[114]⟩] := by
  have : RowAt w1 gn 9 [.string ⟨#[112]⟩, .string ⟨#[113]⟩, .string ⟨#[114]⟩] := by rw [hw1]; exact RowAt.new #[.string ⟨#[112]⟩, .string ⟨#[113]⟩, .string ⟨#[114]⟩] hgn
  exact this.below b2
 have rf : RowAt w2 gf TNd [.int .i64 3, .int .i64 0, .int .i64 3, .int .i64 1, .int .i64 11, .int .i64 0, .int .i64 7, .int .i64 0, .int .i64 12, .int .i64 0] := by rw [hw2]; exact RowAt.new #[.int .i64 3, .int .i64 0, .int .i64 3, .int .i64 1, .int .i64 11, .int .i64 0, .int .i64 7, .int .i64 0, .int .i64 12, .int .i64 0] (by rw [hgf, s1])
 have hN2 : StrsAt w2 (some ⟨gn, 0, none⟩) nA := fun _ => ⟨gn, 0, rfl, fun i hi => by
  rw [Nat.zero_add, rn.cell i]
  match i, hi with
  | 0, _ => rfl
  | 1, _ => rfl
  | 2, _ => rfl⟩
 have hF2 : NdAt w2 (some ⟨gf, 0, none⟩) fA := fun _ => ⟨gf, 0, rfl, fun i hi => by
  rw [Nat.zero_add, rf.cell, rf.cell]
  match i, hi with
  | 0, _ => exact ⟨rfl, rfl⟩
  | 1, _ => exact ⟨rfl, rfl⟩
  | 2, _ => exact ⟨rfl, rfl⟩
  | 3, _ => exact ⟨rfl, rfl⟩
  | 4, _ => exact ⟨rfl, rfl⟩⟩
 have TX := text_form w2 hd2 _ 5 fA hF2 (by decide) _ 3 nA hN2 (by decide) (by decide) (by decide)
 rw [awX1] at TX
 replace TX := Lib.hid TX
 have P1 := Lib.hid (fun v (hb : Below w2.heap.size w2 v) => parseC v (hd2.below hb) _ (hN2.below hb) s1A (by decide) _ awE1 awP1)
 have P2 := Lib.hid (fun v (hb : Below w2.heap.size w2 v) => parseC v (hd2.below hb) _ (hN2.below hb) s2A (by decide) _ awE2 awP2)
 have P3 := Lib.hid (fun v (hb : Below w2.heap.size w2 v) => parseC v (hd2.below hb) _ (hN2.below hb) s3A (by decide) _ awE3 awP3)
 have P4 := Lib.hid (fun v (hb : Below w2.heap.size w2 v) => parseC v (hd2.below hb) _ (hN2.below hb) s4A (by decide) _ awE4 awP4)
 have NO : Hid (∀ v oa oc, Below w2.heap.size w2 v → NdAt v oa fA → Calls Tryz.prog 8 #[.slice (some ⟨gf, 0, none⟩) 5 5, .slice oa 5 oc] v fun e w' => e = .returned (.bool true) ∧ Below v.heap.size v w') := fun v oa oc hb ha =>
  (nodes_any v (some ⟨gf, 0, none⟩) oa 5 oc fA fA (hF2.below hb) ha (by decide) (by decide)).mono fun e w' ⟨h1, h2⟩ => ⟨by rw [h1, decide_eq_true rfl], h2.below _⟩
 replace hw1 := Lib.hid hw1
 replace hw2 := Lib.hid hw2
 replace hgn := Lib.hid hgn
 replace hgf := Lib.hid hgf
 replace b02 := Lib.hid b02
 clear hd s1 b1 b2 hd2 rn rf hN2 hF2
 go_enter Tryz.func5, Tryz.ntmps5
 go_upto_region 3 with (fail)
 rw [← hw1.out, ← hw2.out, ← hgf.out, ← hgn.out]
 go_wp2_with fail
 refine TX.out.mono ?_
 rintro e v1 ⟨rfl, hb1⟩
 have z1 := Lib.hid hb1
 clear hb1 TX
 go_wp2_with fail
 refine (P1.out v1 z1.out).mono ?_
 rintro e v2 ⟨oa2, oc2, rfl, nd2, hb2⟩
 have z2 := Lib.hid (btrans z1.out hb2)
 have ND2 : Hid (∀ v, Below v2.heap.size v2 v → NdAt v oa2 fA) := fun v hv => nd2.below hv
 clear hb2 P1 nd2
 dsimp only
 rw [show fA.length = 5 from rfl]
 go_wp2_with fail
 refine (P2.out v2 z2.out).mono ?_
 rintro e v3 ⟨oa3, oc3, rfl, _, hb3⟩
 have z3 := Lib.hid (btrans z2.out hb3)
 have k3 := Lib.hid hb3
 clear hb3 P2
 dsimp only
 go_wp2_with fail
 refine (P3.out v3 z3.out).mono ?_
 rintro e v4 ⟨oa4, oc4, rfl, _, hb4⟩
 have z4 := Lib.hid (btrans z3.out hb4)
 have k4 := Lib.hid (btrans k3.out hb4)
 clear hb4 P3
 dsimp only
 go_wp2_with fail
 refine (P4.out v4 z4.out).mono ?_
 rintro e v5 ⟨oa5, oc5, rfl, _, hb5⟩
 have z5 := Lib.hid (btrans z4.out hb5)
 have k5 := Lib.hid (btrans k4.out hb5)
 clear hb5 P4
 dsimp only
 have N5 := Lib.hid (NO.out v5 oa2 oc2 z5.out (ND2.out v5 k5.out))
 go_wp2_with fail
 refine N5.out.mono ?_
 rintro e v6 ⟨rfl, hb6⟩
 have z6 := Lib.hid (btrans z5.out hb6)
 clear hb6 N5
 go_wp2
 go_ret
 exact ⟨rfl, btrans b02.out z6.out⟩
end Go.Proofs.YtkehfolcfcbplaaGreatDoor
