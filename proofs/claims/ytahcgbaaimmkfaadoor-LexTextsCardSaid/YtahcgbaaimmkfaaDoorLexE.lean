/- Tokens of the document's are made of the program's. Conditions: not too many. -/
import Derived.Test.YtahcgbaaimmkfaaDoorLexC
import Derived.Test.YtahcgbaaimmkfaaDoorFree
namespace Go.Proofs.YtahcgbaaimmkfaaDoor
open Go.RowKit
set_option linter.unusedVariables false
set_option linter.unusedSimpArgs false

theorem list_getN {l : List Value} {n : Nat} (h : l.length = n) : l = (List.range n).map fun i => l.getD i undef := by
  refine List.ext_getElem (by simp [h]) fun i h1 h2 => ?_
  simp [List.getD, List.getElem?_eq_getElem h1]
theorem frame36 (arr : Array Value) (h : arr.size = 36) : ∃ q : Nat → Value, arr = #[q 0, q 1, q 2, q 3, q 4, q 5, q 6, q 7, q 8, q 9, q 10, q 11, q 12, q 13, q 14, q 15, q 16, q 17, q 18, q 19, q 20, q 21, q 22, q 23, q 24, q 25, q 26, q 27, q 28, q 29, q 30, q 31, q 32, q 33, q 34, q 35] := by
  refine ⟨fun i => arr.toList.getD i undef, ?_⟩
  have h1 := list_getN (l := arr.toList) (n := 36) (by simpa using h)
  apply Array.ext'
  exact h1

abbrev TRtk : Nat := 34
theorem infoRtk3 : (Tryd.prog.info? TRtk).map (fun i => (i.zero, i.size, i.bytes)) = some (some (.agg #[.int .i64 0, .int .i64 0, .int .i64 0, .string ⟨#[]⟩]), 4, 40) := by kernel_rfl
/-- a slice of one new token -/
def Kp.tok (base : Nat) (l : List Value) : Kp := ⟨fun v w => ∃ g, v = .slice (some ⟨g, 0, none⟩) 1 1 ∧ base ≤ g ∧ RowAt w g TRtk l, fun v w w' h hb => by
  obtain ⟨g, h1, h2, h3⟩ := h
  exact ⟨g, h1, h2, h3.below hb⟩⟩
set_option maxRecDepth 8000 in
set_option maxHeartbeats 8000000 in
theorem back_any (w : World) (a : Option Addr) (c : Nat) (T : List Tk) (ht : TokAt w a T) (hT : T.length ≤ 6000) :
    Calls Tryd.prog 13 #[.slice a T.length c] w fun e w' => (∃ oa oc, e = .returned (.slice oa T.length oc) ∧ OwnR w' w.heap.size TRtk 4 oa T.length oc (tcells T)) ∧ Below w.heap.size w w' := by
  obtain ⟨nt, hnt⟩ : ∃ nt, nt = T.length := ⟨_, rfl⟩
  rw [← hnt]
  have hntI : (nt : Int) ≤ 6000 := by omega
  have hb0 : Hid (Below w.heap.size w w) := Below.refl _ _
  have O0 : Hid (OwnR w w.heap.size TRtk 4 none 0 0 (tcells (T.take 0))) := OwnR.nil _ _ _ _
  replace hnt := Lib.hid hnt
  replace ht := Lib.hid ht
  replace hT := Lib.hid hT
  go_enter Tryd.func13, Tryd.ntmps13
  go_wp2
  go_loopw [3, 4] (fun ov iv wr => ∃ (ix : Nat) (oa : Option Addr) (oc : Nat), ov = .slice oa ix oc ∧ iv = .int .i64 (ix : Int) ∧ ix ≤ nt ∧ Hid (OwnR wr w.heap.size TRtk 4 oa ix oc (tcells (T.take ix))) ∧ Hid (Below w.heap.size w wr)) (fun _ iv _ => nt - (intOf iv).toNat)
  case atStart => exact ⟨0, none, 0, rfl, rfl, Nat.zero_le _, O0, hb0⟩
  case round =>
    obtain ⟨ix, oa, oc, rfl, rfl, hi, own, zr⟩ := hrel
    clear O0 hb0
    by_cases hl : ix < nt
    · have hlI : (ix : Int) < (nt : Int) := by omega
      have hlT : Hid (ix < T.length) := by show _ < _; have := hnt.out; omega
      obtain ⟨b, o, ea, hbl, hcell⟩ := (ht.out.below zr.out) (by have := hlT.out; omega)
      have SG := hcell ix hlT.out
      have hsn : Hid (tcells (T.take (ix + 1)) = tcells (T.take ix) ++ tkV (T[ix]'hlT.out).kind (T[ix]'hlT.out).n (T[ix]'hlT.out).at_ ⟨(T[ix]'hlT.out).text.toArray⟩) := by
        show _ = _
        rw [List.take_succ_eq_append_getElem hlT.out, tcells_snoc]
      generalize T[ix]'hlT.out = x at SG hsn
      obtain ⟨xk, xn, xa, xt⟩ := x
      dsimp only at SG hsn
      generalize (⟨xt.toArray⟩ : ByteArray) = xs at SG hsn
      subst ea
      replace SG := Lib.hid SG
      clear hcell
      have hnew : RowAt (wr.alloc (.cells #[.int .i64 (xk : Int), .int .i64 xn, .int .i64 (xa : Int), .string xs] TRtk)) wr.heap.size TRtk (tkV xk xn xa xs) := RowAt.new #[.int .i64 (xk : Int), .int .i64 xn, .int .i64 (xa : Int), .string xs] rfl
      clear hnew
      go_upto_region 5 with (fail)
      refine wp_region_kp (by kernel_rfl) 23 [.fix (.slice oa ix oc), .fix (.slice (some ⟨b, o, none⟩) nt c), .fix (.int .i64 (ix : Int)), .fix (.pointer (some ⟨b, o + ix * 4, none⟩)), .fix (.pointer (some ⟨b, o + ix * 4, none⟩)), .fix (.int .i64 (xk : Int)), .fix (.slice (some ⟨b, o, none⟩) nt c), .fix (.int .i64 (ix : Int)), .fix (.pointer (some ⟨b, o + ix * 4, none⟩)), .fix (.pointer (some ⟨b, o + ix * 4 + 1, none⟩)), .fix (.int .i64 xn), .fix (.slice (some ⟨b, o, none⟩) nt c), .fix (.int .i64 (ix : Int)), .fix (.pointer (some ⟨b, o + ix * 4, none⟩)), .fix (.pointer (some ⟨b, o + ix * 4 + 2, none⟩)), .fix (.int .i64 (xa : Int)), .fix (.slice (some ⟨b, o, none⟩) nt c), .fix (.int .i64 (ix : Int)), .fix (.pointer (some ⟨b, o + ix * 4, none⟩)), .fix (.pointer (some ⟨b, o + ix * 4 + 3, none⟩)), .fix (.string xs), .fix (.agg #[.int .i64 (xk : Int), .int .i64 xn, .int .i64 (xa : Int), .string xs]), Kp.tok wr.heap.size (tkV xk xn xa xs)] (by kernel_rfl) (by kernel_rfl) (by kernel_rfl) ?_ ?_
      · intro i hi
        match i, hi with
        | 0, _ =>
          intro o ho ac w' hR hF hD K hK
          simp only [List.getElem?_toArray, List.getElem?_cons_zero, Option.some.injEq] at ho
          subst ho
          have e3 : ac.tmps.getD 3 undef = .slice oa ix oc := hF 3 (notDst_spec (by kernel_rfl))
          have d3 := (Array.getD_eq_getD_getElem? (xs := ac.tmps) (i := 3) (d := undef)).symm.trans e3
          clear hD hF
          go_simp
          exact hK _ _ (Below.refl _ _) rfl
        | 1, _ =>
          intro o ho ac w' hR hF hD K hK
          simp only [List.getElem?_toArray, List.getElem?_cons_zero, List.getElem?_cons_succ, Option.some.injEq] at ho
          subst ho
          have e0 : ac.tmps.getD 0 undef = .slice (some ⟨b, o, none⟩) nt c := hF 0 (notDst_spec (by kernel_rfl))
          have d0 := (Array.getD_eq_getD_getElem? (xs := ac.tmps) (i := 0) (d := undef)).symm.trans e0
          clear hD hF
          go_simp
          exact hK _ _ (Below.refl _ _) rfl
        | 2, _ =>
          intro o ho ac w' hR hF hD K hK
          simp only [List.getElem?_toArray, List.getElem?_cons_zero, List.getElem?_cons_succ, Option.some.injEq] at ho
          subst ho
          have e4 : ac.tmps.getD 4 undef = .int .i64 (ix : Int) := hF 4 (notDst_spec (by kernel_rfl))
          have d4 := (Array.getD_eq_getD_getElem? (xs := ac.tmps) (i := 4) (d := undef)).symm.trans e4
          clear hD hF
          go_simp
          exact hK _ _ (Below.refl _ _) rfl
        | 3, _ =>
          intro o ho ac w' hR hF hD K hK
          simp only [List.getElem?_toArray, List.getElem?_cons_zero, List.getElem?_cons_succ, Option.some.injEq] at ho
          subst ho
          have e12 : ac.tmps.getD 12 undef = .slice (some ⟨b, o, none⟩) nt c := hD 1 (dep_spec (by kernel_rfl)) 12 rfl
          have d12 := (Array.getD_eq_getD_getElem? (xs := ac.tmps) (i := 12) (d := undef)).symm.trans e12
          have e13 : ac.tmps.getD 13 undef = .int .i64 (ix : Int) := hD 2 (dep_spec (by kernel_rfl)) 13 rfl
          have d13 := (Array.getD_eq_getD_getElem? (xs := ac.tmps) (i := 13) (d := undef)).symm.trans e13
          clear hD hF
          go_simp
          exact hK _ _ (Below.refl _ _) rfl
        | 4, _ =>
          intro o ho ac w' hR hF hD K hK
          simp only [List.getElem?_toArray, List.getElem?_cons_zero, List.getElem?_cons_succ, Option.some.injEq] at ho
          subst ho
          have e14 : ac.tmps.getD 14 undef = .pointer (some ⟨b, o + ix * 4, none⟩) := hD 3 (dep_spec (by kernel_rfl)) 14 rfl
          have d14 := (Array.getD_eq_getD_getElem? (xs := ac.tmps) (i := 14) (d := undef)).symm.trans e14
          clear hD hF
          go_simp
          exact hK _ _ (Below.refl _ _) rfl
        | 5, _ =>
          intro o ho ac w' hR hF hD K hK
          simp only [List.getElem?_toArray, List.getElem?_cons_zero, List.getElem?_cons_succ, Option.some.injEq] at ho
          subst ho
          have e15 : ac.tmps.getD 15 undef = .pointer (some ⟨b, o + ix * 4, none⟩) := hD 4 (dep_spec (by kernel_rfl)) 15 rfl
          have d15 := (Array.getD_eq_getD_getElem? (xs := ac.tmps) (i := 15) (d := undef)).symm.trans e15
          clear hD hF
          have q0 : w'.cell? ⟨b, o + ix * 4, none⟩ = some (.int .i64 (xk : Int)) := bcell hR (SG.out 0 _ rfl)
          go_simp
          exact hK _ _ (Below.refl _ _) rfl
        | 6, _ =>
          intro o ho ac w' hR hF hD K hK
          simp only [List.getElem?_toArray, List.getElem?_cons_zero, List.getElem?_cons_succ, Option.some.injEq] at ho
          subst ho
          have e0 : ac.tmps.getD 0 undef = .slice (some ⟨b, o, none⟩) nt c := hF 0 (notDst_spec (by kernel_rfl))
          have d0 := (Array.getD_eq_getD_getElem? (xs := ac.tmps) (i := 0) (d := undef)).symm.trans e0
          clear hD hF
          go_simp
          exact hK _ _ (Below.refl _ _) rfl
        | 7, _ =>
          intro o ho ac w' hR hF hD K hK
          simp only [List.getElem?_toArray, List.getElem?_cons_zero, List.getElem?_cons_succ, Option.some.injEq] at ho
          subst ho
          have e4 : ac.tmps.getD 4 undef = .int .i64 (ix : Int) := hF 4 (notDst_spec (by kernel_rfl))
          have d4 := (Array.getD_eq_getD_getElem? (xs := ac.tmps) (i := 4) (d := undef)).symm.trans e4
          clear hD hF
          go_simp
          exact hK _ _ (Below.refl _ _) rfl
        | 8, _ =>
          intro o ho ac w' hR hF hD K hK
          simp only [List.getElem?_toArray, List.getElem?_cons_zero, List.getElem?_cons_succ, Option.some.injEq] at ho
          subst ho
          have e17 : ac.tmps.getD 17 undef = .slice (some ⟨b, o, none⟩) nt c := hD 6 (dep_spec (by kernel_rfl)) 17 rfl
          have d17 := (Array.getD_eq_getD_getElem? (xs := ac.tmps) (i := 17) (d := undef)).symm.trans e17
          have e18 : ac.tmps.getD 18 undef = .int .i64 (ix : Int) := hD 7 (dep_spec (by kernel_rfl)) 18 rfl
          have d18 := (Array.getD_eq_getD_getElem? (xs := ac.tmps) (i := 18) (d := undef)).symm.trans e18
          clear hD hF
          go_simp
          exact hK _ _ (Below.refl _ _) rfl
        | 9, _ =>
          intro o ho ac w' hR hF hD K hK
          simp only [List.getElem?_toArray, List.getElem?_cons_zero, List.getElem?_cons_succ, Option.some.injEq] at ho
          subst ho
          have e19 : ac.tmps.getD 19 undef = .pointer (some ⟨b, o + ix * 4, none⟩) := hD 8 (dep_spec (by kernel_rfl)) 19 rfl
          have d19 := (Array.getD_eq_getD_getElem? (xs := ac.tmps) (i := 19) (d := undef)).symm.trans e19
          clear hD hF
          go_simp
          exact hK _ _ (Below.refl _ _) rfl
        | 10, _ =>
          intro o ho ac w' hR hF hD K hK
          simp only [List.getElem?_toArray, List.getElem?_cons_zero, List.getElem?_cons_succ, Option.some.injEq] at ho
          subst ho
          have e20 : ac.tmps.getD 20 undef = .pointer (some ⟨b, o + ix * 4 + 1, none⟩) := hD 9 (dep_spec (by kernel_rfl)) 20 rfl
          have d20 := (Array.getD_eq_getD_getElem? (xs := ac.tmps) (i := 20) (d := undef)).symm.trans e20
          clear hD hF
          have q0 : w'.cell? ⟨b, o + ix * 4 + 1, none⟩ = some (.int .i64 xn) := bcell hR (SG.out 1 _ rfl)
          go_simp
          exact hK _ _ (Below.refl _ _) rfl
        | 11, _ =>
          intro o ho ac w' hR hF hD K hK
          simp only [List.getElem?_toArray, List.getElem?_cons_zero, List.getElem?_cons_succ, Option.some.injEq] at ho
          subst ho
          have e0 : ac.tmps.getD 0 undef = .slice (some ⟨b, o, none⟩) nt c := hF 0 (notDst_spec (by kernel_rfl))
          have d0 := (Array.getD_eq_getD_getElem? (xs := ac.tmps) (i := 0) (d := undef)).symm.trans e0
          clear hD hF
          go_simp
          exact hK _ _ (Below.refl _ _) rfl
        | 12, _ =>
          intro o ho ac w' hR hF hD K hK
          simp only [List.getElem?_toArray, List.getElem?_cons_zero, List.getElem?_cons_succ, Option.some.injEq] at ho
          subst ho
          have e4 : ac.tmps.getD 4 undef = .int .i64 (ix : Int) := hF 4 (notDst_spec (by kernel_rfl))
          have d4 := (Array.getD_eq_getD_getElem? (xs := ac.tmps) (i := 4) (d := undef)).symm.trans e4
          clear hD hF
          go_simp
          exact hK _ _ (Below.refl _ _) rfl
        | 13, _ =>
          intro o ho ac w' hR hF hD K hK
          simp only [List.getElem?_toArray, List.getElem?_cons_zero, List.getElem?_cons_succ, Option.some.injEq] at ho
          subst ho
          have e22 : ac.tmps.getD 22 undef = .slice (some ⟨b, o, none⟩) nt c := hD 11 (dep_spec (by kernel_rfl)) 22 rfl
          have d22 := (Array.getD_eq_getD_getElem? (xs := ac.tmps) (i := 22) (d := undef)).symm.trans e22
          have e23 : ac.tmps.getD 23 undef = .int .i64 (ix : Int) := hD 12 (dep_spec (by kernel_rfl)) 23 rfl
          have d23 := (Array.getD_eq_getD_getElem? (xs := ac.tmps) (i := 23) (d := undef)).symm.trans e23
          clear hD hF
          go_simp
          exact hK _ _ (Below.refl _ _) rfl
        | 14, _ =>
          intro o ho ac w' hR hF hD K hK
          simp only [List.getElem?_toArray, List.getElem?_cons_zero, List.getElem?_cons_succ, Option.some.injEq] at ho
          subst ho
          have e24 : ac.tmps.getD 24 undef = .pointer (some ⟨b, o + ix * 4, none⟩) := hD 13 (dep_spec (by kernel_rfl)) 24 rfl
          have d24 := (Array.getD_eq_getD_getElem? (xs := ac.tmps) (i := 24) (d := undef)).symm.trans e24
          clear hD hF
          go_simp
          exact hK _ _ (Below.refl _ _) rfl
        | 15, _ =>
          intro o ho ac w' hR hF hD K hK
          simp only [List.getElem?_toArray, List.getElem?_cons_zero, List.getElem?_cons_succ, Option.some.injEq] at ho
          subst ho
          have e25 : ac.tmps.getD 25 undef = .pointer (some ⟨b, o + ix * 4 + 2, none⟩) := hD 14 (dep_spec (by kernel_rfl)) 25 rfl
          have d25 := (Array.getD_eq_getD_getElem? (xs := ac.tmps) (i := 25) (d := undef)).symm.trans e25
          clear hD hF
          have q0 : w'.cell? ⟨b, o + ix * 4 + 2, none⟩ = some (.int .i64 (xa : Int)) := bcell hR (SG.out 2 _ rfl)
          go_simp
          exact hK _ _ (Below.refl _ _) rfl
        | 16, _ =>
          intro o ho ac w' hR hF hD K hK
          simp only [List.getElem?_toArray, List.getElem?_cons_zero, List.getElem?_cons_succ, Option.some.injEq] at ho
          subst ho
          have e0 : ac.tmps.getD 0 undef = .slice (some ⟨b, o, none⟩) nt c := hF 0 (notDst_spec (by kernel_rfl))
          have d0 := (Array.getD_eq_getD_getElem? (xs := ac.tmps) (i := 0) (d := undef)).symm.trans e0
          clear hD hF
          go_simp
          exact hK _ _ (Below.refl _ _) rfl
        | 17, _ =>
          intro o ho ac w' hR hF hD K hK
          simp only [List.getElem?_toArray, List.getElem?_cons_zero, List.getElem?_cons_succ, Option.some.injEq] at ho
          subst ho
          have e4 : ac.tmps.getD 4 undef = .int .i64 (ix : Int) := hF 4 (notDst_spec (by kernel_rfl))
          have d4 := (Array.getD_eq_getD_getElem? (xs := ac.tmps) (i := 4) (d := undef)).symm.trans e4
          clear hD hF
          go_simp
          exact hK _ _ (Below.refl _ _) rfl
        | 18, _ =>
          intro o ho ac w' hR hF hD K hK
          simp only [List.getElem?_toArray, List.getElem?_cons_zero, List.getElem?_cons_succ, Option.some.injEq] at ho
          subst ho
          have e27 : ac.tmps.getD 27 undef = .slice (some ⟨b, o, none⟩) nt c := hD 16 (dep_spec (by kernel_rfl)) 27 rfl
          have d27 := (Array.getD_eq_getD_getElem? (xs := ac.tmps) (i := 27) (d := undef)).symm.trans e27
          have e28 : ac.tmps.getD 28 undef = .int .i64 (ix : Int) := hD 17 (dep_spec (by kernel_rfl)) 28 rfl
          have d28 := (Array.getD_eq_getD_getElem? (xs := ac.tmps) (i := 28) (d := undef)).symm.trans e28
          clear hD hF
          go_simp
          exact hK _ _ (Below.refl _ _) rfl
        | 19, _ =>
          intro o ho ac w' hR hF hD K hK
          simp only [List.getElem?_toArray, List.getElem?_cons_zero, List.getElem?_cons_succ, Option.some.injEq] at ho
          subst ho
          have e29 : ac.tmps.getD 29 undef = .pointer (some ⟨b, o + ix * 4, none⟩) := hD 18 (dep_spec (by kernel_rfl)) 29 rfl
          have d29 := (Array.getD_eq_getD_getElem? (xs := ac.tmps) (i := 29) (d := undef)).symm.trans e29
          clear hD hF
          go_simp
          exact hK _ _ (Below.refl _ _) rfl
        | 20, _ =>
          intro o ho ac w' hR hF hD K hK
          simp only [List.getElem?_toArray, List.getElem?_cons_zero, List.getElem?_cons_succ, Option.some.injEq] at ho
          subst ho
          have e30 : ac.tmps.getD 30 undef = .pointer (some ⟨b, o + ix * 4 + 3, none⟩) := hD 19 (dep_spec (by kernel_rfl)) 30 rfl
          have d30 := (Array.getD_eq_getD_getElem? (xs := ac.tmps) (i := 30) (d := undef)).symm.trans e30
          clear hD hF
          have q0 : w'.cell? ⟨b, o + ix * 4 + 3, none⟩ = some (.string xs) := bcell hR (SG.out 3 _ rfl)
          go_simp
          exact hK _ _ (Below.refl _ _) rfl
        | 21, _ =>
          intro o ho ac w' hR hF hD K hK
          simp only [List.getElem?_toArray, List.getElem?_cons_zero, List.getElem?_cons_succ, Option.some.injEq] at ho
          subst ho
          have e16 : ac.tmps.getD 16 undef = .int .i64 (xk : Int) := hD 5 (dep_spec (by kernel_rfl)) 16 rfl
          have d16 := (Array.getD_eq_getD_getElem? (xs := ac.tmps) (i := 16) (d := undef)).symm.trans e16
          have e21 : ac.tmps.getD 21 undef = .int .i64 xn := hD 10 (dep_spec (by kernel_rfl)) 21 rfl
          have d21 := (Array.getD_eq_getD_getElem? (xs := ac.tmps) (i := 21) (d := undef)).symm.trans e21
          have e26 : ac.tmps.getD 26 undef = .int .i64 (xa : Int) := hD 15 (dep_spec (by kernel_rfl)) 26 rfl
          have d26 := (Array.getD_eq_getD_getElem? (xs := ac.tmps) (i := 26) (d := undef)).symm.trans e26
          have e31 : ac.tmps.getD 31 undef = .string xs := hD 20 (dep_spec (by kernel_rfl)) 31 rfl
          have d31 := (Array.getD_eq_getD_getElem? (xs := ac.tmps) (i := 31) (d := undef)).symm.trans e31
          clear hD hF
          go_simp
          exact hK _ _ (Below.refl _ _) rfl
        | 22, _ =>
          intro o ho ac w' hR hF hD K hK
          simp only [List.getElem?_toArray, List.getElem?_cons_zero, List.getElem?_cons_succ, Option.some.injEq] at ho
          subst ho
          have e32 : ac.tmps.getD 32 undef = .agg #[.int .i64 (xk : Int), .int .i64 xn, .int .i64 (xa : Int), .string xs] := hD 21 (dep_spec (by kernel_rfl)) 32 rfl
          have d32 := (Array.getD_eq_getD_getElem? (xs := ac.tmps) (i := 32) (d := undef)).symm.trans e32
          clear hD hF
          go_simp
          exact hK _ _ (balloc (Below.refl _ _) _) ⟨w'.heap.size, rfl, hR.size, RowAt.new #[.int .i64 (xk : Int), .int .i64 xn, .int .i64 (xa : Int), .string xs] rfl⟩
        | k + 23, hk => omega
      · rintro ⟨tm, df⟩ w5 hdf hsz hF hR9 hV
        obtain rfl : df = [] := hdf
        obtain ⟨q, rfl⟩ := frame36 tm hsz
        obtain ⟨g7, k33, hg7, r7⟩ := hV 22 33 (by decide) rfl
        replace k33 : q 33 = _ := k33
        have k11 : q 11 = .slice oa ix oc := hV 0 11 (by decide) rfl
        rw [k33, k11]
        clear k33 k11
        have k0 := hF 0 (notDst_spec (by kernel_rfl))
        have k1 := hF 1 (notDst_spec (by kernel_rfl))
        have k2 := hF 2 (notDst_spec (by kernel_rfl))
        have k3 := hF 3 (notDst_spec (by kernel_rfl))
        have k4 := hF 4 (notDst_spec (by kernel_rfl))
        have k5 := hF 5 (notDst_spec (by kernel_rfl))
        have k6 := hF 6 (notDst_spec (by kernel_rfl))
        have k7 := hF 7 (notDst_spec (by kernel_rfl))
        have k8 := hF 8 (notDst_spec (by kernel_rfl))
        have k9 := hF 9 (notDst_spec (by kernel_rfl))
        have k10 := hF 10 (notDst_spec (by kernel_rfl))
        have k34 := hF 34 (notDst_spec (by kernel_rfl))
        have k35 := hF 35 (notDst_spec (by kernel_rfl))
        simp only [Array.getD_eq_getD_getElem?, List.getElem?_toArray, List.getElem?_cons_succ, List.getElem?_cons_zero, Option.getD_some] at k0 k1 k2 k3 k4 k5 k6 k7 k8 k9 k10 k34 k35
        simp only [k0, k1, k2, k3, k4, k5, k6, k7, k8, k9, k10, k34, k35]
        clear k0 k1 k2 k3 k4 k5 k6 k7 k8 k9 k10 k34 k35
        clear hF hV hsz
        have own5 : OwnR w5 w.heap.size TRtk 4 oa ix oc (tcells (T.take ix)) := OwnR.keeps (S := fun _ => False) own.out (Keeps.of_below hR9) (fun _ _ h => h)
        have z5 := Lib.hid (btrans zr.out hR9)
        clear hR9 SG hbl own zr hg7
        change wpAny _ _ _ _ 2 _ _ _
        refine wpAny_ready (rs := [23]) (by kernel_rfl) (by simp) ?_
        refine AllReady.cons (i := 23) rfl (fun K hK => ?_) AllReady.nil
        refine step_appR rfl (.tmp 11) (.tmp 33) 27 TRtk (.agg #[.int .i64 0, .int .i64 0, .int .i64 0, .string ⟨#[]⟩]) 4 40 rfl Tryd.underlying27 infoRtk3 rfl (by decide) w.heap.size oa ix oc (tcells (T.take ix)) rfl own5 g7 1 (tkV xk xn xa xs) rfl rfl (fun j u hj => by
          have := r7.cell j
          rw [hj] at this
          rw [add_off, Nat.zero_add]
          exact this) (tkV_one _ _ _ _) (by have := hT.out; have := hlT.out; unfold maxLen; omega) (by have := hT.out; have := hlT.out; omega) z5.out.size ?_
        intro oa8 oc8 w8 own8 hg8 _
        have z8 := Lib.hid (bgrown z5.out hg8 (fun k hk => (OwnR.lt own5 hk).1))
        have own9 : Hid (OwnR w8 w.heap.size TRtk 4 oa8 (ix + 1) oc8 (tcells (T.take (ix + 1)))) := by rw [hsn.out]; exact own8
        clear own8 hg8 own5 r7 hsn
        refine hK _ _ ?_
        clear hK K
        refine wpAny_ready (rs := [24]) (by kernel_rfl) (by simp) ?_
        refine AllReady.cons (i := 24) rfl (fun K hK => ?_) AllReady.nil
        go_simp
        refine hK _ _ ?_
        clear hK K
        refine ⟨by kernel_rfl, ?_⟩
        go_wp2
        go_roundw
        case rel => exact ⟨ix + 1, oa8, oc8, rfl, rfl, by omega, own9, z8⟩
        case measure => simp [intOf]; omega
    · obtain rfl : ix = nt := by omega
      have hlI : ¬ (ix : Int) < (ix : Int) := by omega
      have hall : Hid (T.take ix = T) := List.take_of_length_le (by have := hnt.out; omega)
      rw [hall.out] at own
      go_wp2
      go_ret
      exact ⟨⟨oa, oc, rfl, own.out⟩, zr.out⟩
end Go.Proofs.YtahcgbaaimmkfaaDoor
