/- The walk of sim.Direct. Conditions: the bounds that an argument brings along. -/
import Derived.Test.YtnllgigolfakpaaSimDirSt
import Derived.Test.YtnllgigolfakpaaAutoChk3
import Derived.WalkMore
import Derived.Deep.RegionHeld3
namespace Go.Proofs.Ytnllgigolfakpaa
open Go.RowKit

theorem list_get {l : List Value} {n : Nat} (h : l.length = n) : l = (List.range n).map fun i => l.getD i undef := by
  refine List.ext_getElem (by simp [h]) fun i h1 h2 => ?_
  simp [List.getD, List.getElem?_eq_getElem h1]
theorem frame117 (arr : Array Value) (h : arr.size = 117) : ∃ q : Nat → Value, arr = #[q 0, q 1, q 2, q 3, q 4, q 5, q 6, q 7, q 8, q 9, q 10, q 11, q 12, q 13, q 14, q 15, q 16, q 17, q 18, q 19, q 20, q 21, q 22, q 23, q 24, q 25, q 26, q 27, q 28, q 29, q 30, q 31, q 32, q 33, q 34, q 35, q 36, q 37, q 38, q 39, q 40, q 41, q 42, q 43, q 44, q 45, q 46, q 47, q 48, q 49, q 50, q 51, q 52, q 53, q 54, q 55, q 56, q 57, q 58, q 59, q 60, q 61, q 62, q 63, q 64, q 65, q 66, q 67, q 68, q 69, q 70, q 71, q 72, q 73, q 74, q 75, q 76, q 77, q 78, q 79, q 80, q 81, q 82, q 83, q 84, q 85, q 86, q 87, q 88, q 89, q 90, q 91, q 92, q 93, q 94, q 95, q 96, q 97, q 98, q 99, q 100, q 101, q 102, q 103, q 104, q 105, q 106, q 107, q 108, q 109, q 110, q 111, q 112, q 113, q 114, q 115, q 116] := by
  refine ⟨fun i => arr.toList.getD i undef, ?_⟩
  have h1 := list_get (l := arr.toList) (n := 117) (by simpa using h)
  apply Array.ext'
  exact h1
/-- what holds where the search begins anew -/
def DJ (W : World) (A : AU) (ai an : Option Addr) (ci cn : Nat) (a : Act) (w' : World) : Prop := ∃ (g : Nat) (R : Nat → Nat → Bool), a.defers = [] ∧ a.tmps.size = 117 ∧ a.tmps.getD 0 undef = .agg #[.int .i64 A.sets, .slice ai A.init.length ci, .slice an A.nodes.length cn] ∧ a.tmps.getD 1 undef = .pointer (some ⟨W.heap.size, 0, none⟩) ∧ a.tmps.getD 2 undef = .slice none 0 0 ∧ a.tmps.getD 3 undef = .int .i64 (A.nodes.length : Int) ∧ a.tmps.getD 4 undef = .slice (some ⟨g, 0, none⟩) A.nodes.length A.nodes.length ∧ DirSt W w' g A ai an ci cn R

set_option maxRecDepth 100000 in
set_option maxHeartbeats 8000000 in
theorem direct_any (W : World) (ai an : Option Addr) (ci cn : Nat) (A : AU) (h : AuAt W ai A.init.length an A.nodes.length A) (ok : AuOk A) :
    Calls Try.prog 11 #[.agg #[.int .i64 A.sets, .slice ai A.init.length ci, .slice an A.nodes.length cn]] W (GivesDir W A) := by
  have hb0 : Below W.heap.size W (W.alloc (.cells #[.int .i64 A.sets, .slice ai A.init.length ci, .slice an A.nodes.length cn] AUT)) := balloc (Below.refl _ _) _
  have r1 := Lib.hid (RowAt.new (w := W) (T := AUT) #[.int .i64 A.sets, .slice ai A.init.length ci, .slice an A.nodes.length cn] rfl)
  have CK := check_any _ ai an ci cn A (h.below hb0) ok
  by_cases hc : chk A ≠ 0
  · have hcb : (chk A != 0) = true := by simpa using hc
    have hD : Hid (DirOf A []) := .inl ⟨hc, rfl⟩
    generalize chk A = why at hcb CK
    replace CK := Lib.hid CK
    clear hc h ok
    go_enter Try.func11, Try.ntmps11
    go_wp2
    go_step3
    go_wp2_with fail
    refine CK.out.mono ?_
    rintro e w1 ⟨rfl, hb1⟩
    go_wp2
    rw [Exit.noGoto_ret]
    go_ret
    exact ⟨none, 0, [], rfl, hD.out, RowsAt.nil _ _, btrans hb0 hb1⟩
  have hc : chk A = 0 := by simpa using hc
  rw [hc] at CK
  have FOL := Lib.hid (fun wr (hb : Below W.heap.size W wr) g (R : Nat → Nat → Bool) (hm : MatAt wr g A.nodes.length R) i k hi hk => follows_any wr ai an A.init.length ci cn A (h.nodes.below hb) ok hc g A.nodes.length R hm i k hi hk)
  have hn := (chk_good hc).1
  have hn2 : (A.nodes.length : Int) ≤ 256 := by omega
  have hsn : Hid (A.sets = ((sN A : Nat) : Int) ∧ sN A ≤ 16) := by
    have h1 := chk_good hc
    unfold sN
    exact ⟨by omega, by omega⟩
  replace CK := Lib.hid CK
  replace hc := Lib.hid hc
  replace hn := Lib.hid hn
  replace hb0 := Lib.hid hb0
  have HA := Lib.hid h
  clear h
  go_enter Try.func11, Try.ntmps11
  go_wp2
  refine wp_scope_once 0 (DJ W A ai an ci cn) (Dmu A.nodes.length) rfl ?_ ?_
  · rintro ⟨tm, df⟩ w' ⟨g, R0, hdf, hsz, e0, e1, e2, e3, e4, st0⟩
    obtain rfl : df = [] := hdf
    obtain ⟨q, hq⟩ := frame117 tm hsz
    subst hq
    have k0 : q 0 = _ := e0
    have k1 : q 1 = _ := e1
    have k2 : q 2 = _ := e2
    have k3 : q 3 = _ := e3
    have k4 : q 4 = _ := e4
    rw [k0, k1, k2, k3, k4]
    clear e0 e1 e2 e3 e4 k0 k1 k2 k3 k4 hsz
    have hmu : Dmu A.nodes.length { tmps := #[.agg #[.int .i64 A.sets, .slice ai A.init.length ci, .slice an A.nodes.length cn], .pointer (some ⟨W.heap.size, 0, none⟩), .slice none 0 0, .int .i64 (A.nodes.length : Int), .slice (some ⟨g, 0, none⟩) A.nodes.length A.nodes.length, q 5, q 6, q 7, q 8, q 9, q 10, q 11, q 12, q 13, q 14, q 15, q 16, q 17, q 18, q 19, q 20, q 21, q 22, q 23, q 24, q 25, q 26, q 27, q 28, q 29, q 30, q 31, q 32, q 33, q 34, q 35, q 36, q 37, q 38, q 39, q 40, q 41, q 42, q 43, q 44, q 45, q 46, q 47, q 48, q 49, q 50, q 51, q 52, q 53, q 54, q 55, q 56, q 57, q 58, q 59, q 60, q 61, q 62, q 63, q 64, q 65, q 66, q 67, q 68, q 69, q 70, q 71, q 72, q 73, q 74, q 75, q 76, q 77, q 78, q 79, q 80, q 81, q 82, q 83, q 84, q 85, q 86, q 87, q 88, q 89, q 90, q 91, q 92, q 93, q 94, q 95, q 96, q 97, q 98, q 99, q 100, q 101, q 102, q 103, q 104, q 105, q 106, q 107, q 108, q 109, q 110, q 111, q 112, q 113, q 114, q 115, q 116], defers := [] } w' = cntR A.nodes.length R0 := read_mat st0.mat hn.out
    rw [hmu]
    obtain ⟨c0, hc0⟩ : ∃ c0, c0 = cntR A.nodes.length R0 := ⟨_, rfl⟩
    rw [← hc0]
    replace hc0 := Lib.hid hc0
    replace st0 := Lib.hid st0
    clear hmu CK r1
    go_wp2
    go_loopw [50] (fun iv wr => ∃ (i : Nat) (R : Nat → Nat → Bool), i ≤ A.nodes.length ∧ iv = .int .i64 i ∧ DirSt W wr g A ai an ci cn R ∧ Hid (cntR A.nodes.length R < c0 ∨ (cntR A.nodes.length R = c0 ∧ ∀ i' k', i' < i → k' < A.nodes.length → R i' k' = true → folB R (nd A i') (nd A k') = true))) (fun iv _ => A.nodes.length - (intOf iv).toNat)
    case atStart => exact ⟨0, R0, Nat.zero_le _, rfl, st0.out, .inr ⟨hc0.out.symm, fun i' k' h => by omega⟩⟩
    case round =>
      obtain ⟨i, R, hi, rfl, st, hpr⟩ := hrel
      clear st0
      by_cases hin : i < A.nodes.length
      · have hin2 : (i : Int) < (A.nodes.length : Int) := by omega
        replace st := Lib.hid st
        go_wp2
        go_loopw [54] (fun kv wr => ∃ k : Nat, k ≤ A.nodes.length ∧ kv = .int .i64 k ∧ DirSt W wr g A ai an ci cn R ∧ Hid (∀ k', k' < k → R i k' = true → folB R (nd A i) (nd A k') = true)) (fun kv _ => A.nodes.length - (intOf kv).toNat)
        case atStart => exact ⟨0, Nat.zero_le _, rfl, st.out, fun k' h => by omega⟩
        case round =>
          obtain ⟨k, hk, rfl, sk, hrow⟩ := hrel
          by_cases hkn : k < A.nodes.length
          · have hkn2 : (k : Int) < (A.nodes.length : Int) := by omega
            have hk256 : k < 256 := by have := hn.out; omega
            have hk2 : (k : Int) < 256 := by omega
            have cc := sk.mat.cell hin hk256
            have a0 : wr.cell? ⟨W.heap.size, 0, none⟩ = some (.int .i64 A.sets) := sk.row.cell 0
            have a1 : wr.cell? ⟨W.heap.size, 1, none⟩ = some (.slice ai A.init.length ci) := sk.row.cell 1
            have a2 : wr.cell? ⟨W.heap.size, 2, none⟩ = some (.slice an A.nodes.length cn) := sk.row.cell 2
            have F1 := FOL.out wr sk.low g R sk.mat i k hin hkn
            cases hr : R i k with
            | false =>
              rw [hr] at cc
              have hrow2 : Hid (∀ k', k' < k + 1 → R i k' = true → folB R (nd A i) (nd A k') = true) := fun k' h h2 => by
                rcases Nat.lt_succ_iff_lt_or_eq.1 h with h3 | rfl
                · exact hrow.out k' h3 h2
                · rw [hr] at h2; cases h2
              replace sk := Lib.hid sk
              clear hr F1 hk256
              go_wp2
              go_roundw
              case rel => exact ⟨k + 1, by omega, by go_num, sk.out, hrow2⟩
              case measure => simp [intOf]; omega
            | true =>
              rw [hr] at cc
              cases hf : folB R (nd A i) (nd A k) with
              | true =>
                rw [hf] at F1
                replace F1 := Lib.hid F1
                have hrow2 : Hid (∀ k', k' < k + 1 → R i k' = true → folB R (nd A i) (nd A k') = true) := fun k' h h2 => by
                  rcases Nat.lt_succ_iff_lt_or_eq.1 h with h3 | rfl
                  · exact hrow.out k' h3 h2
                  · exact hf
                replace sk := Lib.hid sk
                clear hr hk256 hf
                go_wp2_with fail
                refine F1.out.mono ?_
                rintro e w9 ⟨rfl, hb9⟩
                have s9 := Lib.hid (sk.out.below hb9)
                clear F1 a0 a1 a2 cc hb9
                go_wp2
                go_roundw
                case rel => exact ⟨k + 1, by omega, by go_num, s9.out, hrow2⟩
                case measure => simp [intOf]; omega
              | false =>
                rw [hf] at F1
                replace F1 := Lib.hid F1
                have hcn : Hid (cntR A.nodes.length (upd R i k false) < c0) := by
                  show _ < _
                  have h1 := cnt_out hin hkn hr
                  rcases hpr.out with h2 | ⟨h2, _⟩ <;> omega
                replace sk := Lib.hid sk
                replace hf := Lib.hid hf
                replace hr := Lib.hid hr
                replace hk256 := Lib.hid hk256
                go_wp2_with fail
                refine F1.out.mono ?_
                rintro e w9 ⟨rfl, hb9⟩
                have s9 := sk.out.below hb9
                have c9 := s9.mat.cell hin hk256.out
                rw [hr.out] at c9
                have f9 := s9.mat.free (i * 256 + k)
                have sN9 := Lib.hid (s9.out hc.out hin hkn hk256.out hf.out)
                clear F1 a0 a1 a2 cc hb9 s9
                go_wp2
                go_roundw
                case rel => exact ⟨i + 1, upd R i k false, by omega, by go_num, sN9.out, .inl hcn.out⟩
                case measure => simp [intOf]; omega
          · obtain rfl : k = A.nodes.length := by omega
            have hpr2 : Hid (cntR A.nodes.length R < c0 ∨ (cntR A.nodes.length R = c0 ∧ ∀ i' k', i' < i + 1 → k' < A.nodes.length → R i' k' = true → folB R (nd A i') (nd A k') = true)) := by
              rcases hpr.out with h1 | ⟨h1, h2⟩
              · exact .inl h1
              · refine .inr ⟨h1, fun i' k' h3 h4 h5 => ?_⟩
                rcases Nat.lt_succ_iff_lt_or_eq.1 h3 with h6 | rfl
                · exact h2 i' k' h6 h4 h5
                · exact hrow.out k' h4 h5
            replace sk := Lib.hid sk
            go_wp2
            go_roundw
            case rel => exact ⟨i + 1, R, by omega, by go_num, sk.out, hpr2⟩
            case measure => simp [intOf]; omega
      · obtain rfl : i = A.nodes.length := by omega
        replace st := Lib.hid st
        clear hin
        have hpr2 : Hid (cntR A.nodes.length R < c0 ∨ ∀ i' k', i' < A.nodes.length → k' < A.nodes.length → R i' k' = true → folB R (nd A i') (nd A k') = true) := hpr.out.imp (fun h => h) (fun h => h.2)
        clear hpr
        go_wp2
        go_loopw [79] (fun iv wr => ∃ i : Nat, i ≤ A.nodes.length ∧ iv = .int .i64 i ∧ DirSt W wr g A ai an ci cn R ∧ Hid (∀ i' k', i' < i → k' < A.nodes.length → R i' k' = true → folB R (nd A i') (nd A k') = true)) (fun iv _ => A.nodes.length - (intOf iv).toNat)
        case atStart => exact ⟨0, Nat.zero_le _, rfl, st.out, fun i' k' h => by omega⟩
        case round =>
          obtain ⟨i, hi, rfl, st, hdone⟩ := hrel
          by_cases hin : i < A.nodes.length
          · have hin2 : (i : Int) < (A.nodes.length : Int) := by omega
            replace st := Lib.hid st
            go_wp2
            go_loopw [83] (fun kv wr => ∃ k : Nat, k ≤ A.nodes.length ∧ kv = .int .i64 k ∧ DirSt W wr g A ai an ci cn R ∧ Hid (∀ k', k' < k → R i k' = true → folB R (nd A i) (nd A k') = true)) (fun kv _ => A.nodes.length - (intOf kv).toNat)
            case atStart => exact ⟨0, Nat.zero_le _, rfl, st.out, fun k' h => by omega⟩
            case round =>
              obtain ⟨k, hk, rfl, sk, hrow⟩ := hrel
              by_cases hkn : k < A.nodes.length
              · have hkn2 : (k : Int) < (A.nodes.length : Int) := by omega
                have hk256 : k < 256 := by have := hn.out; omega
                have hk2 : (k : Int) < 256 := by omega
                have cc := sk.mat.cell hin hk256
                have a0 : wr.cell? ⟨W.heap.size, 0, none⟩ = some (.int .i64 A.sets) := sk.row.cell 0
                have a1 : wr.cell? ⟨W.heap.size, 1, none⟩ = some (.slice ai A.init.length ci) := sk.row.cell 1
                have a2 : wr.cell? ⟨W.heap.size, 2, none⟩ = some (.slice an A.nodes.length cn) := sk.row.cell 2
                have F1 := FOL.out wr sk.low g R sk.mat i k hin hkn
                cases hr : R i k with
                | false =>
                  rw [hr] at cc
                  have hrow2 : Hid (∀ k', k' < k + 1 → R i k' = true → folB R (nd A i) (nd A k') = true) := fun k' h h2 => by
                    rcases Nat.lt_succ_iff_lt_or_eq.1 h with h3 | rfl
                    · exact hrow.out k' h3 h2
                    · rw [hr] at h2; cases h2
                  replace sk := Lib.hid sk
                  clear hr F1 hk256
                  go_wp2
                  go_roundw
                  case rel => exact ⟨k + 1, by omega, by go_num, sk.out, hrow2⟩
                  case measure => simp [intOf]; omega
                | true =>
                  rw [hr] at cc
                  cases hf : folB R (nd A i) (nd A k) with
                  | true =>
                    rw [hf] at F1
                    replace F1 := Lib.hid F1
                    have hrow2 : Hid (∀ k', k' < k + 1 → R i k' = true → folB R (nd A i) (nd A k') = true) := fun k' h h2 => by
                      rcases Nat.lt_succ_iff_lt_or_eq.1 h with h3 | rfl
                      · exact hrow.out k' h3 h2
                      · exact hf
                    replace sk := Lib.hid sk
                    clear hr hk256 hf
                    go_wp2_with fail
                    refine F1.out.mono ?_
                    rintro e w9 ⟨rfl, hb9⟩
                    have s9 := Lib.hid (sk.out.below hb9)
                    clear F1 a0 a1 a2 cc hb9
                    go_wp2
                    go_roundw
                    case rel => exact ⟨k + 1, by omega, by go_num, s9.out, hrow2⟩
                    case measure => simp [intOf]; omega
                  | false =>
                    rw [hf] at F1
                    replace F1 := Lib.hid F1
                    have hcn : Hid (cntR A.nodes.length R < c0) := by
                      rcases hpr2.out with h2 | h2
                      · exact h2
                      · rw [h2 i k hin hkn hr] at hf; cases hf
                    replace sk := Lib.hid sk
                    clear hk256 hf hr
                    go_wp2_with fail
                    refine F1.out.mono ?_
                    rintro e w9 ⟨rfl, hb9⟩
                    have s9 := Lib.hid (sk.out.below hb9)
                    clear F1 a0 a1 a2 cc hb9
                    go_wp2
                    go_step3
                    refine ⟨rfl, ⟨g, R, rfl, rfl, rfl, rfl, rfl, rfl, rfl, s9.out⟩, ?_⟩
                    exact Nat.lt_of_le_of_lt (Nat.le_of_eq (read_mat s9.out.mat hn.out)) hcn.out
              · obtain rfl : k = A.nodes.length := by omega
                have hdone2 : Hid (∀ i' k', i' < i + 1 → k' < A.nodes.length → R i' k' = true → folB R (nd A i') (nd A k') = true) := fun i' k' h3 h4 h5 => by
                  rcases Nat.lt_succ_iff_lt_or_eq.1 h3 with h6 | rfl
                  · exact hdone.out i' k' h6 h4 h5
                  · exact hrow.out k' h4 h5
                replace sk := Lib.hid sk
                go_wp2
                go_roundw
                case rel => exact ⟨i + 1, by omega, by go_num, sk.out, hdone2⟩
                case measure => simp [intOf]; omega
          · obtain rfl : i = A.nodes.length := by omega
            have hG : Hid (DirOf A (matL A.nodes.length R)) := .inr ⟨hc.out, R, st.ab.great fun i k hi hk hr => ⟨st.alo i k hi hk hr, hdone.out i k hi hk hr⟩, rfl⟩
            replace st := Lib.hid st
            clear hin hpr2 hdone
            obtain ⟨B, hB⟩ : ∃ B, B = wr.heap.size := ⟨_, rfl⟩
            have hBg : g < B := by rw [hB]; exact st.out.mat.lt
            have hBw : W.heap.size < g := st.out.hg
            have hBr : B ≤ wr.heap.size := by omega
            clear hB
            go_wp2
            go_loopw [11, 103] (fun ov iv wr => ∃ (i : Nat) (ao : Option Addr) (co : Nat) (cells : List Value), i ≤ A.nodes.length ∧ iv = .int .i64 i ∧ ov = .slice ao i co ∧ DirSt W wr g A ai an ci cn R ∧ B ≤ wr.heap.size ∧ OwnR wr B 32 1 ao i co cells ∧ CellsR wr (fun j => (Value.slice ao i co).ownBlock ≠ some j ∧ j < wr.heap.size) ((matL A.nodes.length R).take i) cells) (fun _ iv _ => A.nodes.length - (intOf iv).toNat)
            case atStart => exact ⟨0, none, 0, [], Nat.zero_le _, rfl, rfl, st.out, hBr, OwnR.nil _ _ _ _, by simp [CellsR]⟩
            case round =>
              obtain ⟨i, ao, co, cells, hi, rfl, rfl, si, hBi, ow, cr⟩ := hrel
              by_cases hin : i < A.nodes.length
              · have hin2 : (i : Int) < (A.nodes.length : Int) := by omega
                obtain ⟨xs, hxs⟩ : ∃ xs, xs = (List.range A.nodes.length).map fun k => R i k := ⟨_, rfl⟩
                have hxl : xs.length = A.nodes.length := by rw [hxs]; simp
                have hxc : ∀ j (hj : j < xs.length), wr.cell? ⟨g, i * 256 + j, none⟩ = some (.bool xs[j]) := fun j hj => by
                  have h1 := si.mat.cell hin (show j < 256 by have := hn.out; omega)
                  rw [h1]
                  simp [hxs]
                have CL := clone_any wr g (i * 256) A.nodes.length 256 xs hxl.symm hxc (by have := hn.out; omega)
                have htk : Hid ((matL A.nodes.length R).take (i + 1) = (matL A.nodes.length R).take i ++ [xs]) := by
                  show _ = _
                  rw [List.take_add_one, List.getElem?_eq_getElem (by simpa [matL] using hin), Option.toList_some, hxs]
                  simp [matL]
                have hi300 : (i : Int) < 300 := by have := hn.out; omega
                have hnn : 0 ≤ (A.nodes.length : Int) := by omega
                have hgl := si.mat.lt
                replace hxs := Lib.hid hxs
                replace CL := Lib.hid CL
                replace si := Lib.hid si
                replace ow := Lib.hid ow
                replace cr := Lib.hid cr
                replace hxl := Lib.hid hxl
                clear hxc
                go_wp2_with fail
                refine CL.out.mono ?_
                rintro e w9 ⟨a9, c9, rfl, hb9, hf9, hB9⟩
                have s9 := si.out.below hB9
                have ow9 := ow.out.keeps (S := fun _ => False) (Keeps.of_below hB9) (fun _ _ h => h)
                have hz9 := hB9.size
                have hol : ∀ j, (Value.slice ao i co).ownBlock = some j → B ≤ j ∧ j < wr.heap.size := fun j hj => OwnR.lt ow.out hj
                have OW := Lib.hid (ow9.alloc (.cells #[.slice a9 xs.length c9] 32))
                have NC := Lib.hid (new_cells w9 #[.slice a9 xs.length c9] 32 rfl)
                have OC : Hid (∀ u ∈ [Value.slice a9 xs.length c9], u.oneCell' = true) := fun u hu => by simp at hu; subst hu; rfl
                have n5 : Hid (i + 1 ≤ maxLen) := by show _ ≤ _; unfold maxLen; have := hn.out; omega
                have y5 : Hid ((i + 1) * 24 ≤ 140737488355328) := by show _ ≤ _; have := hn.out; omega
                have x5 : Hid (B ≤ (w9.alloc (.cells #[.slice a9 xs.length c9] 32)).heap.size) := by show _ ≤ _; simp; omega
                replace hol := Lib.hid hol
                replace s9 := Lib.hid s9
                replace hb9 := Lib.hid hb9
                replace hf9 := Lib.hid hf9
                replace hB9 := Lib.hid hB9
                clear CL ow9
                go_wp2_with (at_builtin; refine wp_appR rfl _ _ 29 32 (.slice none 0 0) 1 24 rfl Try.underlying29 infoSB rfl (by decide) B ao i co cells rfl OW.out w9.heap.size 1 [.slice a9 xs.length c9] rfl rfl NC.out OC.out n5.out y5.out x5.out ?_)
                intro ao3 co3 w10 ho3 hg3 hat3
                have hA : Below w9.heap.size w9 (w9.alloc (.cells #[.slice a9 xs.length c9] 32)) := balloc (Below.refl _ _) _
                have hk : Keeps w9 w10 (fun j => (Value.slice ao i co).ownBlock = some j) := (Keeps.of_below (S := fun j => (Value.slice ao i co).ownBlock = some j) hA).trans (Keeps.of_grown (S := fun j => (Value.slice ao i co).ownBlock = some j) hg3 (fun j e => e)) (fun _ _ h => h)
                have hz10 := hk.size
                have s10 := Lib.hid (s9.out.keeps hk (fun j hj => by have := (hol.out j hj).1; omega))
                have hnew : ∀ j, (Value.slice ao3 (i + 1) co3).ownBlock = some j → (Value.slice ao i co).ownBlock = some j ∨ w9.heap.size ≤ j := fun j hj => by
                  rcases hat3 with h1 | h1
                  · exact .inl (by rw [← h1]; exact hj)
                  · rw [h1] at hj
                    simp at hj
                    exact .inr (by omega)
                have cr10 : CellsR w10 (fun j => (Value.slice ao3 (i + 1) co3).ownBlock ≠ some j ∧ j < w10.heap.size) ((matL A.nodes.length R).take (i + 1)) (cells ++ [.slice a9 xs.length c9]) := by
                  rw [htk.out]
                  refine CellsR.snoc ?_ ?_ (cr.out.keep (fun j hj => ?_) (fun j hj => ⟨fun e => ?_, by omega⟩))
                  · exact hb9.out.keep (fun ad had hlt => hk.block _ hlt (fun e => by have := hol.out _ e; have := (hf9.out ad had).1; omega))
                  · intro ad had
                    have h1 := hf9.out ad had
                    refine ⟨fun e => ?_, by omega⟩
                    rcases hnew _ e with h2 | h2
                    · have := (hol.out _ h2).2; omega
                    · omega
                  · rw [hk.block j (by omega) (fun e => hj.1 e), hB9.out.block j hj.2]
                  · rcases hnew _ e with h2 | h2
                    · exact hj.1 h2
                    · omega
                replace cr10 := Lib.hid cr10
                replace ho3 := Lib.hid ho3
                have hBz : B ≤ w10.heap.size := by omega
                clear hk hg3 hat3 OW NC OC n5 y5 x5 hA hnew
                go_wp2
                go_roundw
                case rel => exact ⟨i + 1, ao3, co3, _, by omega, by go_num, rfl, s10.out, hBz, ho3.out, cr10.out⟩
                case measure => simp [intOf]; omega
              · obtain rfl : i = A.nodes.length := by omega
                have hml : Hid ((matL A.nodes.length R).length = A.nodes.length) := by show _ = _; simp [matL]
                have hrows : Hid (RowsAt wr ao (matL A.nodes.length R)) := by
                  have h1 := cr
                  rw [List.take_of_length_le (by rw [hml.out]; exact Nat.le_refl _)] at h1
                  exact h1.rows (by rw [hml.out]; exact ow)
                replace si := Lib.hid si
                clear hin ow cr
                go_wp2
                simp only [Exit.jump]
                go_ret
                exact ⟨ao, co, _, by rw [hml.out]; rfl, hG.out, hrows.out, si.out.low⟩
  · intro PASS
    replace PASS := Lib.hid PASS
    go_wp2_with fail
    refine CK.out.mono ?_
    rintro e w1 ⟨rfl, hb1⟩
    have hbw1 := btrans hb0.out hb1
    have s1 := r1.out.below hb1
    have a2 : w1.cell? ⟨W.heap.size, 2, none⟩ = some (.slice an A.nodes.length cn) := s1.cell 2
    have hWg : W.heap.size < w1.heap.size := s1.lt
    replace hbw1 := Lib.hid hbw1
    replace s1 := Lib.hid s1
    clear CK hb1
    go_wp2_with (at_make; refine wp_makeM rfl _ _ rfl A.nodes.length rfl rfl hn.out ?_)
    intro w2 hM hg2 hz2
    have hb2 := Lib.hid (bgrown hbw1.out hg2 (by intro k hk; cases hk))
    have s2 := Lib.hid (s1.out.keeps (Keeps.of_grown (S := fun _ => False) hg2 (by intro j hj; cases hj)) (fun h => h))
    replace hM := Lib.hid hM
    obtain ⟨g, hg⟩ : ∃ g, g = w1.heap.size := ⟨_, rfl⟩
    rw [← hg] at hM hWg ⊢
    clear a2 hg2 hz2 hg s1 hbw1
    go_wp2
    go_loopw [22] (fun iv wr => ∃ (i : Nat) (R : Nat → Nat → Bool), i ≤ A.nodes.length ∧ iv = .int .i64 i ∧ MatAt wr g A.nodes.length R ∧ RowAt wr W.heap.size AUT [.int .i64 A.sets, .slice ai A.init.length ci, .slice an A.nodes.length cn] ∧ Below W.heap.size W wr ∧ Hid (∀ i' k', i' < i → k' < A.nodes.length → R i' k' = aloB (sN A) (nd A i') (nd A k'))) (fun iv _ => A.nodes.length - (intOf iv).toNat)
    case atStart => exact ⟨0, _, Nat.zero_le _, rfl, hM.out, s2.out, hb2.out, fun i' k' h => by omega⟩
    case round =>
      obtain ⟨i, R, hi, rfl, mt, rw, lo, hdone⟩ := hrel
      clear hM s2 hb2
      by_cases hin : i < A.nodes.length
      · have hin2 : (i : Int) < (A.nodes.length : Int) := by omega
        replace mt := Lib.hid mt
        replace rw := Lib.hid rw
        replace lo := Lib.hid lo
        go_wp2
        go_loopw [26] (fun kv wr => ∃ (k : Nat) (R : Nat → Nat → Bool), k ≤ A.nodes.length ∧ kv = .int .i64 k ∧ MatAt wr g A.nodes.length R ∧ RowAt wr W.heap.size AUT [.int .i64 A.sets, .slice ai A.init.length ci, .slice an A.nodes.length cn] ∧ Below W.heap.size W wr ∧ Hid ((∀ i' k', i' < i → k' < A.nodes.length → R i' k' = aloB (sN A) (nd A i') (nd A k')) ∧ ∀ k', k' < k → R i k' = aloB (sN A) (nd A i) (nd A k'))) (fun kv _ => A.nodes.length - (intOf kv).toNat)
        case atStart => exact ⟨0, R, Nat.zero_le _, rfl, mt.out, rw.out, lo.out, ⟨hdone.out, fun k' h => by omega⟩⟩
        case round =>
          obtain ⟨k, R, hk, rfl, mt, rw, lo, hrow⟩ := hrel
          by_cases hkn : k < A.nodes.length
          · have hkn2 : (k : Int) < (A.nodes.length : Int) := by omega
            have hk256 : k < 256 := by have := hn.out; omega
            have hk2 : (k : Int) < 256 := by omega
            have hx : okN A.nodes[i] := ⟨(ok.nodes _ (List.getElem_mem hin)).1, (ok.nodes _ (List.getElem_mem hin)).2.1, (ok.nodes _ (List.getElem_mem hin)).2.2.1⟩
            have hy : okN A.nodes[k] := ⟨(ok.nodes _ (List.getElem_mem hkn)).1, (ok.nodes _ (List.getElem_mem hkn)).2.1, (ok.nodes _ (List.getElem_mem hkn)).2.2.1⟩
            have hst : Hid ((∀ i' k', i' < i → k' < A.nodes.length → (upd R i k (aloB (sN A) (nd A i) (nd A k))) i' k' = aloB (sN A) (nd A i') (nd A k')) ∧ ∀ k', k' < k + 1 → (upd R i k (aloB (sN A) (nd A i) (nd A k))) i k' = aloB (sN A) (nd A i) (nd A k')) := by
              refine ⟨fun i' k' h1 h2 => ?_, fun k' h1 => ?_⟩
              · rw [upd_other R _ (by omega)]
                exact hrow.out.1 i' k' h1 h2
              · by_cases he : k' = k
                · subst he
                  rw [upd_same]
                · rw [upd_other R _ (by omega)]
                  exact hrow.out.2 k' (by omega)
            have CA := fun w' vx vy => alone_any2 w' A.nodes[i] A.nodes[k] vx vy hx hy A.sets (sN A) hsn.out.1 hsn.out.2
            rw [← nd_get hin, ← nd_get hkn] at CA
            obtain ⟨b1, o1, hab, p0, p1, p2, ax, cx, p3, _⟩ := HA.out.nodes.at i hin
            obtain ⟨b2, o2, hab2, q0, q1, q2, ay, cy, q3, _⟩ := HA.out.nodes.at k hkn
            rw [hab] at hab2
            cases hab2
            rw [← nd_get hin] at p0 p1 p2 p3
            rw [← nd_get hkn] at q0 q1 q2 q3
            generalize hav : aloB (sN A) (nd A i) (nd A k) = av at CA hst
            replace hav := Lib.hid hav
            obtain ⟨x, hxe⟩ : ∃ x, x = nd A i := ⟨_, rfl⟩
            obtain ⟨y, hye⟩ : ∃ y, y = nd A k := ⟨_, rfl⟩
            rw [← hxe] at CA p0 p1 p2 p3
            rw [← hye] at CA q0 q1 q2 q3
            replace hxe := Lib.hid hxe
            replace hye := Lib.hid hye
            obtain ⟨xn, xb, xi, xt⟩ := x
            obtain ⟨yn, yb, yi, yt⟩ := y
            simp only at CA p0 p1 p2 p3 q0 q1 q2 q3
            have SB : Hid (∀ w', Below W.heap.size W w' → RowAt w' W.heap.size AUT [.int .i64 A.sets, .slice ai A.init.length ci, .slice an A.nodes.length cn] → w'.cell? ⟨W.heap.size, 0, none⟩ = some (.int .i64 A.sets) ∧ w'.cell? ⟨W.heap.size, 2, none⟩ = some (.slice an A.nodes.length cn) ∧ w'.cell? ⟨b1, o1 + i * 4, none⟩ = some (.int .u64 xn) ∧ w'.cell? ⟨b1, o1 + i * 4 + 1, none⟩ = some (.int .u64 xb) ∧ w'.cell? ⟨b1, o1 + i * 4 + 2, none⟩ = some (.int .u64 xi) ∧ w'.cell? ⟨b1, o1 + i * 4 + 3, none⟩ = some (.slice ax xt.length cx) ∧ w'.cell? ⟨b1, o1 + k * 4, none⟩ = some (.int .u64 yn) ∧ w'.cell? ⟨b1, o1 + k * 4 + 1, none⟩ = some (.int .u64 yb) ∧ w'.cell? ⟨b1, o1 + k * 4 + 2, none⟩ = some (.int .u64 yi) ∧ w'.cell? ⟨b1, o1 + k * 4 + 3, none⟩ = some (.slice ay yt.length cy)) :=
              fun w' h h2 => ⟨h2.cell 0, h2.cell 2, bcell h p0, bcell h p1, bcell h p2, bcell h p3, bcell h q0, bcell h q1, bcell h q2, bcell h q3⟩
            replace CA := Lib.hid CA
            replace mt := Lib.hid mt
            replace rw := Lib.hid rw
            replace lo := Lib.hid lo
            subst hab
            clear hx hy
            go_wp2
            go_region_held3 (fun w' => w'.cell? ⟨W.heap.size, 0, none⟩ = some (.int .i64 A.sets) ∧ w'.cell? ⟨W.heap.size, 2, none⟩ = some (.slice (some ⟨b1, o1, none⟩) A.nodes.length cn) ∧ w'.cell? ⟨b1, o1 + i * 4, none⟩ = some (.int .u64 xn) ∧ w'.cell? ⟨b1, o1 + i * 4 + 1, none⟩ = some (.int .u64 xb) ∧ w'.cell? ⟨b1, o1 + i * 4 + 2, none⟩ = some (.int .u64 xi) ∧ w'.cell? ⟨b1, o1 + i * 4 + 3, none⟩ = some (.slice ax xt.length cx) ∧ w'.cell? ⟨b1, o1 + k * 4, none⟩ = some (.int .u64 yn) ∧ w'.cell? ⟨b1, o1 + k * 4 + 1, none⟩ = some (.int .u64 yb) ∧ w'.cell? ⟨b1, o1 + k * 4 + 2, none⟩ = some (.int .u64 yi) ∧ w'.cell? ⟨b1, o1 + k * 4 + 3, none⟩ = some (.slice ay yt.length cy)) (first | exact SB.out _ loS rwS | exact SB.out _ loY rwY | exact SB.out _ lo.out rw.out | exact SB.out _ lo.out.drew rw.out) (first
              | (go_at_call 22; (with_reducible refine (CA.out _ _ _).mono ?_); rintro r wY ⟨rfl, hbY⟩; have hbY2 : Below wr.heap.size wr wY := ⟨hbY.os, hbY.tape, hbY.output, hbY.size, hbY.block⟩; have mtY := mt.out.below hbY2; have dY := mtY.cell hin hk256; have fY := mtY.free (i * 256 + k); have loY := btrans lo.out hbY2; have rwY := rw.out.below hbY2; have loS := loY.setCell (p := ⟨g, i * 256 + k, none⟩) (Nat.le_of_lt hWg) (.bool av); have rwS := rwY.other (b := g) (by omega) (i * 256 + k) (.bool av)))
            all_goals (
              have mtN := Lib.hid (mtY.set hin hk256 av)
              have loN := Lib.hid loS
              have rwN := Lib.hid rwS
              clear mtY dY fY loY rwY loS rwS hbY hbY2 CA SB
              go_wp2
              go_roundw
              case rel => exact ⟨k + 1, _, by omega, by go_num, mtN.out, rwN.out, loN.out, hst⟩
              case measure => simp [intOf]; omega)
          · obtain rfl : k = A.nodes.length := by omega
            have hd2 : Hid (∀ i' k', i' < i + 1 → k' < A.nodes.length → R i' k' = aloB (sN A) (nd A i') (nd A k')) := fun i' k' h1 h2 => by
              rcases Nat.lt_succ_iff_lt_or_eq.1 h1 with h3 | rfl
              · exact hrow.out.1 i' k' h3 h2
              · exact hrow.out.2 k' h2
            replace mt := Lib.hid mt
            replace rw := Lib.hid rw
            replace lo := Lib.hid lo
            go_wp2
            go_roundw
            case rel => exact ⟨i + 1, R, by omega, by go_num, mt.out, rw.out, lo.out, hd2⟩
            case measure => simp [intOf]; omega
      · obtain rfl : i = A.nodes.length := by omega
        have stF : Hid (DirSt W wr g A ai an ci cn R) := ⟨mt, rw, lo, Above.start (fun i k hi hk => hdone.out i k hi hk), fun i k hi hk hr => by rw [← hdone.out i k hi hk]; exact hr, hWg⟩
        clear hin mt rw lo hdone
        go_wp2
        go_step3
        simp only [Exit.then]
        apply_assumption
        refine PASS.out _ _ ?_
        exact ⟨g, R, rfl, rfl, rfl, rfl, rfl, rfl, rfl, stF.out⟩
end Go.Proofs.Ytnllgigolfakpaa
