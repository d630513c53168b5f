/- The walk of 'LexTexts'. Conditions: what the listed variables hold. -/
import Derived.Test.YtahcgbaaimmkfaaDoorLexA
import Derived.Test.YtahcgbaaimmkfaaDoorLexL
import Derived.Test.YtahcgbaaimmkfaaDoorLexV
import Derived.Test.YtahcgbaaimmkfaaDoorStruct
namespace Go.Proofs.YtahcgbaaimmkfaaDoor
open Go.RowKit Go.ChangeShapes Go.WideShapes Go.ChangeAt
set_option linter.unusedVariables false

/-- how a token reads -/
def rTk : Rd Tz := fun _ cs x => cs = tzV x.kind x.n x.at_ ⟨x.text.toArray⟩ ∧ -9223372036854775808 ≤ x.n ∧ x.n ≤ 9223372036854775807
theorem list4 {α : Type} {l : List α} (h : l.length = 4) : ∃ a b c d, l = [a, b, c, d] := by
  match l, h with
  | [a, b, c, d], _ => exact ⟨a, b, c, d, rfl⟩
theorem opens_Tk : Opens Tryd.prog TRtk rTk := by
  intro H enc w fuel cs d ps hd hwt
  have hl := trod_struct_len Tryd.underlying34 hd
  have hc : Tryd.prog.cellsOf TRtk = 4 := by kernel_rfl
  obtain ⟨c0, c1, c2, c3, rfl⟩ := list4 (hl.trans hc)
  obtain ⟨x0, h0⟩ := opens_field Tryd.underlying34 0 0 1 _ rfl rfl (by kernel_rfl) (opens_int Tryd.underlying3) hd hwt
  obtain ⟨x1, h1⟩ := opens_field Tryd.underlying34 1 1 1 _ rfl rfl (by kernel_rfl) (opens_int Tryd.underlying3) hd hwt
  obtain ⟨x2, h2⟩ := opens_field Tryd.underlying34 2 2 1 _ rfl rfl (by kernel_rfl) (opens_int Tryd.underlying3) hd hwt
  obtain ⟨x3, h3⟩ := opens_field Tryd.underlying34 3 3 1 _ rfl rfl (by kernel_rfl) (opens_str Tryd.underlying9) hd hwt
  simp only [List.drop_zero, List.drop_succ_cons, List.take_succ_cons, List.take_zero, rInt, rStr, List.cons.injEq, and_true] at h0 h1 h2 h3
  have hw := h1.2
  refine ⟨⟨x0, x1, x2, x3.data.toList⟩, ?_, ?_⟩
  · show _ = tzV x0 x1 x2 _
    rw [h0.1, h1.1, h2.1, h3.1]
    rfl
  · have := range_i64 hw
    exact this
theorem opens_tks : Opens Tryd.prog 27 (rSl 4 40 rTk) := opens_slice Tryd.underlying27 (by kernel_rfl) (by kernel_rfl) (by decide) opens_Tk
set_option maxRecDepth 8000 in
set_option maxHeartbeats 8000000 in
theorem lexTexts_walk (W : World) (hd : Door W) (v0 : Value) (T : List Tz) (r0 : rSl 4 40 rTk W [v0] T) (s : ByteArray) (hsz : s.size ≤ reachBytes) : Calls Tryd.prog 4 #[v0, .string s] W fun e w' => e = .returned (.bool true) ∧ Below W.heap.size W w' := by
  have AW := Lib.hid (fun v (hb : Below W.heap.size W v) => awake_true v (hd.below hb))
  obtain ⟨a, cap, hv, _, _, _, hcells⟩ := r0
  obtain rfl : v0 = .slice a T.length cap := by simpa using hv
  have hn : ∀ t ∈ T, -9223372036854775808 ≤ t.n ∧ t.n ≤ 9223372036854775807 := fun t ht => by
    obtain ⟨i, hi, e⟩ := List.mem_iff_getElem.1 ht
    obtain ⟨b, off, _, h⟩ := hcells (by omega)
    obtain ⟨vs, _, _, hR⟩ := h i hi
    rw [← e]
    exact hR.2
  have ht : TzAt W a T := fun h0 => by
    obtain ⟨b, off, e, h⟩ := hcells h0
    refine ⟨b, off, e, ?_, fun i hi j u hj => ?_⟩
    · obtain ⟨vs, hl, hc, hR⟩ := h 0 h0
      have h1 := hc 0 (by decide)
      rw [List.getElem?_eq_getElem (by omega)] at h1
      exact World.block_lt_of_cell? W _ h1
    · obtain ⟨vs, hl, hc, hR⟩ := h i hi
      have hj4 : j < 4 := (List.getElem?_eq_some_iff.1 hj).1
      have h1 := hc j hj4
      rw [h1, hR.1]
      exact hj
  clear hcells hv
  have hsI : (s.size : Int) ≤ 281474976710656 := by unfold reachBytes at hsz; omega
  have hsN : s.size ≤ 281474976710656 := by omega
  have NM := Lib.hid (fun v (hb : Below W.heap.size W v) => name_any v (hd.below hb) s hsN)
  have RN := Lib.hid (fun v => rname_any v s hsI)
  clear hsz hsI hsN
  generalize nameP s.data.toList = nm at NM RN
  obtain ⟨n, hnl⟩ : ∃ n, n = T.length := ⟨_, rfl⟩
  by_cases hl : T.length ≤ 100
  · have hlI : ¬ (100 : Int) < (n : Int) := by omega
    have OW := Lib.hid (fun v (hb : Below W.heap.size W v) => own_any v a cap T (ht.below hb) (by omega))
    have AFT : Hid ((∀ t ∈ T, t.text.length ≤ 100) → ∃ u : ByteArray, (∀ v b c, Below W.heap.size W v → TzAt v b T → Calls Tryd.prog 14 #[.slice b T.length c] v fun e w' => e = .returned (.string u) ∧ Below v.heap.size v w') ∧ ∀ v, Below W.heap.size W v → Calls Tryd.prog 16 #[.slice a T.length cap] v fun e w' => e = .returned (.string u) ∧ Below v.heap.size v w') := fun hx => by
      refine ⟨⟨(joinT (T.map tellZ)).toArray⟩, fun v b c hb h => textz_any v (hd.below hb) b c T h (by omega) hn ?_, fun v hb => rtextz_any v a cap T (ht.below hb) hl hn hx⟩
      have h1 := joinT_len (T.map tellZ) 200 (fun y hy => by
        obtain ⟨t, ht2, rfl⟩ := List.mem_map.1 hy
        unfold tellZ
        split
        · have h1 := hn t ht2
          have := itoa_len t.n h1.1 h1.2
          rw [str_sz] at this
          omega
        · have := hx t ht2
          omega)
      rw [List.length_map] at h1
      have : T.length * (200 + 1) ≤ 100 * 201 := Nat.mul_le_mul_right _ hl
      omega
    have ht2 := Lib.hid ht
    rw [← hnl] at OW AFT ⊢
    have hT0 : Hid (∀ (j : Nat) (h : j < T.length), j < 0 → T[j].text.length ≤ 100) := fun j h h0 => by omega
    have hl2 := Lib.hid hl
    replace hnl := Lib.hid hnl
    clear ht hl hn hd
    go_enter Tryd.func4, Tryd.ntmps4
    go_wp2
    go_loop [4, 5] (fun bv iv => ∃ k : Nat, bv = .bool false ∧ iv = .int .i64 (k : Int) ∧ k ≤ n ∧ Hid (∀ (j : Nat) (h : j < T.length), j < k → T[j].text.length ≤ 100)) (fun _ iv => n - (intOf iv).toNat)
    case atStart => exact ⟨0, rfl, rfl, Nat.zero_le _, hT0⟩
    case round =>
      obtain ⟨k, rfl, rfl, hk, hall⟩ := hrel
      clear hT0
      by_cases hkn : k < n
      · have hkI : (k : Int) < (n : Int) := by omega
        have hkT : Hid (k < T.length) := by show _ < _; have := hnl.out; omega
        obtain ⟨b, off, ea, hbl, hcell⟩ := ht2.out (by have := hkT.out; omega)
        have SG := hcell k hkT.out
        subst ea
        have f3 : W.cell? ⟨b, off + k * 4 + 3, none⟩ = some (.string ⟨(T[k]'hkT.out).text.toArray⟩) := SG 3 _ rfl
        have hsz3 : (⟨(T[k]'hkT.out).text.toArray⟩ : ByteArray).size = (T[k]'hkT.out).text.length := str_sz _
        obtain ⟨q, hq⟩ : ∃ q : ByteArray, q = ⟨(T[k]'hkT.out).text.toArray⟩ := ⟨_, rfl⟩
        rw [← hq] at f3 hsz3
        clear SG hcell hq
        by_cases h100 : q.size ≤ 100
        · have h100I : ¬ (100 : Int) < (q.size : Int) := by omega
          have hall2 : Hid (∀ (j : Nat) (h : j < T.length), j < k + 1 → T[j].text.length ≤ 100) := fun j h hj => by
            by_cases e : j = k
            · subst e; omega
            · exact hall.out j h (by omega)
          clear hsz3 h100 hall
          go_wp2
          go_round
          case rel => exact ⟨k + 1, rfl, by go_num, by omega, hall2⟩
          case measure => simp [intOf]; omega
        · have h100I : (100 : Int) < (q.size : Int) := by omega
          clear hsz3 h100 hall
          go_wp2_with fail
          refine (AW.out W (Below.refl _ _)).mono ?_
          rintro e w1 ⟨rfl, hb1⟩
          go_wp2
          go_ret
          exact ⟨rfl, hb1⟩
      · have hkI : ¬ (k : Int) < (n : Int) := by omega
        obtain ⟨u, TX, RT⟩ := AFT.out (fun t ht => by
          obtain ⟨i, hi, e⟩ := List.mem_iff_getElem.1 ht
          rw [← e]
          exact hall.out i hi (by have := hnl.out; omega))
        replace TX := Lib.hid TX
        replace RT := Lib.hid RT
        clear AFT hall
        go_wp2_with fail
        refine (OW.out W (Below.refl _ _)).mono ?_
        rintro e w1 ⟨⟨oa, oc, rfl, own⟩, hb1⟩
        have z1 := Lib.hid hb1
        have T1 : Hid (TzAt w1 oa T) := TzAt.of_own (by rw [← hnl.out]; exact own)
        clear hb1 own OW
        go_wp2_with fail
        refine (TX.out w1 oa oc z1.out T1.out).mono ?_
        rintro e w2 ⟨rfl, hb2⟩
        have z2 := Lib.hid (btrans z1.out hb2)
        clear hb2 TX T1
        go_wp2_with fail
        refine (RT.out w2 z2.out).mono ?_
        rintro e w3 ⟨rfl, hb3⟩
        have z3 := Lib.hid (btrans z2.out hb3)
        clear hb3 RT
        go_wp2_with fail
        refine (NM.out w3 z3.out).mono ?_
        rintro e w4 ⟨rfl, hb4⟩
        have z4 := Lib.hid (btrans z3.out hb4)
        clear hb4 NM
        go_wp2_with fail
        refine (RN.out w4).mono ?_
        rintro e w5 ⟨rfl, hb5⟩
        have z5 := Lib.hid (btrans z4.out hb5)
        clear hb5 RN
        go_wp2_with fail
        refine (AW.out w5 z5.out).mono ?_
        rintro e w6 ⟨rfl, hb6⟩
        go_wp2
        go_ret
        exact ⟨rfl, btrans z5.out hb6⟩
  · have hlI : (100 : Int) < (n : Int) := by omega
    rw [← hnl]
    clear hl ht hn hnl hd
    go_enter Tryd.func4, Tryd.ntmps4
    go_wp2_with fail
    refine (AW.out W (Below.refl _ _)).mono ?_
    rintro e w1 ⟨rfl, hb1⟩
    go_wp2
    go_ret
    exact ⟨rfl, hb1⟩
end Go.Proofs.YtahcgbaaimmkfaaDoor
