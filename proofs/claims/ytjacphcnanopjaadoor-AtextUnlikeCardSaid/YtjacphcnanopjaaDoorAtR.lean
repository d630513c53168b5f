/- The document's row of numbers and its fields, walked. Conditions: not too many numbers. -/
import Derived.Test.YtjacphcnanopjaaDoorAtU
namespace Go.Proofs.YtjacphcnanopjaaDoor
open Go.Shelf Go.RowKit
set_option linter.unusedVariables false
set_option linter.unusedSimpArgs false

theorem nil_str : (⟨#[]⟩ : ByteArray) = ⟨([] : List UInt8).toArray⟩ := rfl
theorem app_str (l r : List UInt8) : (⟨l.toArray⟩ : ByteArray) ++ ⟨r.toArray⟩ = ⟨(l ++ r).toArray⟩ := ((str_eq _ _).2 (by rw [cat_data])).symm
set_option maxRecDepth 8000 in
set_option maxHeartbeats 4000000 in
theorem rrow_any (w : World) (a : Option Addr) (c : Nat) (l : List Int) (h : IntsAt w a l) (hr : ∀ n ∈ l, -9223372036854775808 ≤ n ∧ n ≤ 9223372036854775807) (hl : l.length ≤ 100000) :
    Calls Tryd.prog 39 #[.slice a l.length c] w fun e w' => e = .returned (.string ⟨(fldW [] l).toArray⟩) ∧ Below w.heap.size w w' := by
  obtain ⟨res, hres⟩ : ∃ res : ByteArray, res = ⟨(fldW [] l).toArray⟩ := ⟨_, rfl⟩
  rw [← hres]
  have D : Hid (∀ v i (hi : i < l.length), Calls Tryd.prog 38 #[.int .i64 l[i]] v fun e w' => e = .returned (.string ⟨(Lib.itoa l[i]).toArray⟩) ∧ Below v.heap.size v w') := fun v i hi => rdecimal_any v l[i] (hr _ (List.getElem_mem hi)).1 (hr _ (List.getElem_mem hi)).2
  have LN : Hid (∀ i, (fldW [] (l.take i)).length ≤ 3200000) := fun i => fld_le [] (l.take i) (fun n hn => hr n (List.mem_of_mem_take hn)) (by rw [List.length_take]; omega) (by decide)
  have IT : Hid (∀ n ∈ l, (Lib.itoa n).length ≤ 21) := fun n hn => itoa_le n (hr n hn)
  obtain ⟨n, hn⟩ : ∃ n, n = l.length := ⟨_, rfl⟩
  rw [← hn]
  have hnI : (n : Int) ≤ 100000 := by omega
  replace h := Lib.hid h
  replace hn := Lib.hid hn
  replace hres := Lib.hid hres
  have J0 : Hid ((⟨#[]⟩ : ByteArray) = ⟨(fldW [] (l.take 0)).toArray⟩) := by
    show _ = _
    rw [List.take_zero]
    rfl
  clear hr hl
  go_enter Tryd.func39, Tryd.ntmps39
  go_wp2
  go_loopw [3, 4] (fun sv iv wr => ∃ (i : Nat) (s : ByteArray), sv = .string s ∧ iv = .int .i64 (i : Int) ∧ i ≤ n ∧ Hid (s = ⟨(fldW [] (l.take i)).toArray⟩) ∧ Hid (Below w.heap.size w wr)) (fun _ iv _ => n - (intOf iv).toNat)
  case atStart => exact ⟨0, ⟨#[]⟩, rfl, rfl, Nat.zero_le _, J0, Below.refl _ _⟩
  case round =>
    obtain ⟨i, s, rfl, rfl, hi, J, Z⟩ := hrel
    clear J0
    by_cases hlt : i < n
    · have hlI : (i : Int) < (n : Int) := by omega
      have hiN : i < l.length := by have := hn.out; omega
      obtain ⟨ab, ao, x, ea, cx, hx⟩ := (h.out.below Z.out).at i hiN
      have hx2 : l.getD i 0 = l[i]'hiN := by simp [List.getD, List.getElem?_eq_getElem hiN]
      have hxo := hx.out
      rw [hx2] at hxo
      have D1 := Lib.hid (D.out wr i hiN)
      have S1 := IT.out _ (List.getElem_mem hiN)
      rw [← hxo] at D1 S1
      have sz : s.size = (fldW [] (l.take i)).length := by rw [J.out]; exact List.size_toArray
      have szb : s.size ≤ 3200000 := by rw [sz]; exact LN.out i
      obtain ⟨dx, hdx⟩ : ∃ dx : ByteArray, dx = ⟨(Lib.itoa x).toArray⟩ := ⟨_, rfl⟩
      have dz : dx.size ≤ 21 := by
        have : dx.size = (Lib.itoa x).length := by rw [hdx]; exact List.size_toArray
        omega
      rw [← hdx] at D1
      have J2 : Hid (s ++ (⟨#[32]⟩ : ByteArray) ++ dx = ⟨(fldW [] (l.take (i + 1))).toArray⟩) := by
        show _ = _
        rw [List.take_succ_eq_append_getElem hiN, fldW_snoc, J.out, hdx, hxo]
        rw [show (⟨#[32]⟩ : ByteArray) = ⟨([32] : List UInt8).toArray⟩ from rfl, app_str, app_str, List.append_assoc]
        rfl
      have k1 : ¬ 9223372036854775807 < s.size + 1 := by omega
      have k2 : ¬ 9223372036854775807 < s.size + 1 + dx.size := by omega
      subst ea
      clear hx hxo hx2 hdx sz szb dz S1 D IT LN J
      go_wp2_with fail
      refine D1.out.mono ?_
      rintro e w3 ⟨rfl, b3⟩
      have Z3 := Lib.hid (btrans Z.out b3)
      clear D1 b3
      go_wp2
      go_roundw
      case rel => exact ⟨i + 1, _, rfl, by go_num, by omega, J2, Z3⟩
      case measure => simp [intOf]; omega
    · have hlI : ¬ (i : Int) < (n : Int) := by omega
      have he : s = res := by
        rw [J.out, hres.out]
        have : i = l.length := by have := hn.out; omega
        rw [this, List.take_length]
      subst he
      clear J D IT LN
      go_wp2
      go_ret
      exact ⟨rfl, Z.out⟩
set_option maxRecDepth 8000 in
set_option maxHeartbeats 4000000 in
theorem rfields_any (w : World) (u : Nat) (hu : u64ok u) (sg : ByteArray) (hsg : sg.size ≤ 10) :
    Calls Tryd.prog 40 #[.int .u64 (u : Int), .string sg] w fun e w' => e = .returned (.string ⟨(fldW sg.data.toList (bitsK u 64)).toArray⟩) ∧ Below w.heap.size w w' := by
  obtain ⟨res, hres⟩ : ∃ res : ByteArray, res = ⟨(fldW sg.data.toList (bitsK u 64)).toArray⟩ := ⟨_, rfl⟩
  rw [← hres]
  have BT : Hid (∀ i, (bits .and .u64 ((u : Int) / 2 ^ i) 1 == 1) = u.testBit i) := fun i => bit_test u i hu
  have D : Hid (∀ v (i : Nat), i < 64 → Calls Tryd.prog 38 #[.int .i64 (i : Int)] v fun e w' => e = .returned (.string ⟨(Lib.itoa (i : Int)).toArray⟩) ∧ Below v.heap.size v w') := fun v i hi => rdecimal_any v (i : Int) (by omega) (by omega)
  have LN : Hid (∀ i, i ≤ 64 → (fldW sg.data.toList (bitsK u i)).length ≤ 3200000) := fun i hi => fld_le _ _ (fun n hn => by
    unfold bitsK at hn
    obtain ⟨j, hj, rfl⟩ := List.mem_map.1 hn
    have := List.mem_range.1 (List.mem_filter.1 hj).1
    omega) (Nat.le_trans (bitsK_le u i) (by omega)) (by rw [← size_data]; exact hsg)
  have hsgI : sg.size ≤ 10 := hsg
  replace hres := Lib.hid hres
  have J0 : Hid ((⟨#[]⟩ : ByteArray) = ⟨(fldW sg.data.toList (bitsK u 0)).toArray⟩) := rfl
  clear hu hsg
  go_enter Tryd.func40, Tryd.ntmps40
  go_wp2
  go_loopw [5, 6] (fun sv iv wr => ∃ (i : Nat) (s : ByteArray), sv = .string s ∧ iv = .int .i64 (i : Int) ∧ i ≤ 64 ∧ Hid (s = ⟨(fldW sg.data.toList (bitsK u i)).toArray⟩) ∧ Hid (Below w.heap.size w wr)) (fun _ iv _ => 64 - (intOf iv).toNat)
  case atStart => exact ⟨0, ⟨#[]⟩, rfl, rfl, Nat.zero_le _, J0, Below.refl _ _⟩
  case round =>
    obtain ⟨i, s, rfl, rfl, hi, J, Z⟩ := hrel
    clear J0
    by_cases hlt : i < 64
    · have hlI : (i : Int) < 64 := by omega
      have b1 := BT.out i
      have sz : s.size = (fldW sg.data.toList (bitsK u i)).length := by rw [J.out]; exact List.size_toArray
      have szb : s.size ≤ 3200000 := by rw [sz]; exact LN.out i hi
      by_cases hb : u.testBit i = true
      · rw [hb] at b1
        have D1 := Lib.hid (D.out wr i hlt)
        obtain ⟨dx, hdx⟩ : ∃ dx : ByteArray, dx = ⟨(Lib.itoa (i : Int)).toArray⟩ := ⟨_, rfl⟩
        have dz : dx.size ≤ 21 := by
          have h1 : dx.size = (Lib.itoa (i : Int)).length := by rw [hdx]; exact List.size_toArray
          have h2 := itoa_le (i : Int) (by omega)
          omega
        rw [← hdx] at D1
        have J2 : Hid (s ++ (⟨#[32]⟩ : ByteArray) ++ sg ++ dx = ⟨(fldW sg.data.toList (bitsK u (i + 1))).toArray⟩) := by
          show _ = _
          rw [bitsK_yes hb, fldW_snoc, J.out, hdx]
          have e : sg = ⟨sg.data.toList.toArray⟩ := by cases sg; rfl
          have e2 : (⟨#[32]⟩ : ByteArray) = ⟨([32] : List UInt8).toArray⟩ := rfl
          refine ((str_eq _ _).2 ?_).symm
          rw [cat_data, cat_data, cat_data]
          simp
        have k1 : ¬ 9223372036854775807 < s.size + 1 := by omega
        have k2 : ¬ 9223372036854775807 < s.size + 1 + sg.size := by omega
        have k3 : ¬ 9223372036854775807 < s.size + 1 + sg.size + dx.size := by omega
        clear hb hdx sz szb dz D LN J BT
        go_wp2_with fail
        refine D1.out.mono ?_
        rintro e w3 ⟨rfl, b3⟩
        have Z3 := Lib.hid (btrans Z.out b3)
        clear D1 b3
        go_wp2
        go_roundw
        case rel => exact ⟨i + 1, _, rfl, by go_num, by omega, J2, Z3⟩
        case measure => simp [intOf]; omega
      · rw [Bool.not_eq_true] at hb
        rw [hb] at b1
        have J2 : Hid (s = ⟨(fldW sg.data.toList (bitsK u (i + 1))).toArray⟩) := by rw [bitsK_no hb]; exact J
        clear hb sz szb D LN J BT
        go_wp2
        go_roundw
        case rel => exact ⟨i + 1, s, rfl, by go_num, by omega, J2, Z⟩
        case measure => simp [intOf]; omega
    · have hlI : ¬ (i : Int) < 64 := by omega
      have he : s = res := by
        rw [J.out, hres.out]
        have : i = 64 := by omega
        rw [this]
      subst he
      clear J D LN BT
      go_wp2
      go_ret
      exact ⟨rfl, Z.out⟩
end Go.Proofs.YtjacphcnanopjaaDoor
