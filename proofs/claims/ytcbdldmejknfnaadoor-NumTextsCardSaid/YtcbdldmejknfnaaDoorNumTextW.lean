/- Decimals and numbers of texts, walked. Conditions: what the listed variables hold; short texts. -/
import Derived.Test.YtcbdldmejknfnaaDoorNumTextD
import Derived.Test.YtcbdldmejknfnaaDoorNumTextP
import Derived.Test.YtcbdldmejknfnaaDoorNumLives
namespace Go.Proofs.YtcbdldmejknfnaaDoor
open Go.RowKit
set_option linter.unusedVariables false

theorem decimal_any (w : World) (hd : Door w) (n : Int) (h0 : -9223372036854775808 ≤ n) (h1 : n ≤ 9223372036854775807) :
    Calls Tryd.prog 5 #[.int .i64 n] w fun e w' => e = .returned (.string ⟨(Lib.itoa n).toArray⟩) ∧ Below w.heap.size w w' := by
  have C := Lib.hid (itoa_d n h0 h1 w hd)
  go_enter Tryd.func5, Tryd.ntmps5
  go_wp2_with fail
  refine C.out.mono ?_
  rintro e w' ⟨rfl, hb⟩
  go_wp2
  go_ret
  exact ⟨rfl, hb⟩
theorem str_eq (l : List UInt8) (s : ByteArray) : (⟨l.toArray⟩ : ByteArray) = s ↔ l = s.data.toList := by
  cases s with
  | mk d => 
    constructor
    · intro h
      injection h with h
      rw [← h]
    · intro h
      have h : l = d.toList := h
      rw [h]
theorem str_no {u s : ByteArray} (h : ¬ u = s) : (u.toList == s.toList) = false := by
  rw [beq_eq_false_iff_ne]
  intro e
  rw [ByteArray.toList_eq, ByteArray.toList_eq] at e
  apply h
  cases u; cases s
  congr 1
  exact Array.toList_inj.1 e
theorem inB_v (v : Int) : inB [v] = within6 v := by
  unfold inB within6
  congr 1
  apply propext
  constructor
  · intro h; exact h 0 (by simp)
  · intro h i hi
    match i, hi with
    | 0, _ => exact h
set_option maxHeartbeats 4000000 in
theorem number_any (w : World) (hd : Door w) (s : ByteArray) (hs : s.size ≤ 281474976710656) :
    Calls Tryd.prog 6 #[.string s] w fun e w' => e = .returned (.tuple #[.int .i64 (numP s.data.toList).1, .bool (numP s.data.toList).2]) ∧ Below w.heap.size w w' := by
  obtain ⟨r, hr⟩ : ∃ r, r = numP s.data.toList := ⟨_, rfl⟩
  rw [← hr]
  have NO : (∀ v, Lib.atoiAll s.data.toList ≠ .ok v) → r = (0, false) → Calls Tryd.prog 6 #[.string s] w fun e w' => e = .returned (.tuple #[.int .i64 r.1, .bool r.2]) ∧ Below w.heap.size w w' := fun hn hr => by
    subst hr
    have C := Lib.hid (atoi_no_d s hs hn w hd)
    clear hd
    go_enter Tryd.func6, Tryd.ntmps6
    go_wp2_with fail
    refine C.out.mono ?_
    rintro e w1 ⟨x, T, p, rfl, hb1⟩
    go_wp2
    go_ret2
    exact ⟨rfl, hb1⟩
  cases ha : Lib.atoiAll s.data.toList with
  | ok v =>
    have hv := Lib.atoiAll_bounds ha
    unfold numP at hr
    rw [ha] at hr
    replace hr : r = if within6 v = true ∧ Lib.itoa v = s.data.toList then (v, true) else (0, false) := hr
    have C := Lib.hid (atoi_ok_d s (by omega) v ha w)
    have D := Lib.hid (fun w' (hb : Below w.heap.size w w') => decimal_any w' (hd.below hb) v hv.1 hv.2)
    clear NO
    replace hd := Lib.hid hd
    replace hv := Lib.hid hv
    replace ha := Lib.hid ha
    have hin := Lib.hid (inB_v v)
    cases hw : within6 v with
    | false =>
      have hr2 : r = (0, false) := by rw [hr, hw]; rfl
      subst hr2
      rw [hw] at hin
      clear hr hw
      go_enter Tryd.func6, Tryd.ntmps6
      go_wp2_with fail
      refine C.out.mono ?_
      rintro e w1 ⟨rfl, hb1⟩
      go_wp2_with fail
      refine (within_any _ _ _ _ [v] (ints_new1 rfl v) rfl (by simp)).mono ?_
      rintro e w2 ⟨rfl, rfl⟩
      rw [hin.out]
      go_wp2
      go_ret2
      exact ⟨rfl, balloc hb1 _⟩
    | true =>
      rw [hw] at hin
      by_cases hq : Lib.itoa v = s.data.toList
      · have hr2 : r = (v, true) := by rw [hr, hw, if_pos ⟨rfl, hq⟩]
        subst hr2
        have hqe : (⟨(Lib.itoa v).toArray⟩ : ByteArray) = s := (str_eq _ _).2 hq
        rw [hqe] at D
        clear hr hw hq hqe
        go_enter Tryd.func6, Tryd.ntmps6
        go_wp2_with fail
        refine C.out.mono ?_
        rintro e w1 ⟨rfl, hb1⟩
        go_wp2_with fail
        refine (within_any _ _ _ _ [v] (ints_new1 rfl v) rfl (by simp)).mono ?_
        rintro e w2 ⟨rfl, rfl⟩
        rw [hin.out]
        go_wp2_with fail
        refine (D.out _ (balloc hb1 _)).mono ?_
        rintro e w3 ⟨rfl, hb3⟩
        go_wp2
        go_ret2
        exact ⟨rfl, btrans (balloc hb1 _) hb3⟩
      · have hr2 : r = (0, false) := by rw [hr, hw, if_neg (fun h => hq h.2)]
        subst hr2
        obtain ⟨u, hu⟩ : ∃ u : ByteArray, u = ⟨(Lib.itoa v).toArray⟩ := ⟨_, rfl⟩
        have hqe : ¬ u = s := fun h => hq ((str_eq _ _).1 (hu.symm.trans h))
        have hqb := str_no hqe
        rw [← hu] at D
        clear hr hw hq hu hqe
        go_enter Tryd.func6, Tryd.ntmps6
        go_wp2_with fail
        refine C.out.mono ?_
        rintro e w1 ⟨rfl, hb1⟩
        go_wp2_with fail
        refine (within_any _ _ _ _ [v] (ints_new1 rfl v) rfl (by simp)).mono ?_
        rintro e w2 ⟨rfl, rfl⟩
        rw [hin.out]
        go_wp2_with fail
        refine (D.out _ (balloc hb1 _)).mono ?_
        rintro e w3 ⟨rfl, hb3⟩
        go_wp2
        go_ret2
        exact ⟨rfl, btrans (balloc hb1 _) hb3⟩
  | «syntax» => exact NO (fun v h => by rw [ha] at h; cases h) (by rw [hr]; unfold numP; rw [ha])
  | range => exact NO (fun v h => by rw [ha] at h; cases h) (by rw [hr]; unfold numP; rw [ha])
end Go.Proofs.YtcbdldmejknfnaaDoor
