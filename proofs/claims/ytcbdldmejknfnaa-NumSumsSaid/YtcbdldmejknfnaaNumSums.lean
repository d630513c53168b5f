/- The walks of layer num's sums, differences and products. No conditions but those of Go's int. -/
import Derived.Test.YtcbdldmejknfnaaNumMod
import Derived.Test.YtcbdldmejknfnaaOpen
namespace Go.Proofs.Ytcbdldmejknfnaa
open Go.RowKit

def fB (x : Int) : Prop := -1048576 ≤ x ∧ x ≤ 1048576
instance (x : Int) : Decidable (fB x) := inferInstanceAs (Decidable (_ ∧ _))
def opS (a b n : Int) : Int × Bool := if fB a ∧ fB b ∧ fB n then (n, true) else (0, false)
theorem inB_one {x : Int} (h : fB x) : inB [x] = true := decide_eq_true (fun i hi => by match i, hi with | 0, _ => exact h)
theorem inB_one_no {x : Int} (h : ¬ fB x) : inB [x] = false := decide_eq_false (fun g => h (g 0 (by simp)))
theorem inB_two {x y : Int} (h : fB x) (h2 : fB y) : inB [x, y] = true := decide_eq_true (fun i hi => by match i, hi with | 0, _ => exact h | 1, _ => exact h2)
theorem inB_two_no {x y : Int} (h : ¬ (fB x ∧ fB y)) : inB [x, y] = false := decide_eq_false (fun g => h ⟨g 0 (by simp), g 1 (by simp)⟩)

theorem rwithin_any (w : World) (n : Int) : Calls Try.prog 34 #[.int .i64 n] w fun e w' => e = .returned (.bool (decide (fB n))) ∧ w = w' := by
  by_cases h1 : -1048576 ≤ n
  · by_cases h2 : n ≤ 1048576
    · go_enter Try.func34, Try.ntmps34
      go_wp2
      go_ret
      exact ⟨ret_bool (decide_eq_true (show fB n from ⟨h1, h2⟩)).symm, rfl⟩
    · have h3 : decide (n ≤ 1048576) = false := by simpa using h2
      go_enter Try.func34, Try.ntmps34
      go_wp2
      go_ret
      exact ⟨ret_bool (decide_eq_false (fun h : fB n => by have := h.2; omega)).symm, rfl⟩
  · have h3 : decide (-1048576 ≤ n) = false := by simpa using h1
    go_enter Try.func34, Try.ntmps34
    go_wp2
    go_ret
    exact ⟨ret_bool (decide_eq_false (fun h : fB n => by have := h.1; omega)).symm, rfl⟩

theorem told_any (w : World) (a b n m : Int) (hm : fB a ∧ fB b → m = n) : Calls Try.prog 33 #[.int .i64 a, .int .i64 b, .int .i64 m] w fun e w' => e = .returned (.tuple #[.int .i64 (opS a b n).1, .bool (opS a b n).2]) ∧ w = w' := by
  have hm2 := Lib.hid hm
  clear hm
  have c1 := Lib.hid (fun w => rwithin_any w a)
  have c2 := Lib.hid (fun w => rwithin_any w b)
  have c3 := Lib.hid (fun w => rwithin_any w m)
  by_cases h1 : fB a
  · have e1 : decide (fB a) = true := by simpa using h1
    by_cases h2 : fB b
    · have e2 : decide (fB b) = true := by simpa using h2
      obtain rfl := hm2.out ⟨h1, h2⟩
      by_cases h3 : fB m
      · have e3 : decide (fB m) = true := by simpa using h3
        have hf := Lib.hid (show opS a b m = (m, true) from if_pos ⟨h1, h2, h3⟩)
        clear h1 h2 h3
        rw [e1] at c1
        rw [e2] at c2
        rw [e3] at c3
        go_enter Try.func33, Try.ntmps33
        go_wp2_with fail
        refine (c1.out _).mono ?_
        rintro e w' ⟨rfl, rfl⟩
        go_wp2_with fail
        refine (c2.out _).mono ?_
        rintro e w' ⟨rfl, rfl⟩
        go_wp2_with fail
        refine (c3.out _).mono ?_
        rintro e w' ⟨rfl, rfl⟩
        go_wp2
        go_ret2
        exact ⟨by rw [hf.out]; rfl, rfl⟩
      · have e3 : decide (fB m) = false := by simpa using h3
        have hf := Lib.hid (show opS a b m = (0, false) from if_neg (fun h => h3 h.2.2))
        clear h1 h2 h3
        rw [e1] at c1
        rw [e2] at c2
        rw [e3] at c3
        go_enter Try.func33, Try.ntmps33
        go_wp2_with fail
        refine (c1.out _).mono ?_
        rintro e w' ⟨rfl, rfl⟩
        go_wp2_with fail
        refine (c2.out _).mono ?_
        rintro e w' ⟨rfl, rfl⟩
        go_wp2_with fail
        refine (c3.out _).mono ?_
        rintro e w' ⟨rfl, rfl⟩
        go_wp2
        go_ret2
        exact ⟨by rw [hf.out]; rfl, rfl⟩
    · have e2 : decide (fB b) = false := by simpa using h2
      have hf := Lib.hid (show opS a b n = (0, false) from if_neg (fun h => h2 h.2.1))
      clear h1 h2
      rw [e1] at c1
      rw [e2] at c2
      go_enter Try.func33, Try.ntmps33
      go_wp2_with fail
      refine (c1.out _).mono ?_
      rintro e w' ⟨rfl, rfl⟩
      go_wp2_with fail
      refine (c2.out _).mono ?_
      rintro e w' ⟨rfl, rfl⟩
      go_wp2
      go_ret2
      exact ⟨by rw [hf.out]; rfl, rfl⟩
  · have e1 : decide (fB a) = false := by simpa using h1
    have hf := Lib.hid (show opS a b n = (0, false) from if_neg (fun h => h1 h.1))
    clear h1
    rw [e1] at c1
    go_enter Try.func33, Try.ntmps33
    go_wp2_with fail
    refine (c1.out _).mono ?_
    rintro e w' ⟨rfl, rfl⟩
    go_wp2
    go_ret2
    exact ⟨by rw [hf.out]; rfl, rfl⟩

theorem add_any (w : World) (a b : Int) : Calls Try.prog 22 #[.int .i64 a, .int .i64 b] w fun e w' => e = .returned (.tuple #[.int .i64 (opS a b (a + b)).1, .bool (opS a b (a + b)).2]) ∧ Below w.heap.size w w' := by
  by_cases hab : fB a ∧ fB b
  · have i1 := inB_two hab.1 hab.2
    have bd1 : -1048576 ≤ a ∧ a ≤ 1048576 := hab.1
    have bd2 : -1048576 ≤ b ∧ b ≤ 1048576 := hab.2
    have hbd : a + b ≤ 2097152 ∧ -2097152 ≤ a + b := by unfold fB at hab; omega
    by_cases hn : fB (a + b)
    · have i2 := inB_one hn
      have hf := Lib.hid (show opS a b (a + b) = (a + b, true) from if_pos ⟨hab.1, hab.2, hn⟩)
      clear hab hn
      go_enter Try.func22, Try.ntmps22
      go_wp2_with fail
      go_in
      go_wp2_with fail
      refine (within_any _ _ _ _ [a, b] (ints_new2 (by simp) a b) rfl (by simp)).mono ?_
      rintro e w' ⟨rfl, rfl⟩
      rw [i1]
      go_wp2_with fail
      go_in
      go_wp2_with fail
      refine (within_any _ _ _ _ [a + b] (ints_new1 (by simp) (a + b)) rfl (by simp)).mono ?_
      rintro e w' ⟨rfl, rfl⟩
      rw [i2]
      go_wp2
      go_ret2
      exact ⟨by rw [hf.out]; rfl, balloc (balloc (balloc (Below.refl _ _) _) _) _⟩
    · have i2 := inB_one_no hn
      have hf := Lib.hid (show opS a b (a + b) = (0, false) from if_neg (fun h => hn h.2.2))
      clear hab hn
      go_enter Try.func22, Try.ntmps22
      go_wp2_with fail
      go_in
      go_wp2_with fail
      refine (within_any _ _ _ _ [a, b] (ints_new2 (by simp) a b) rfl (by simp)).mono ?_
      rintro e w' ⟨rfl, rfl⟩
      rw [i1]
      go_wp2_with fail
      go_in
      go_wp2_with fail
      refine (within_any _ _ _ _ [a + b] (ints_new1 (by simp) (a + b)) rfl (by simp)).mono ?_
      rintro e w' ⟨rfl, rfl⟩
      rw [i2]
      go_wp2
      go_ret2
      exact ⟨by rw [hf.out]; rfl, balloc (balloc (balloc (Below.refl _ _) _) _) _⟩
  · have i1 := inB_two_no hab
    have hf := Lib.hid (show opS a b (a + b) = (0, false) from if_neg (fun h => hab ⟨h.1, h.2.1⟩))
    clear hab
    go_enter Try.func22, Try.ntmps22
    go_wp2_with fail
    go_in
    go_wp2_with fail
    refine (within_any _ _ _ _ [a, b] (ints_new2 (by simp) a b) rfl (by simp)).mono ?_
    rintro e w' ⟨rfl, rfl⟩
    rw [i1]
    go_wp2
    go_ret2
    exact ⟨by rw [hf.out]; rfl, balloc (balloc (Below.refl _ _) _) _⟩

theorem radd_any (w : World) (a b : Int) : Calls Try.prog 25 #[.int .i64 a, .int .i64 b] w fun e w' => e = .returned (.tuple #[.int .i64 (opS a b (a + b)).1, .bool (opS a b (a + b)).2]) ∧ Below w.heap.size w w' := by
  have hm : fB a ∧ fB b → wrap64 (a + b) = a + b := fun hab => by
    have hbd : a + b ≤ 2097152 ∧ -2097152 ≤ a + b := by unfold fB at hab; omega
    exact IntWalk.wrap64_in _ ⟨by omega, by omega⟩
  have c1 := Lib.hid (fun w => told_any w a b (a + b) (wrap64 (a + b)) hm)
  clear hm
  go_enter Try.func25, Try.ntmps25
  go_wp2_with fail
  refine (c1.out _).mono ?_
  rintro e w' ⟨rfl, rfl⟩
  go_wp2
  go_ret2
  exact ⟨rfl, Below.refl _ _⟩

theorem sub_any (w : World) (a b : Int) : Calls Try.prog 23 #[.int .i64 a, .int .i64 b] w fun e w' => e = .returned (.tuple #[.int .i64 (opS a b (a - b)).1, .bool (opS a b (a - b)).2]) ∧ Below w.heap.size w w' := by
  by_cases hab : fB a ∧ fB b
  · have i1 := inB_two hab.1 hab.2
    have bd1 : -1048576 ≤ a ∧ a ≤ 1048576 := hab.1
    have bd2 : -1048576 ≤ b ∧ b ≤ 1048576 := hab.2
    have hbd : a - b ≤ 2097152 ∧ -2097152 ≤ a - b := by unfold fB at hab; omega
    by_cases hn : fB (a - b)
    · have i2 := inB_one hn
      have hf := Lib.hid (show opS a b (a - b) = (a - b, true) from if_pos ⟨hab.1, hab.2, hn⟩)
      clear hab hn
      go_enter Try.func23, Try.ntmps23
      go_wp2_with fail
      go_in
      go_wp2_with fail
      refine (within_any _ _ _ _ [a, b] (ints_new2 (by simp) a b) rfl (by simp)).mono ?_
      rintro e w' ⟨rfl, rfl⟩
      rw [i1]
      go_wp2_with fail
      go_in
      go_wp2_with fail
      refine (within_any _ _ _ _ [a - b] (ints_new1 (by simp) (a - b)) rfl (by simp)).mono ?_
      rintro e w' ⟨rfl, rfl⟩
      rw [i2]
      go_wp2
      go_ret2
      exact ⟨by rw [hf.out]; rfl, balloc (balloc (balloc (Below.refl _ _) _) _) _⟩
    · have i2 := inB_one_no hn
      have hf := Lib.hid (show opS a b (a - b) = (0, false) from if_neg (fun h => hn h.2.2))
      clear hab hn
      go_enter Try.func23, Try.ntmps23
      go_wp2_with fail
      go_in
      go_wp2_with fail
      refine (within_any _ _ _ _ [a, b] (ints_new2 (by simp) a b) rfl (by simp)).mono ?_
      rintro e w' ⟨rfl, rfl⟩
      rw [i1]
      go_wp2_with fail
      go_in
      go_wp2_with fail
      refine (within_any _ _ _ _ [a - b] (ints_new1 (by simp) (a - b)) rfl (by simp)).mono ?_
      rintro e w' ⟨rfl, rfl⟩
      rw [i2]
      go_wp2
      go_ret2
      exact ⟨by rw [hf.out]; rfl, balloc (balloc (balloc (Below.refl _ _) _) _) _⟩
  · have i1 := inB_two_no hab
    have hf := Lib.hid (show opS a b (a - b) = (0, false) from if_neg (fun h => hab ⟨h.1, h.2.1⟩))
    clear hab
    go_enter Try.func23, Try.ntmps23
    go_wp2_with fail
    go_in
    go_wp2_with fail
    refine (within_any _ _ _ _ [a, b] (ints_new2 (by simp) a b) rfl (by simp)).mono ?_
    rintro e w' ⟨rfl, rfl⟩
    rw [i1]
    go_wp2
    go_ret2
    exact ⟨by rw [hf.out]; rfl, balloc (balloc (Below.refl _ _) _) _⟩

theorem rsub_any (w : World) (a b : Int) : Calls Try.prog 26 #[.int .i64 a, .int .i64 b] w fun e w' => e = .returned (.tuple #[.int .i64 (opS a b (a - b)).1, .bool (opS a b (a - b)).2]) ∧ Below w.heap.size w w' := by
  have hm : fB a ∧ fB b → wrap64 (a - b) = a - b := fun hab => by
    have hbd : a - b ≤ 2097152 ∧ -2097152 ≤ a - b := by unfold fB at hab; omega
    exact IntWalk.wrap64_in _ ⟨by omega, by omega⟩
  have c1 := Lib.hid (fun w => told_any w a b (a - b) (wrap64 (a - b)) hm)
  clear hm
  go_enter Try.func26, Try.ntmps26
  go_wp2_with fail
  refine (c1.out _).mono ?_
  rintro e w' ⟨rfl, rfl⟩
  go_wp2
  go_ret2
  exact ⟨rfl, Below.refl _ _⟩

theorem mul_any (w : World) (a b : Int) : Calls Try.prog 24 #[.int .i64 a, .int .i64 b] w fun e w' => e = .returned (.tuple #[.int .i64 (opS a b (a * b)).1, .bool (opS a b (a * b)).2]) ∧ Below w.heap.size w w' := by
  by_cases hab : fB a ∧ fB b
  · have i1 := inB_two hab.1 hab.2
    have bd1 : -1048576 ≤ a ∧ a ≤ 1048576 := hab.1
    have bd2 : -1048576 ≤ b ∧ b ≤ 1048576 := hab.2
    have hbd : a * b ≤ 1099511627776 ∧ -1099511627776 ≤ a * b := by
      have h1 : (a * b).natAbs ≤ 1048576 * 1048576 := by rw [Int.natAbs_mul]; exact Nat.mul_le_mul (by unfold fB at hab; omega) (by unfold fB at hab; omega)
      omega
    by_cases hn : fB (a * b)
    · have i2 := inB_one hn
      have hf := Lib.hid (show opS a b (a * b) = (a * b, true) from if_pos ⟨hab.1, hab.2, hn⟩)
      clear hab hn
      go_enter Try.func24, Try.ntmps24
      go_wp2_with fail
      go_in
      go_wp2_with fail
      refine (within_any _ _ _ _ [a, b] (ints_new2 (by simp) a b) rfl (by simp)).mono ?_
      rintro e w' ⟨rfl, rfl⟩
      rw [i1]
      go_wp2_with fail
      go_in
      go_wp2_with fail
      refine (within_any _ _ _ _ [a * b] (ints_new1 (by simp) (a * b)) rfl (by simp)).mono ?_
      rintro e w' ⟨rfl, rfl⟩
      rw [i2]
      go_wp2
      go_ret2
      exact ⟨by rw [hf.out]; rfl, balloc (balloc (balloc (Below.refl _ _) _) _) _⟩
    · have i2 := inB_one_no hn
      have hf := Lib.hid (show opS a b (a * b) = (0, false) from if_neg (fun h => hn h.2.2))
      clear hab hn
      go_enter Try.func24, Try.ntmps24
      go_wp2_with fail
      go_in
      go_wp2_with fail
      refine (within_any _ _ _ _ [a, b] (ints_new2 (by simp) a b) rfl (by simp)).mono ?_
      rintro e w' ⟨rfl, rfl⟩
      rw [i1]
      go_wp2_with fail
      go_in
      go_wp2_with fail
      refine (within_any _ _ _ _ [a * b] (ints_new1 (by simp) (a * b)) rfl (by simp)).mono ?_
      rintro e w' ⟨rfl, rfl⟩
      rw [i2]
      go_wp2
      go_ret2
      exact ⟨by rw [hf.out]; rfl, balloc (balloc (balloc (Below.refl _ _) _) _) _⟩
  · have i1 := inB_two_no hab
    have hf := Lib.hid (show opS a b (a * b) = (0, false) from if_neg (fun h => hab ⟨h.1, h.2.1⟩))
    clear hab
    go_enter Try.func24, Try.ntmps24
    go_wp2_with fail
    go_in
    go_wp2_with fail
    refine (within_any _ _ _ _ [a, b] (ints_new2 (by simp) a b) rfl (by simp)).mono ?_
    rintro e w' ⟨rfl, rfl⟩
    rw [i1]
    go_wp2
    go_ret2
    exact ⟨by rw [hf.out]; rfl, balloc (balloc (Below.refl _ _) _) _⟩

theorem rmul_any (w : World) (a b : Int) : Calls Try.prog 27 #[.int .i64 a, .int .i64 b] w fun e w' => e = .returned (.tuple #[.int .i64 (opS a b (a * b)).1, .bool (opS a b (a * b)).2]) ∧ Below w.heap.size w w' := by
  have hm : fB a ∧ fB b → wrap64 (a * b) = a * b := fun hab => by
    have hbd : a * b ≤ 1099511627776 ∧ -1099511627776 ≤ a * b := by
      have h1 : (a * b).natAbs ≤ 1048576 * 1048576 := by rw [Int.natAbs_mul]; exact Nat.mul_le_mul (by unfold fB at hab; omega) (by unfold fB at hab; omega)
      omega
    exact IntWalk.wrap64_in _ ⟨by omega, by omega⟩
  have c1 := Lib.hid (fun w => told_any w a b (a * b) (wrap64 (a * b)) hm)
  clear hm
  go_enter Try.func27, Try.ntmps27
  go_wp2_with fail
  refine (c1.out _).mono ?_
  rintro e w' ⟨rfl, rfl⟩
  go_wp2
  go_ret2
  exact ⟨rfl, Below.refl _ _⟩

theorem numSums_walk (W : World) (a : Int) (_ha : -9223372036854775808 ≤ a ∧ a ≤ 9223372036854775807) (b : Int) (_hb : -9223372036854775808 ≤ b ∧ b ≤ 9223372036854775807) :
    Calls Try.prog 9 #[.int .i64 a, .int .i64 b] W fun e w' => e = .returned (.bool true) ∧ Below W.heap.size W w' := by
  have c1 := fun w => add_any w a b
  have c2 := fun w => sub_any w a b
  have c3 := fun w => mul_any w a b
  have d1 := fun w => radd_any w a b
  have d2 := fun w => rsub_any w a b
  have d3 := fun w => rmul_any w a b
  generalize opS a b (a + b) = r1 at c1 d1
  generalize opS a b (a - b) = r2 at c2 d2
  generalize opS a b (a * b) = r3 at c3 d3
  obtain ⟨x, p⟩ := r1
  obtain ⟨y, q⟩ := r2
  obtain ⟨z, r⟩ := r3
  have C1 := Lib.hid c1
  have C2 := Lib.hid c2
  have C3 := Lib.hid c3
  have D1 := Lib.hid d1
  have D2 := Lib.hid d2
  have D3 := Lib.hid d3
  clear c1 c2 c3 d1 d2 d3
  have hx : (x == x) = true := by simp
  have hy : (y == y) = true := by simp
  have hz : (z == z) = true := by simp
  go_enter Try.func9, Try.ntmps9
  go_wp2_with fail
  refine (C1.out _).mono ?_
  rintro e w1 ⟨rfl, b1⟩
  go_wp2_with fail
  refine (C2.out _).mono ?_
  rintro e w2 ⟨rfl, b2⟩
  have b2 := btrans b1 b2
  go_wp2_with fail
  refine (C3.out _).mono ?_
  rintro e w3 ⟨rfl, b3⟩
  have b3 := btrans b2 b3
  go_wp2_with fail
  refine (D1.out _).mono ?_
  rintro e w4 ⟨rfl, b4⟩
  have b4 := btrans b3 b4
  go_wp2_with fail
  refine (D2.out _).mono ?_
  rintro e w5 ⟨rfl, b5⟩
  have b5 := btrans b4 b5
  go_wp2_with fail
  refine (D3.out _).mono ?_
  rintro e w6 ⟨rfl, b6⟩
  have b6 := btrans b5 b6
  go_wp2_with fail
  refine (lives_true _).mono ?_
  rintro e w7 ⟨rfl, b7⟩
  go_wp2
  go_ret
  exact ⟨rfl, btrans b6 b7⟩
end Go.Proofs.Ytcbdldmejknfnaa
