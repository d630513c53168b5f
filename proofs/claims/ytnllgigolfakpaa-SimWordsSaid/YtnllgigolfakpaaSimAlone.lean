/- A node by itself. Conditions: the sizes of its numbers. -/
import Derived.Test.YtnllgigolfakpaaSimPlain
import Derived.Test.YtnllgigolfakpaaMem
import Derived.Laws.BitsLemmas
import Derived.Laws.Bits64
import Derived.Laws.Bits64b
import Derived.Laws.BitsAllLaws
namespace Go.Proofs.Ytnllgigolfakpaa
open Go.RowKit

theorem not_bit (b i : Nat) (hb : b < 18446744073709551616) : (18446744073709551615 - b).testBit i = (decide (i < 64) && !b.testBit i) := by
  have h := Nat.testBit_two_pow_sub_succ (n := 64) (x := b) hb i
  rw [show (2 : Nat) ^ 64 - (b + 1) = 18446744073709551615 - b by omega] at h
  exact h
theorem big_bit {a i : Nat} (ha : a < 18446744073709551616) (h : a.testBit i = true) : i < 64 := by
  refine Nat.lt_of_not_le fun hi => ?_
  have : a.testBit i = false := Nat.testBit_lt_two_pow (Nat.lt_of_lt_of_le ha (by rw [show 18446744073709551616 = 2 ^ 64 from rfl]; exact Nat.pow_le_pow_right (by omega) hi))
  rw [this] at h
  cases h
theorem mask_not {a b m : Nat} (ha : a < 18446744073709551616) (hb : b < 18446744073709551616) : ((a &&& (18446744073709551615 - b)) &&& m = 0) ↔ ((a &&& b) &&& m = a &&& m) := by
  constructor
  · intro h
    apply Nat.eq_of_testBit_eq
    intro i
    have h1 := congrArg (fun n => n.testBit i) h
    simp only [Nat.testBit_and, Nat.zero_testBit, not_bit b i hb] at h1 ⊢
    cases h2 : a.testBit i with
    | false => simp
    | true =>
      have := big_bit ha h2
      rw [h2] at h1
      simp [this] at h1
      cases h3 : m.testBit i with
      | false => simp
      | true =>
        cases h4 : b.testBit i with
        | true => rfl
        | false => simp [h3, h4] at h1
  · intro h
    apply Nat.eq_of_testBit_eq
    intro i
    have h1 := congrArg (fun n => n.testBit i) h
    simp only [Nat.testBit_and, Nat.zero_testBit, not_bit b i hb] at h1 ⊢
    cases h2 : a.testBit i with
    | false => simp
    | true =>
      rw [h2] at h1
      cases h3 : m.testBit i with
      | false => simp
      | true =>
        rw [h3] at h1
        cases h4 : b.testBit i with
        | true => simp
        | false => rw [h4] at h1; cases h1
theorem all_and {a : Nat} (ha : a < 18446744073709551616) : a &&& 18446744073709551615 = a := by
  rw [show 18446744073709551615 = 2 ^ 64 - 1 from rfl, Nat.and_two_pow_sub_one_eq_mod]
  exact Nat.mod_eq_of_lt ha
theorem and_not {a b : Nat} (ha : a < 18446744073709551616) (hb : b < 18446744073709551616) : (a &&& (18446744073709551615 - b) = 0) ↔ (a &&& b = a) := by
  have h := mask_not (m := 18446744073709551615) ha hb
  rwa [all_and (Nat.lt_of_le_of_lt Nat.and_le_left ha), all_and (Nat.lt_of_le_of_lt Nat.and_le_left ha), all_and ha] at h
theorem andNot_test {a b : Nat} (ha : a < 18446744073709551616) (hb : b < 18446744073709551616) : (bits .andNot .u64 (a : Int) (b : Int) == 0) = (a &&& b == a) := by
  rw [u64_andNot_nat a b ha hb]
  by_cases h : a &&& b = a
  · rw [(and_not ha hb).2 h]
    simp [h]
  · have h2 : ¬ a &&& (18446744073709551615 - b) = 0 := fun e => h ((and_not ha hb).1 e)
    have e1 : (a &&& b == a) = false := by simpa using h
    rw [e1]
    simp only [beq_eq_false_iff_ne]
    omega
theorem andNot_mask {a b m : Nat} (ha : a < 18446744073709551616) (hb : b < 18446744073709551616) (hm : m < 18446744073709551616) : (bits .and .u64 (bits .andNot .u64 (a : Int) (b : Int)) (m : Int) == 0) = ((a &&& b) &&& m == a &&& m) := by
  rw [u64_andNot_nat a b ha hb, bits_and_u64_nat _ m (Nat.lt_of_le_of_lt Nat.and_le_left ha) hm]
  by_cases h : (a &&& b) &&& m = a &&& m
  · rw [(mask_not ha hb).2 h]
    simp [h]
  · have h2 : ¬ (a &&& (18446744073709551615 - b)) &&& m = 0 := fun e => h ((mask_not ha hb).1 e)
    have e1 : ((a &&& b) &&& m == a &&& m) = false := by simpa using h
    rw [e1]
    simp only [beq_eq_false_iff_ne]
    omega

abbrev TNd : Nat := 43
/-- a node whose numbers are Go's -/
def okN (x : AN) : Prop := x.need < 18446744073709551616 ∧ x.ban < 18446744073709551616 ∧ x.inn < 18446744073709551616
set_option maxHeartbeats 2000000 in
theorem alone_any (w : World) (x y : AN) (vx vy : Value) (hx : okN x) (hy : okN y) (s : Nat) (hs : s ≤ 16) :
    Calls Try.prog 22 #[.agg #[.int .u64 x.need, .int .u64 x.ban, .int .u64 x.inn, vx], .agg #[.int .u64 y.need, .int .u64 y.ban, .int .u64 y.inn, vy], .int .i64 s] w fun e w' => e = .returned (.bool (aloB s x y)) ∧ Below w.heap.size w w' := by
  obtain ⟨m, hm⟩ : ∃ m, m = 2 ^ s - 1 := ⟨_, rfl⟩
  have hp : 2 ^ s ≤ 2 ^ 16 := Nat.pow_le_pow_right (by omega) hs
  have hp0 : 0 < 2 ^ s := Nat.two_pow_pos s
  have q1 := andNot_test hy.1 hx.1
  have q2 := andNot_test hy.2.1 hx.2.1
  have q3 := andNot_mask (m := m) hx.2.2 hy.2.2 (by omega)
  have hr : aloB s x y = ((y.need &&& x.need == y.need) && ((y.ban &&& x.ban == y.ban) && ((x.inn &&& y.inn) &&& m == x.inn &&& m))) := by unfold aloB; rw [← hm]
  generalize (y.need &&& x.need == y.need) = b1 at q1 hr
  generalize (y.ban &&& x.ban == y.ban) = b2 at q2 hr
  generalize ((x.inn &&& y.inn) &&& m == x.inn &&& m) = b3 at q3 hr
  have e1 : IntKind.u64.wrap ((2 : Int) ^ s) = (m : Int) + 1 := by
    have e : ((2 : Int) ^ s) = ((2 ^ s : Nat) : Int) := by push_cast; rfl
    rw [e, IntWalk.u64_in _ (by omega)]
    omega
  have e2 : IntKind.u64.wrap (m : Int) = (m : Int) := IntWalk.u64_in _ (by omega)
  have hs2 : (s : Int) ≤ 64 := by omega
  obtain ⟨xn, xb, xi, xt⟩ := x
  obtain ⟨yn, yb, yi, yt⟩ := y
  simp only at q1 q2 q3
  rw [hr]
  replace hr := Lib.hid hr
  replace hm := Lib.hid hm
  clear hx hy hp hp0 hr hm
  cases b1 with
  | false =>
    go_enter Try.func22, Try.ntmps22
    go_wp2
    go_ret
    exact ⟨rfl, balloc (balloc (Below.refl _ _) _) _⟩
  | true =>
    cases b2 with
    | false =>
      go_enter Try.func22, Try.ntmps22
      go_wp2
      go_ret
      exact ⟨rfl, balloc (balloc (Below.refl _ _) _) _⟩
    | true =>
      go_enter Try.func22, Try.ntmps22
      go_wp2
      go_ret
      exact ⟨rfl, balloc (balloc (Below.refl _ _) _) _⟩
theorem alone_any2 (w : World) (x y : AN) (vx vy : Value) (hx : okN x) (hy : okN y) (S : Int) (s : Nat) (hS : S = (s : Int)) (hs : s ≤ 16) :
    Calls Try.prog 22 #[.agg #[.int .u64 x.need, .int .u64 x.ban, .int .u64 x.inn, vx], .agg #[.int .u64 y.need, .int .u64 y.ban, .int .u64 y.inn, vy], .int .i64 S] w fun e w' => e = .returned (.bool (aloB s x y)) ∧ Below w.heap.size w w' := by
  subst hS
  exact alone_any w x y vx vy hx hy s hs
end Go.Proofs.Ytnllgigolfakpaa
