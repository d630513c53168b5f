/- What a number leaves by another one, walked; the first example. No conditions but that the numbers are of Go's int. -/
import Derived.Test.YtcbdldmejknfnaaNumWalks2
namespace Go.Proofs.Ytcbdldmejknfnaa
open Go.RowKit

/-- what a number leaves by another one -/
def modS (n y : Int) : Int := if y = 0 then 0 else n % y

theorem tmod_facts (n y : Int) (hy : y ≠ 0) : (0 ≤ n.tmod y → n.tmod y = n % y) ∧ (n.tmod y < 0 → y < 0 → n.tmod y - y = n % y) ∧ (n.tmod y < 0 → 0 < y → n.tmod y + y = n % y) ∧ (y < 0 → y < n.tmod y ∧ n.tmod y < -y) ∧ (0 < y → -y < n.tmod y ∧ n.tmod y < y) := by
  have e := Int.tmod_eq_emod (a := n) (b := y)
  have h1 := Int.emod_nonneg n hy
  have h2 := Int.emod_lt n hy
  by_cases h : 0 ≤ n ∨ y ∣ n
  · rw [if_pos h] at e
    omega
  · rw [if_neg h] at e
    have h4 : n % y ≠ 0 := fun h0 => h (.inr (Int.dvd_of_emod_eq_zero h0))
    omega
theorem modS_of (n y : Int) (hy : y ≠ 0) : modS n y = n % y := by unfold modS; rw [if_neg hy]

theorem mod_any (w : World) (n y : Int) (hn : -9223372036854775808 ≤ n ∧ n ≤ 9223372036854775807) (hy : -9223372036854775808 ≤ y ∧ y ≤ 9223372036854775807) :
    Calls Try.prog 10 #[.int .i64 n, .int .i64 y] w fun e w' => e = .returned (.int .i64 (modS n y)) ∧ w = w' := by
  by_cases h0 : y = 0
  · subst h0
    go_enter Try.func10, Try.ntmps10
    go_wp2
    go_ret
    exact ⟨rfl, rfl⟩
  · have he := Lib.hid (modS_of n y h0)
    have hf := Lib.hid (tmod_facts n y h0)
    have hb : (y == 0) = false := by simpa using h0
    have f4 := hf.out.2.2.2.1
    have f5 := hf.out.2.2.2.2
    by_cases hr : 0 ≤ n.tmod y
    · go_enter Try.func10, Try.ntmps10
      go_wp2
      go_ret
      exact ⟨ret_int ((hf.out.1 hr).trans he.out.symm), rfl⟩
    · rcases Int.lt_or_gt_of_ne h0 with hs | hs
      · have q1 := (f4 hs).1
        have q2 := (f4 hs).2
        clear f4 f5
        go_enter Try.func10, Try.ntmps10
        go_wp2
        go_ret
        exact ⟨ret_int ((hf.out.2.1 (by omega) hs).trans he.out.symm), rfl⟩
      · have q1 := (f5 hs).1
        have q2 := (f5 hs).2
        clear f4 f5
        go_enter Try.func10, Try.ntmps10
        go_wp2
        go_ret
        exact ⟨ret_int ((hf.out.2.2.1 (by omega) hs).trans he.out.symm), rfl⟩

theorem rmod_any (w : World) (n y : Int) (hn : -9223372036854775808 ≤ n ∧ n ≤ 9223372036854775807) (hy : -9223372036854775808 ≤ y ∧ y ≤ 9223372036854775807) :
    Calls Try.prog 11 #[.int .i64 n, .int .i64 y] w fun e w' => e = .returned (.int .i64 (modS n y)) ∧ w = w' := by
  by_cases h0 : y = 0
  · subst h0
    go_enter Try.func11, Try.ntmps11
    go_wp2
    go_ret
    exact ⟨rfl, rfl⟩
  · have he := Lib.hid (modS_of n y h0)
    have hf := Lib.hid (tmod_facts n y h0)
    have hb : (y == 0) = false := by simpa using h0
    have f4 := hf.out.2.2.2.1
    have f5 := hf.out.2.2.2.2
    by_cases hr : 0 ≤ n.tmod y
    · have hr2 : ¬ n.tmod y < 0 := by omega
      have hr3 : decide (n.tmod y < 0) = false := by simpa using hr2
      go_enter Try.func11, Try.ntmps11
      go_wp2
      go_ret
      exact ⟨ret_int ((hf.out.1 hr).trans he.out.symm), rfl⟩
    · have hr1 : n.tmod y < 0 := by omega
      rcases Int.lt_or_gt_of_ne h0 with hs | hs
      · have q1 := (f4 hs).1
        have q2 := (f4 hs).2
        clear f4 f5 hr
        go_enter Try.func11, Try.ntmps11
        go_wp2
        go_ret
        exact ⟨ret_int ((hf.out.2.1 (by omega) hs).trans he.out.symm), rfl⟩
      · have q1 := (f5 hs).1
        have q2 := (f5 hs).2
        have hs2 : decide (y < 0) = false := by simp; omega
        clear f4 f5 hr
        go_enter Try.func11, Try.ntmps11
        go_wp2
        go_ret
        exact ⟨ret_int ((hf.out.2.2.1 (by omega) hs).trans he.out.symm), rfl⟩

/-! the first example -/
theorem rank_ex : Num.rank [1, 2] [3, 4] = (6, true) := by
  rw [Num.rank_yes (ds := [1, 2]) (bs := [3, 4]) rfl (fun i hi => by match i, hi with | 0, _ => simp | 1, _ => simp) (by decide)]
  rfl
theorem unrank_ex : Num.unrank 6 [3, 4] = ([1, 2], true) := by
  rw [Num.unrank_yes (n := 6) (bs := [3, 4]) (by omega) (by omega) (fun i hi => by match i, hi with | 0, _ => simp | 1, _ => simp) (by decide)]
  rfl
theorem rank_lives (w : World) (a1 a2 : Option Addr) (c1 c2 : Nat) (h1 : IntsAt w a1 [1, 2]) (h2 : IntsAt w a2 [3, 4]) :
    Calls Try.prog 13 #[.slice a1 2 c1, .slice a2 2 c2] w fun e w' => e = .returned (.tuple #[.int .i64 6, .bool true]) ∧ Quiet w w' := by
  have h := rank_any w a1 a2 2 c1 2 c2 [1, 2] [3, 4] h1 h2 rfl rfl (by omega) (by omega)
  rw [rank_ex] at h
  exact h
def UnrankLives (w : World) (e : Ending) (w' : World) : Prop := ∃ a cap, e = .returned (.tuple #[.slice a 2 cap, .bool true]) ∧ IntsAt w' a [1, 2] ∧ Below w.heap.size w w'
theorem unrank_lives (w : World) (a2 : Option Addr) (c2 : Nat) (h2 : IntsAt w a2 [3, 4]) :
    Calls Try.prog 15 #[.int .i64 6, .slice a2 2 c2] w (UnrankLives w) := by
  refine (unrank_any w a2 2 c2 6 [3, 4] h2 rfl (by omega)).mono fun e w' ⟨a, cap, he, hi, hb⟩ => ?_
  rw [unrank_ex] at he hi
  exact ⟨a, cap, he, hi, hb⟩
theorem same_lives (w : World) (a1 a2 : Option Addr) (c1 c2 : Nat) (h1 : IntsAt w a1 [1, 2]) (h2 : IntsAt w a2 [1, 2]) :
    Calls Try.prog 17 #[.slice a1 2 c1, .slice a2 2 c2] w fun e w' => e = .returned (.bool true) ∧ Quiet w w' := by
  have h := same_any w a1 a2 2 c1 2 c2 [1, 2] [1, 2] h1 h2 rfl rfl (by omega) (by omega)
  rw [decide_eq_true rfl] at h
  exact h
theorem mod_l1 (w : World) : Calls Try.prog 10 #[.int .i64 (-7), .int .i64 3] w fun e w' => e = .returned (.int .i64 2) ∧ w = w' :=
  mod_any w (-7) 3 (by omega) (by omega)
theorem mod_l2 (w : World) : Calls Try.prog 10 #[.int .i64 (-7), .int .i64 (-3)] w fun e w' => e = .returned (.int .i64 2) ∧ w = w' :=
  mod_any w (-7) (-3) (by omega) (by omega)

theorem lives_true (w : World) : Calls Try.prog 12 #[] w fun e w' => e = .returned (.bool true) ∧ Below w.heap.size w w' := by
  go_enter Try.func12, Try.ntmps12
  go_wp2_with (go_at_call 13; refine (rank_lives _ _ _ _ _ ((ints_new2 rfl _ _).alloc _) (ints_new2 (by simp) _ _)).mono ?_; rintro e w' ⟨rfl, n, rfl⟩)
  refine (unrank_lives _ _ _ (ints_new2 (by simp) _ _)).mono ?_
  rintro e w1 ⟨a, cap, rfl, hi, hb⟩
  have hb0 : Below w.heap.size w w1 := Below.trans ((bdrewN (((Below.refl _ _).alloc (Nat.le_refl _) _).alloc (by simp) _) n).alloc (by simp; omega) _) (hb.mono (by simp; omega))
  have hz := hb0.size
  clear hb
  go_wp2_with (first
    | (go_at_call 17; refine (same_lives _ _ _ _ _ (hi.alloc _) (ints_new2 rfl _ _)).mono ?_; rintro e w' ⟨rfl, m, rfl⟩)
    | (go_at_call 10; first | ((with_reducible refine (mod_l1 _).mono ?_); rintro e w' ⟨rfl, rfl⟩) | ((with_reducible refine (mod_l2 _).mono ?_); rintro e w' ⟨rfl, rfl⟩)))
  go_ret
  exact ⟨rfl, bdrewN (hb0.alloc hz _) _⟩
end Go.Proofs.Ytcbdldmejknfnaa
