/- The walks of layer num's laws out of the contracts, the rest. No conditions but those of Go's kinds and of the form's reach. -/
import Derived.Test.YtcbdldmejknfnaaNumLaws
namespace Go.Proofs.Ytcbdldmejknfnaa
open Go.RowKit

theorem numBack_walk (W : World) (n : Int) (_hn : -9223372036854775808 ≤ n ∧ n ≤ 9223372036854775807) (v0 : Value) (ds : List Int) (h0 : rSl 1 8 (rInt .i64) W [v0] ds) (v1 : Value) (bs : List Int) (h1 : rSl 1 8 (rInt .i64) W [v1] bs) :
    Calls Try.prog 6 #[.int .i64 n, v0, v1] W fun e w' => e = .returned (.bool true) ∧ Below W.heap.size W w' := by
  obtain ⟨a0, k0, e0, l0, _, i0, _⟩ := IntsAt.of_rSl h0
  obtain ⟨a1, k1, e1, l1, _, i1, _⟩ := IntsAt.of_rSl h1
  simp only [List.cons.injEq, and_true] at e0 e1
  subst e0 e1
  clear h0 h1
  obtain ⟨r, is, hR⟩ : ∃ r is, Num.rank ds bs = (r, is) := ⟨_, _, rfl⟩
  obtain ⟨l, was, hS⟩ : ∃ l was, Num.unrank n bs = (l, was) := ⟨_, _, rfl⟩
  have C1 := Lib.hid (rank_c i0 i1 l0 l1 hR k0 k1)
  have C3 := Lib.hid (unrank_c i1 l1 hS k1)
  have HU : was = true → Hid (Num.rank l bs = (n, true)) ∧ l.length = bs.length := fun h => by
    subst h
    have h := Num.back_unranks (n := n) (bs := bs) (by rw [hS])
    have h2 := Num.unrank_snd (n := n) (bs := bs) (by rw [hS])
    rw [hS] at h h2
    have h3 : l = Num.digits n bs := h2.2.2.2.2
    exact ⟨h, by rw [h3, Num.digits_length]⟩
  have HR : is = true → Hid (Num.unrank r bs = (ds, true)) ∧ 0 ≤ r ∧ r ≤ 1048576 := fun h => by
    subst h
    have h := Num.back_ranks (ds := ds) (bs := bs) (by rw [hR])
    rw [hR] at h
    exact h
  clear hR hS
  have HU2 := Lib.hid HU
  have HR2 := Lib.hid HR
  clear HU HR
  go_enter Try.func6, Try.ntmps6
  go_wp2_with fail
  refine (C1.out _ (Below.refl _ _)).mono ?_
  rintro e w1 ⟨rfl, q, rfl⟩
  obtain ⟨w1, hw1⟩ : ∃ w1, w1 = W.drewN q := ⟨_, rfl⟩
  have b1 : Below W.heap.size W w1 := by rw [hw1]; exact bdrewN (Below.refl _ _) _
  rw [← hw1]
  clear hw1
  have hsecond : ∀ w2, Below W.heap.size W w2 → ∀ (h : was = true), Hid (∀ w3, Below W.heap.size W w3 → ∀ a2 k2, IntsAt w3 a2 l → Calls Try.prog 13 #[.slice a2 l.length k2, .slice a1 bs.length k1] w3 fun e w' => e = .returned (.tuple #[.int .i64 n, .bool true]) ∧ Quiet w3 w') := fun w2 b2 h => by
    obtain ⟨h1, h2⟩ := HU2.out h
    intro w3 b3 a2 k2 i2
    have c := rank_any w3 a2 a1 l.length k2 bs.length k1 l bs i2 (i1.below b3) rfl rfl (by omega) (by omega)
    rwa [h1.out] at c
  clear HU2
  have hsec := Lib.hid hsecond
  clear hsecond
  cases is with
  | true =>
    obtain ⟨hu, hr0, hr1⟩ := HR2.out rfl
    have C4 := Lib.hid (unrank_c i1 l1 hu.out k1)
    go_wp2_with fail
    refine (C4.out _ b1).mono ?_
    rintro e w2 ⟨a2, k2, rfl, i2, b2⟩
    have b3 := b1.trans (b2.mono b1.size)
    have i0' := i0.below b3
    clear b1 b2
    go_wp2_with fail
    refine (same_yes i2 i0' l0 _ _).mono ?_
    rintro e w3 ⟨rfl, m, rfl⟩
    have b4 : Below W.heap.size W (w2.drewN m) := bdrewN b3 _
    clear b3 i2 i0'
    obtain ⟨w4, hw4⟩ : ∃ w4, w4 = w2.drewN m := ⟨_, rfl⟩
    rw [← hw4] at b4 ⊢
    clear hw4
    go_wp2_with fail
    refine (C3.out _ b4).mono ?_
    rintro e w5 ⟨a5, k5, rfl, i5, b5⟩
    have b6 := b4.trans (b5.mono b4.size)
    clear b4 b5
    cases was with
    | true =>
      have C5 := hsec.out _ b6 rfl
      have hnn : (n != n) = false := by simp
      go_wp2_with fail
      refine (C5.out _ b6 _ _ i5).mono ?_
      rintro e w7 ⟨rfl, m, rfl⟩
      go_wp2_with fail
      refine (lives_true _).mono ?_
      rintro e w8 ⟨rfl, hb⟩
      go_wp2
      go_ret
      exact ⟨rfl, Below.trans (bdrewN b6 _) (hb.mono b6.size)⟩
    | false =>
      go_wp2_with fail
      refine (lives_true _).mono ?_
      rintro e w8 ⟨rfl, hb⟩
      go_wp2
      go_ret
      exact ⟨rfl, b6.trans (hb.mono b6.size)⟩
  | false =>
    have b4 := b1
    go_wp2_with fail
    refine (C3.out _ b4).mono ?_
    rintro e w5 ⟨a5, k5, rfl, i5, b5⟩
    have b6 := b4.trans (b5.mono b4.size)
    clear b4 b5
    cases was with
    | true =>
      have C5 := hsec.out _ b6 rfl
      have hnn : (n != n) = false := by simp
      go_wp2_with fail
      refine (C5.out _ b6 _ _ i5).mono ?_
      rintro e w7 ⟨rfl, m, rfl⟩
      go_wp2_with fail
      refine (lives_true _).mono ?_
      rintro e w8 ⟨rfl, hb⟩
      go_wp2
      go_ret
      exact ⟨rfl, Below.trans (bdrewN b6 _) (hb.mono b6.size)⟩
    | false =>
      go_wp2_with fail
      refine (lives_true _).mono ?_
      rintro e w8 ⟨rfl, hb⟩
      go_wp2
      go_ret
      exact ⟨rfl, b6.trans (hb.mono b6.size)⟩

theorem numBounds_walk (W : World) (n : Int) (hn : -9223372036854775808 ≤ n ∧ n ≤ 9223372036854775807) (lo : Int) (hlo : -9223372036854775808 ≤ lo ∧ lo ≤ 9223372036854775807) (hi : Int) (hhi : -9223372036854775808 ≤ hi ∧ hi ≤ 9223372036854775807) :
    Calls Try.prog 8 #[.int .i64 n, .int .i64 lo, .int .i64 hi] W fun e w' => e = .returned (.bool true) ∧ Below W.heap.size W w' := by
  by_cases h1 : hi < lo
  · by_cases h2 : lo ≤ n
    · have h3 : ¬ n ≤ hi := by omega
      have h4 : decide (n ≤ hi) = false := by simpa using h3
      go_enter Try.func8, Try.ntmps8
      go_wp2_with (first
        | (go_at_call 12; refine (lives_true _).mono ?_; rintro e w' ⟨rfl, hb⟩)
        | go_in)
      go_ret
      exact ⟨rfl, by assumption⟩
    · have h3 : decide (lo ≤ n) = false := by simpa using h2
      have h4 : n < lo := by omega
      go_enter Try.func8, Try.ntmps8
      go_wp2_with (first
        | (go_at_call 12; refine (lives_true _).mono ?_; rintro e w' ⟨rfl, hb⟩)
        | go_in)
      go_ret
      exact ⟨rfl, by assumption⟩
  · by_cases h2 : lo ≤ n
    · by_cases h3 : n ≤ hi
      · have h4 : ¬ n < lo := by omega
        have h5 : ¬ hi < n := by omega
        have h6 : (n == n) = true := by simp
        go_enter Try.func8, Try.ntmps8
        go_wp2_with (first
          | (go_at_call 12; refine (lives_true _).mono ?_; rintro e w' ⟨rfl, hb⟩)
          | go_in)
        go_ret
        exact ⟨rfl, by assumption⟩
      · have h4 : ¬ n < lo := by omega
        have h5 : hi < n := by omega
        have h6 : lo ≤ hi := by omega
        have h7 : (hi == n) = false := by simp; omega
        have h8 : decide (n ≤ hi) = false := by simp; omega
        go_enter Try.func8, Try.ntmps8
        go_wp2_with (first
          | (go_at_call 12; refine (lives_true _).mono ?_; rintro e w' ⟨rfl, hb⟩)
          | go_in)
        go_ret
        exact ⟨rfl, by assumption⟩
    · have h4 : n < lo := by omega
      have h6 : lo ≤ hi := by omega
      have h7 : (lo == n) = false := by simp; omega
      have h8 : decide (lo ≤ n) = false := by simp; omega
      go_enter Try.func8, Try.ntmps8
      go_wp2_with (first
        | (go_at_call 12; refine (lives_true _).mono ?_; rintro e w' ⟨rfl, hb⟩)
        | go_in)
      go_ret
      exact ⟨rfl, by assumption⟩
end Go.Proofs.Ytcbdldmejknfnaa
