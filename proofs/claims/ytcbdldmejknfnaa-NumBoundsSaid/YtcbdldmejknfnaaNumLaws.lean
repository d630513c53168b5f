/- The walks of layer num's laws out of the contracts. No conditions but those of Go's kinds and of the form's reach. -/
import Derived.Test.YtcbdldmejknfnaaNumMod
import Derived.Test.YtcbdldmejknfnaaOpen
namespace Go.Proofs.Ytcbdldmejknfnaa
open Go.RowKit

theorem numMods_walk (W : World) (n : Int) (hn : -9223372036854775808 ≤ n ∧ n ≤ 9223372036854775807) (y : Int) (hy : -9223372036854775808 ≤ y ∧ y ≤ 9223372036854775807) :
    Calls Try.prog 3 #[.int .i64 n, .int .i64 y] W fun e w' => e = .returned (.bool true) ∧ Below W.heap.size W w' := by
  by_cases h0 : y = 0
  · subst h0
    have hm : modS n 0 = 0 := rfl
    go_enter Try.func3, Try.ntmps3
    go_wp2_with (first
      | (go_at_call 10; refine (mod_any _ _ _ hn hy).mono ?_; rintro e w' ⟨rfl, rfl⟩)
      | (go_at_call 11; refine (rmod_any _ _ _ hn hy).mono ?_; rintro e w' ⟨rfl, rfl⟩)
      | (go_at_call 12; refine (lives_true _).mono ?_; rintro e w' ⟨rfl, hb⟩))
    go_ret
    exact ⟨rfl, hb⟩
  · obtain ⟨r, hr⟩ : ∃ r, modS n y = r := ⟨_, rfl⟩
    have c1 := fun w => mod_any w n y hn hy
    have c2 := fun w => rmod_any w n y hn hy
    rw [hr] at c1 c2
    have C1 := Lib.hid c1
    have C2 := Lib.hid c2
    clear c1 c2
    rw [modS_of n y h0] at hr
    have r0 : 0 ≤ r := by rw [← hr]; exact Int.emod_nonneg n h0
    have r1 : r < y.natAbs := by rw [← hr]; exact Int.emod_lt n h0
    obtain ⟨f1, f2, f3, f4, f5⟩ := tmod_facts n y h0
    rw [hr] at f1 f2 f3
    have hb : (y == 0) = false := by simpa using h0
    have HR := Lib.hid hr
    clear hr
    have e1 : (n.tmod y - r).tmod y = 0 := by
      have : n.tmod y - r = 0 ∨ n.tmod y - r = y ∨ n.tmod y - r = -y := by omega
      rcases this with e | e | e
      · rw [e]; simp
      · rw [e]; simp
      · rw [e]; simp
    rcases Int.lt_or_gt_of_ne h0 with hs | hs
    · have q1 : r + y < 0 := by omega
      have q2 := (f4 hs).1
      have q3 := (f4 hs).2
      have q4 : n.tmod y - r ≤ 0 := by omega
      have q5 : y ≤ n.tmod y - r := by omega
      clear f1 f2 f3 f4 f5 r1
      go_enter Try.func3, Try.ntmps3
      go_wp2_with (first
        | (go_at_call 10; refine (C1.out _).mono ?_; rintro e w' ⟨rfl, rfl⟩)
        | (go_at_call 11; refine (C2.out _).mono ?_; rintro e w' ⟨rfl, rfl⟩)
        | (go_at_call 12; refine (lives_true _).mono ?_; rintro e w' ⟨rfl, hb⟩))
      go_ret
      exact ⟨rfl, by assumption⟩
    · have q1 : r < y := by omega
      have hs1 : decide (y < 0) = false := by simp; omega
      have q2 := (f5 hs).1
      have q3 := (f5 hs).2
      have q4 : n.tmod y - r ≤ 0 := by omega
      have q5 : -y ≤ n.tmod y - r := by omega
      clear f1 f2 f3 f4 f5 r1
      go_enter Try.func3, Try.ntmps3
      go_wp2_with (first
        | (go_at_call 10; refine (C1.out _).mono ?_; rintro e w' ⟨rfl, rfl⟩)
        | (go_at_call 11; refine (C2.out _).mono ?_; rintro e w' ⟨rfl, rfl⟩)
        | (go_at_call 12; refine (lives_true _).mono ?_; rintro e w' ⟨rfl, hb⟩))
      go_ret
      exact ⟨rfl, by assumption⟩

/-- the two slices of digits and bases, and what rank tells of them, wherever nothing that was there has turned -/
theorem rank_c {W : World} {a0 a1 : Option Addr} {ds bs : List Int} (i0 : IntsAt W a0 ds) (i1 : IntsAt W a1 bs) (l0 : ds.length * 8 ≤ 140737488351232) (l1 : bs.length * 8 ≤ 140737488351232) {n : Int} {b : Bool} (hR : Num.rank ds bs = (n, b)) (c0 c1 : Nat) (w : World) (h : Below W.heap.size W w) :
    Calls Try.prog 13 #[.slice a0 ds.length c0, .slice a1 bs.length c1] w fun e w' => e = .returned (.tuple #[.int .i64 n, .bool b]) ∧ Quiet w w' := by
  have c := rank_any w a0 a1 ds.length c0 bs.length c1 ds bs (i0.below h) (i1.below h) rfl rfl (by omega) (by omega)
  rwa [hR] at c
theorem rrank_c {W : World} {a0 a1 : Option Addr} {ds bs : List Int} (i0 : IntsAt W a0 ds) (i1 : IntsAt W a1 bs) (l0 : ds.length * 8 ≤ 140737488351232) (l1 : bs.length * 8 ≤ 140737488351232) {n : Int} {b : Bool} (hR : Num.rank ds bs = (n, b)) (c0 c1 : Nat) (w : World) (h : Below W.heap.size W w) :
    Calls Try.prog 14 #[.slice a0 ds.length c0, .slice a1 bs.length c1] w fun e w' => e = .returned (.tuple #[.int .i64 n, .bool b]) ∧ Quiet w w' := by
  have c := rrank_any w a0 a1 ds.length c0 bs.length c1 ds bs (i0.below h) (i1.below h) rfl rfl (by omega) (by omega)
  rwa [hR] at c
/-- what Unrank leaves, its list and its word by name -/
def UnrankTo (l : List Int) (b : Bool) (w : World) (e : Ending) (w' : World) : Prop := ∃ a cap, e = .returned (.tuple #[.slice a l.length cap, .bool b]) ∧ IntsAt w' a l ∧ Below w.heap.size w w'
theorem unrank_c {W : World} {a1 : Option Addr} {bs : List Int} (i1 : IntsAt W a1 bs) (l1 : bs.length * 8 ≤ 140737488351232) {n : Int} {l : List Int} {b : Bool} (hR : Num.unrank n bs = (l, b)) (c1 : Nat) (w : World) (h : Below W.heap.size W w) :
    Calls Try.prog 15 #[.int .i64 n, .slice a1 bs.length c1] w (UnrankTo l b w) := by
  refine (unrank_any w a1 bs.length c1 n bs (i1.below h) rfl l1).mono fun e w' ⟨a, cap, he, hi, hb⟩ => ?_
  rw [hR] at he hi
  exact ⟨a, cap, he, hi, hb⟩
theorem runrank_c {W : World} {a1 : Option Addr} {bs : List Int} (i1 : IntsAt W a1 bs) (l1 : bs.length * 8 ≤ 140737488351232) {n : Int} {l : List Int} {b : Bool} (hR : Num.unrank n bs = (l, b)) (c1 : Nat) (w : World) (h : Below W.heap.size W w) :
    Calls Try.prog 16 #[.int .i64 n, .slice a1 bs.length c1] w (UnrankTo l b w) := by
  refine (runrank_any w a1 bs.length c1 n bs (i1.below h) rfl l1).mono fun e w' ⟨a, cap, he, hi, hb⟩ => ?_
  rw [hR] at he hi
  exact ⟨a, cap, he, hi, hb⟩
theorem same_yes {w : World} {a b : Option Addr} {l : List Int} (i0 : IntsAt w a l) (i1 : IntsAt w b l) (hl : l.length * 8 ≤ 140737488351232) (c0 c1 : Nat) :
    Calls Try.prog 17 #[.slice a l.length c0, .slice b l.length c1] w fun e w' => e = .returned (.bool true) ∧ Quiet w w' := by
  have c := same_any w a b l.length c0 l.length c1 l l i0 i1 rfl rfl (by omega) (by omega)
  rwa [decide_eq_true rfl] at c

theorem numRanks_walk (W : World) (v0 : Value) (ds : List Int) (h0 : rSl 1 8 (rInt .i64) W [v0] ds) (v1 : Value) (bs : List Int) (h1 : rSl 1 8 (rInt .i64) W [v1] bs) :
    Calls Try.prog 4 #[v0, v1] W fun e w' => e = .returned (.bool true) ∧ Below W.heap.size W w' := by
  obtain ⟨a0, k0, e0, l0, _, i0, _⟩ := IntsAt.of_rSl h0
  obtain ⟨a1, k1, e1, l1, _, i1, _⟩ := IntsAt.of_rSl h1
  simp only [List.cons.injEq, and_true] at e0 e1
  subst e0 e1
  clear h0 h1
  obtain ⟨n, is, hR⟩ : ∃ n is, Num.rank ds bs = (n, is) := ⟨_, _, rfl⟩
  have C1 := Lib.hid (rank_c i0 i1 l0 l1 hR k0 k1)
  have C2 := Lib.hid (rrank_c i0 i1 l0 l1 hR k0 k1)
  clear hR
  go_enter Try.func4, Try.ntmps4
  go_wp2_with (first
    | (go_at_call 13; refine (C1.out _ (Below.refl _ _)).mono ?_; rintro e w' ⟨rfl, m, rfl⟩)
    | (go_at_call 14; refine (C2.out _ (bdrewN (Below.refl _ _) _)).mono ?_; rintro e w' ⟨rfl, m2, rfl⟩)
    | (go_at_call 12; refine (lives_true _).mono ?_; rintro e w' ⟨rfl, hb⟩))
  go_ret
  exact ⟨rfl, Below.trans (bdrewN (Below.refl _ _) _) (by assumption)⟩

theorem numUnranks_walk (W : World) (n : Int) (_hn : -9223372036854775808 ≤ n ∧ n ≤ 9223372036854775807) (v1 : Value) (bs : List Int) (h1 : rSl 1 8 (rInt .i64) W [v1] bs) :
    Calls Try.prog 5 #[.int .i64 n, v1] W fun e w' => e = .returned (.bool true) ∧ Below W.heap.size W w' := by
  obtain ⟨a1, k1, e1, l1, _, i1, _⟩ := IntsAt.of_rSl h1
  simp only [List.cons.injEq, and_true] at e1
  subst e1
  clear h1
  obtain ⟨l, is, hR⟩ : ∃ l is, Num.unrank n bs = (l, is) := ⟨_, _, rfl⟩
  have hll : l.length * 8 ≤ 140737488351232 := by
    have : l.length ≤ bs.length := by
      unfold Num.unrank at hR
      split at hR
      · simp at hR; rw [← hR.1, Num.digits_length]; omega
      · simp at hR; rw [hR.1]; simp
    omega
  have C1 := Lib.hid (unrank_c i1 l1 hR k1)
  have C2 := Lib.hid (runrank_c i1 l1 hR k1)
  clear hR
  go_enter Try.func5, Try.ntmps5
  go_wp2_with fail
  refine (C1.out _ (Below.refl _ _)).mono ?_
  rintro e w1 ⟨a2, k2, rfl, i2, b1⟩
  go_wp2_with fail
  refine (C2.out _ b1).mono ?_
  rintro e w2 ⟨a3, k3, rfl, i3, b2⟩
  have b3 := b1.trans (b2.mono b1.size)
  have i4 := i2.below b2
  clear b1 b2 i2
  go_wp2_with fail
  refine (same_yes i4 i3 hll _ _).mono ?_
  rintro e w3 ⟨rfl, m, rfl⟩
  go_wp2_with fail
  refine (lives_true _).mono ?_
  rintro e w4 ⟨rfl, hb⟩
  go_wp2
  go_ret
  exact ⟨rfl, Below.trans (bdrewN b3 _) (hb.mono b3.size)⟩

theorem numOrder_walk (W : World) (v0 : Value) (as_ : List Int) (h0 : rSl 1 8 (rInt .i64) W [v0] as_) (v1 : Value) (bs : List Int) (h1 : rSl 1 8 (rInt .i64) W [v1] bs) (v2 : Value) (cs : List Int) (h2 : rSl 1 8 (rInt .i64) W [v2] cs) :
    Calls Try.prog 7 #[v0, v1, v2] W fun e w' => e = .returned (.bool true) ∧ Below W.heap.size W w' := by
  obtain ⟨a0, k0, e0, l0, _, i0, _⟩ := IntsAt.of_rSl h0
  obtain ⟨a1, k1, e1, l1, _, i1, _⟩ := IntsAt.of_rSl h1
  obtain ⟨a2, k2, e2, l2, _, i2, _⟩ := IntsAt.of_rSl h2
  simp only [List.cons.injEq, and_true] at e0 e1 e2
  subst e0 e1 e2
  clear h0 h1 h2
  obtain ⟨n, is, hR⟩ : ∃ n is, Num.rank as_ cs = (n, is) := ⟨_, _, rfl⟩
  obtain ⟨m, was, hS⟩ : ∃ m was, Num.rank bs cs = (m, was) := ⟨_, _, rfl⟩
  have C1 := Lib.hid (rank_c i0 i2 l0 l2 hR k0 k2)
  have C2 := Lib.hid (rank_c i1 i2 l1 l2 hS k1 k2)
  cases is with
  | false =>
    clear hR hS
    go_enter Try.func7, Try.ntmps7
    go_wp2_with fail
    refine (C1.out _ (Below.refl _ _)).mono ?_
    rintro e w1 ⟨rfl, q, rfl⟩
    go_wp2_with fail
    refine (C2.out _ (bdrewN (Below.refl _ _) _)).mono ?_
    rintro e w2 ⟨rfl, q2, rfl⟩
    go_wp2_with fail
    refine (lives_true _).mono ?_
    rintro e w4 ⟨rfl, hb⟩
    go_wp2
    go_ret
    exact ⟨rfl, Below.trans (bdrewN (Below.refl _ _) _) hb⟩
  | true =>
    cases was with
    | false =>
      clear hR hS
      go_enter Try.func7, Try.ntmps7
      go_wp2_with fail
      refine (C1.out _ (Below.refl _ _)).mono ?_
      rintro e w1 ⟨rfl, q, rfl⟩
      go_wp2_with fail
      refine (C2.out _ (bdrewN (Below.refl _ _) _)).mono ?_
      rintro e w2 ⟨rfl, q2, rfl⟩
      go_wp2_with fail
      refine (lives_true _).mono ?_
      rintro e w4 ⟨rfl, hb⟩
      go_wp2
      go_ret
      exact ⟨rfl, Below.trans (bdrewN (Below.refl _ _) _) hb⟩
    | true =>
      have hl : as_.length = bs.length := by
        have r1 := Num.rank_snd (ds := as_) (bs := cs) (by rw [hR])
        have r2 := Num.rank_snd (ds := bs) (bs := cs) (by rw [hS])
        rw [r1.1, r2.1]
      rw [hl] at C1 ⊢
      have hlt : ∀ k, k < as_.length → (∀ i, i < k → as_.getD i 0 = bs.getD i 0) → as_.getD k 0 < bs.getD k 0 → n < m := fun k hk he hx => by
        have := Num.order_lt (a := as_) (b := bs) (bs := cs) (by rw [hR]) (by rw [hS]) k hk he hx
        rwa [hR, hS] at this
      have hgt : ∀ k, k < as_.length → (∀ i, i < k → as_.getD i 0 = bs.getD i 0) → bs.getD k 0 < as_.getD k 0 → m < n := fun k hk he hx => by
        have := Num.order_lt (a := bs) (b := as_) (bs := cs) (by rw [hS]) (by rw [hR]) k (by omega) (fun i hi => (he i hi).symm) hx
        rwa [hR, hS] at this
      have heq : (∀ i, i < as_.length → as_.getD i 0 = bs.getD i 0) → n = m := fun he => by
        have := Num.order_eq (a := as_) (b := bs) (bs := cs) (by rw [hR]) (by rw [hS]) he
        rwa [hR, hS] at this
      have HL := Lib.hid hlt
      have HG := Lib.hid hgt
      have HE := Lib.hid heq
      have hl2 := Lib.hid hl
      clear hR hS hlt hgt heq hl
      go_enter Try.func7, Try.ntmps7
      go_wp2_with fail
      refine (C1.out _ (Below.refl _ _)).mono ?_
      rintro e w1 ⟨rfl, q, rfl⟩
      go_wp2_with fail
      refine (C2.out _ (bdrewN (Below.refl _ _) _)).mono ?_
      rintro e w2 ⟨rfl, q2, rfl⟩
      go_wp2
      go_loopw [36] (fun i wr => ∃ k q : Nat, k ≤ bs.length ∧ i = .int .i64 k ∧ wr = W.drewN q ∧ Hid (∀ j, j < k → as_.getD j 0 = bs.getD j 0)) (fun i _ => bs.length - (intOf i).toNat)
      case atStart => exact ⟨0, _, Nat.zero_le _, rfl, rfl, fun j hj => by omega⟩
      case round =>
        obtain ⟨k, q, hk, rfl, rfl, hall⟩ := hrel
        by_cases hlt : k < bs.length
        · obtain ⟨b, off, x, rfl, c1, hx⟩ := i0.at k (by have := hl2.out; omega)
          obtain ⟨b', off', y, rfl, c2, hy⟩ := i1.at k hlt
          by_cases hxy : x = y
          · have hne : (x != y) = false := by simp [hxy]
            have hxy2 := Lib.hid hxy
            clear hxy
            go_wp2
            go_quiet (fail)
            go_wp2
            go_roundw
            case rel =>
              refine ⟨k + 1, _, by omega, by go_num, rfl, fun j hj => ?_⟩
              by_cases hjk : j = k
              · subst hjk; rw [← hx.out, ← hy.out]; exact hxy2.out
              · exact hall.out j (by omega)
            case measure => simp [intOf]; omega
          · have hne : (x != y) = true := by simp [hxy]
            rcases Int.lt_or_gt_of_ne hxy with hlt2 | hlt2
            · have hnm : n < m := HL.out k (by have := hl2.out; omega) hall.out (by rw [← hx.out, ← hy.out]; exact hlt2)
              have hnm2 : (n != m) = true := by simp; omega
              go_wp2
              go_quiet (fail)
              go_wp2
              refine wp_region_still_tail 19 (by kernel_rfl) (by kernel_rfl) ?_
              simp only [List.take_succ_cons, List.take_zero, List.drop_succ_cons, List.drop_zero, World.drew_eq]
              repeat still_step
              refine wpStill_nil ?_
              go_wp2_with fail
              refine (lives_true _).mono ?_
              rintro e w4 ⟨rfl, hb⟩
              go_wp2
              go_ret
              exact ⟨rfl, Below.trans (bdrewN (Below.refl _ _) _) hb⟩
            · have hnm : m < n := HG.out k (by have := hl2.out; omega) hall.out (by rw [← hx.out, ← hy.out]; exact hlt2)
              have hnm2 : (n != m) = true := by simp; omega
              have hnm3 : decide (n < m) = false := by simp; omega
              have hnm4 : decide (x < y) = false := by simp; omega
              go_wp2
              go_quiet (fail)
              go_wp2
              refine wp_region_still_tail 19 (by kernel_rfl) (by kernel_rfl) ?_
              simp only [List.take_succ_cons, List.take_zero, List.drop_succ_cons, List.drop_zero, World.drew_eq]
              repeat still_step
              refine wpStill_nil ?_
              go_wp2_with fail
              refine (lives_true _).mono ?_
              rintro e w4 ⟨rfl, hb⟩
              go_wp2
              go_ret
              exact ⟨rfl, Below.trans (bdrewN (Below.refl _ _) _) hb⟩
        · have hnm : n = m := HE.out (fun i hi => hall.out i (by have := hl2.out; omega))
          have hnm2 : (n == m) = true := by simp [hnm]
          clear hnm
          go_wp2_with fail
          refine (lives_true _).mono ?_
          rintro e w4 ⟨rfl, hb⟩
          go_wp2
          go_ret
          exact ⟨rfl, Below.trans (bdrewN (Below.refl _ _) _) hb⟩
end Go.Proofs.Ytcbdldmejknfnaa
