/- The walks of layer perm's calls, fourth part: ranks, and how often a permutation takes. Conditions: lengths within int. -/
import Derived.Test.YtdjneckgckagdaaPermWalks3
import Derived.Test.YtdjneckgckagdaaPermRankPlain
import Derived.Test.YtdjneckgckagdaaCloneInts
import Derived.Test.YtdjneckgckagdaaCut
namespace Go.Proofs.Ytdjneckgckagdaa
open Go.RowKit

theorem fact_mul_le {k : Nat} (h : k + 1 ≤ 8) : Perm.factN k * ((k : Int) + 1) ≤ 40320 ∧ 1 ≤ Perm.factN k * ((k : Int) + 1) := ⟨Perm.fact_le (k + 1) h, Perm.fact_pos (k + 1)⟩

theorem many_any (w : World) (n : Int) (h8 : n ≤ 8) : Calls Try.prog 31 #[.int .i64 n] w fun e w' => e = .returned (.int .i64 (Perm.factN n.toNat)) ∧ w = w' := by
  go_enter Try.func31, Try.ntmps31
  go_wp2
  go_loop [3, 6] (fun v i => ∃ (k : Nat) (f : Int), k ≤ n.toNat ∧ i = .int .i64 k ∧ v = .int .i64 f ∧ Hid (f = Perm.factN k)) (fun _ i => n.toNat - (intOf i).toNat)
  case atStart => exact ⟨0, 1, Nat.zero_le _, rfl, rfl, rfl⟩
  case round =>
    obtain ⟨k, f, hk, rfl, rfl, hf⟩ := hrel
    by_cases hlt : (k : Int) < n
    · have R := fact_mul_le (k := k) (by omega)
      rw [← hf.out] at R
      have R1 := R.1
      have R2 := R.2
      have hs : Hid (f * ((k : Int) + 1) = Perm.factN (k + 1)) := by show _ = _; rw [hf.out]; rfl
      clear R
      go_wp2
      go_round
      case rel => exact ⟨k + 1, _, by omega, by go_num, rfl, hs⟩
      case measure => simp [intOf]; omega
    · have hk2 : Hid (k = n.toNat) := by show _ = _; omega
      go_wp2
      go_ret
      exact ⟨ret_int (by rw [hf.out, hk2.out]), rfl⟩

theorem fact_any (w : World) (n : Int) (h8 : n ≤ 8) : Calls Try.prog 33 #[.int .i64 n] w fun e w' => e = .returned (.int .i64 (Perm.factN n.toNat)) ∧ w = w' := by
  go_enter Try.func33, Try.ntmps33
  go_wp2
  go_loop [3, 4] (fun v i => ∃ (k : Nat) (f : Int), (k : Int) ≤ 8 ∧ ((k : Int) + 1 ≤ n ∨ k = 1 ∨ (k : Int) = n) ∧ 1 ≤ k ∧ i = .int .i64 ((k : Int) + 1) ∧ v = .int .i64 f ∧ Hid (f = Perm.factN k)) (fun _ i => 9 - (intOf i).toNat)
  case atStart => exact ⟨1, 1, by omega, by omega, by omega, rfl, rfl, rfl⟩
  case round =>
    obtain ⟨k, f, hk8, hk, hk1, rfl, rfl, hf⟩ := hrel
    by_cases hlt : (k : Int) + 1 ≤ n
    · have R := fact_mul_le (k := k) (by omega)
      rw [← hf.out] at R
      have R1 := R.1
      have R2 := R.2
      have hs : Hid (f * ((k : Int) + 1) = Perm.factN (k + 1)) := by show _ = _; rw [hf.out]; rfl
      clear R
      go_wp2
      go_round
      case rel => exact ⟨k + 1, _, by omega, by omega, by omega, by go_num, rfl, hs⟩
      case measure => simp [intOf]; omega
    · have hk2 : Hid (Perm.factN k = Perm.factN n.toNat) := by
        show _ = _
        by_cases h1 : k = 1
        · subst h1
          have : n.toNat = 0 ∨ n.toNat = 1 := by omega
          rcases this with h | h <;> rw [h] <;> rfl
        · congr 1
          omega
      go_wp2
      go_ret
      exact ⟨ret_int (by rw [hf.out, hk2.out]), rfl⟩

theorem less_step (p : List Int) (k m : Nat) (x y : Int) (hx : x = p.getD k 0) (hy : y = p.getD (k + 1 + m) 0) : (y < x → Perm.lessP p k (m + 1) = Perm.lessP p k m + 1) ∧ (¬ y < x → Perm.lessP p k (m + 1) = Perm.lessP p k m) := by
  subst hx hy
  constructor
  · intro h; simp only [Perm.lessP]; rw [if_pos h]
  · intro h; simp only [Perm.lessP]; rw [if_neg h]; omega

set_option maxHeartbeats 400000 in
theorem prank_any (w : World) (a1 : Option Addr) (n1 cp : Nat) (xs : List Int) (h1 : NumsAt .i64 w a1 xs) (hn1 : n1 = xs.length) (b1 : n1 ≤ 9223372036854775807) (hc : n1 ≤ cp) :
    Calls Try.prog 23 #[.slice a1 n1 cp] w fun e w' => e = .returned (.int .i64 (Perm.rank xs)) ∧ Below w.heap.size w w' := by
  subst hn1
  have C1 := Lib.hid (fun w' h => check_any w' a1 xs.length cp xs h rfl b1)
  by_cases hx : Perm.okB xs = true
  · have oX := Lib.hid ((Perm.okB_iff xs).1 hx)
    rw [hx] at C1
    clear hx
    have h8 : xs.length ≤ 8 := oX.out.small
    have hf := Lib.hid (Perm.rank_yes oX.out)
    go_enter Try.func23, Try.ntmps23
    go_wp2_with fail
    refine (C1.out _ h1).mono ?_
    rintro e w1 ⟨rfl, hb⟩
    have h1' := h1.below hb
    go_wp2
    go_loopw [3, 14] (fun v i wr => ∃ (k : Nat) (r : Int), k ≤ xs.length ∧ i = .int .i64 k ∧ v = .int .i64 r ∧ 0 ≤ r ∧ r ≤ 322560 * k ∧ Hid (r = Perm.rankP xs k) ∧ wr = w1) (fun _ i _ => xs.length - (intOf i).toNat)
    case atStart => exact ⟨0, 0, Nat.zero_le _, rfl, rfl, by omega, by omega, rfl, rfl⟩
    case round =>
      obtain ⟨k, r, hk, rfl, rfl, hr0, hr1, hr, rfl⟩ := hrel
      by_cases hlt : k < xs.length
      · obtain ⟨b, off, x, rfl, c1, hx⟩ := h1'.at k hlt
        have cells := Lib.hid h1'
        obtain ⟨l, hl⟩ : ∃ l, l = Perm.lessP xs k (xs.length - 1 - k) := ⟨_, rfl⟩
        obtain ⟨f, hfa⟩ : ∃ f, f = Perm.factN (xs.length - 1 - k) := ⟨_, rfl⟩
        have T := Perm.term_bound h8 k
        have L := Perm.less_nonneg xs k (xs.length - 1 - k)
        rw [← hl, ← hfa] at T
        rw [← hl] at L
        have T1 := T.1
        have T2 := T.2
        have T3 : Hid (r + l * f = Perm.rankP xs (k + 1)) := by show _ = _; rw [hr.out, hl, hfa]; rfl
        have M := fun w => many_any w ((xs.length : Int) - 1 - k) (by omega)
        rw [show ((xs.length : Int) - 1 - k).toNat = xs.length - 1 - k by omega, ← hfa] at M
        have MM := Lib.hid M
        have HL := Lib.hid hl
        clear M T hfa hl
        have tail : ∀ (j : Nat), j < xs.length - (k + 1) → ∃ y, wr.cell? ⟨b, off + (k + 1) + j, none⟩ = some (.int .i64 y) ∧ Hid (y = xs.getD (k + 1 + j) 0) := fun j hj => by
          obtain ⟨b', off', y, hab, c2, hy⟩ := h1'.at (k + 1 + j) (by omega)
          simp at hab
          obtain ⟨rfl, rfl⟩ := hab
          exact ⟨y, by rw [Nat.add_assoc]; exact c2, hy⟩
        have TL := Lib.hid tail
        clear tail h1' cells
        obtain ⟨aX, hX⟩ : ∃ aX, aX = cutA (some ⟨b, off, none⟩) cp (k + 1) 1 := ⟨_, rfl⟩
        have hsl := fun w => run_cut_l (P := Try.prog) Try.underlying22 Try.sizeInt (some ⟨b, off, none⟩) xs.length cp (k + 1) (kl := .i64) (L := (k : Int) + 1) (by omega) (by omega) w
        rw [← hX] at hsl
        have HX := Lib.hid hX
        clear hX
        go_wp2
        go_loop [6, 24] (fun v i => ∃ (j : Nat) (c : Int), j ≤ xs.length - (k + 1) ∧ i = .int .i64 j ∧ v = .int .i64 c ∧ 0 ≤ c ∧ c ≤ j ∧ Hid (c = Perm.lessP xs k j)) (fun _ i => xs.length - (intOf i).toNat)
        case atStart => exact ⟨0, 0, Nat.zero_le _, rfl, rfl, by omega, by omega, rfl⟩
        case round =>
          obtain ⟨j, c, hj, rfl, rfl, hc0, hc1, hcc⟩ := hrel
          by_cases hjl : j < xs.length - (k + 1)
          · obtain rfl : aX = some ⟨b, off + (k + 1), none⟩ := by rw [HX.out]; exact cutA_at (by omega)
            obtain ⟨y, c2, hy⟩ := TL.out j hjl
            have ST := less_step xs k j x y hx.out hy.out
            have HS : Hid ((y < x → Perm.lessP xs k (j + 1) = Perm.lessP xs k j + 1) ∧ (¬ y < x → Perm.lessP xs k (j + 1) = Perm.lessP xs k j)) := ST
            clear ST
            by_cases hyx : y < x
            · go_wp2
              go_round
              case rel => exact ⟨j + 1, _, by omega, by go_num, rfl, by omega, by omega, by show _ = _; rw [HS.out.1 hyx, hcc.out]⟩
              case measure => simp [intOf]; omega
            · go_wp2
              go_round
              case rel => exact ⟨j + 1, _, by omega, by go_num, rfl, by omega, by omega, by show _ = _; rw [HS.out.2 hyx, hcc.out]⟩
              case measure => simp [intOf]; omega
          · have hjj : j = xs.length - 1 - k := by omega
            have hcl : Hid (c = l) := by show _ = _; rw [hcc.out, HL.out, hjj]
            obtain rfl := hcl.out
            clear hcl hjj
            go_wp2_with (go_at_call 31; refine (MM.out _).mono ?_; rintro e w9 ⟨rfl, rfl⟩)
            go_roundw
            case rel => exact ⟨k + 1, _, by omega, by go_num, rfl, by omega, by omega, T3, by first | rfl | trivial⟩
            case measure => simp [intOf]; omega
      · obtain rfl : k = xs.length := by omega
        go_wp2
        go_ret
        exact ⟨ret_int (by rw [hr.out, hf.out]), hb⟩
  · have hx' : Perm.okB xs = false := by simpa using hx
    have hf := Lib.hid (Perm.rank_no hx')
    rw [hx'] at C1
    clear hx hx'
    go_enter Try.func23, Try.ntmps23
    go_wp2_with fail
    refine (C1.out _ h1).mono ?_
    rintro e w1 ⟨rfl, hb⟩
    go_wp2
    go_ret
    exact ⟨ret_int hf.out.symm, hb⟩

set_option maxHeartbeats 400000 in
theorem rrank_any (w : World) (a1 : Option Addr) (n1 cp : Nat) (xs : List Int) (h1 : NumsAt .i64 w a1 xs) (hn1 : n1 = xs.length) (b1 : n1 ≤ 9223372036854775807) :
    Calls Try.prog 24 #[.slice a1 n1 cp] w fun e w' => e = .returned (.int .i64 (Perm.rank xs)) ∧ Quiet w w' := by
  subst hn1
  have C1 := Lib.hid (fun w' h => rcheck_any w' a1 xs.length cp xs h rfl b1)
  by_cases hx : Perm.okB xs = true
  · have oX := Lib.hid ((Perm.okB_iff xs).1 hx)
    rw [hx] at C1
    clear hx
    have h8 : xs.length ≤ 8 := oX.out.small
    have hf := Lib.hid (Perm.rank_yes oX.out)
    go_enter Try.func24, Try.ntmps24
    go_wp2_with fail
    refine (C1.out _ h1).mono ?_
    rintro e w1 ⟨rfl, rfl⟩
    go_wp2
    go_loopw [3, 4] (fun v i wr => ∃ (k : Nat) (r : Int) (q : Nat), k ≤ xs.length ∧ i = .int .i64 k ∧ v = .int .i64 r ∧ 0 ≤ r ∧ r ≤ 322560 * k ∧ Hid (r = Perm.rankP xs k) ∧ wr = w.drewN q) (fun _ i _ => xs.length - (intOf i).toNat)
    case atStart => exact ⟨0, 0, 0, Nat.zero_le _, rfl, rfl, by omega, by omega, rfl, rfl⟩
    case round =>
      obtain ⟨k, r, q, hk, rfl, rfl, hr0, hr1, hr, rfl⟩ := hrel
      by_cases hlt : k < xs.length
      · obtain ⟨b, off, x, rfl, c1, hx⟩ := h1.at k hlt
        obtain ⟨l, hl⟩ : ∃ l, l = Perm.lessP xs k (xs.length - 1 - k) := ⟨_, rfl⟩
        obtain ⟨f, hfa⟩ : ∃ f, f = Perm.factN (xs.length - 1 - k) := ⟨_, rfl⟩
        have T := Perm.term_bound h8 k
        have L := Perm.less_nonneg xs k (xs.length - 1 - k)
        rw [← hl, ← hfa] at T
        rw [← hl] at L
        have T1 := T.1
        have T2 := T.2
        have T3 : Hid (r + l * f = Perm.rankP xs (k + 1)) := by show _ = _; rw [hr.out, hl, hfa]; rfl
        have M := fun w => fact_any w ((xs.length : Int) - 1 - k) (by omega)
        rw [show ((xs.length : Int) - 1 - k).toNat = xs.length - 1 - k by omega, ← hfa] at M
        have MM := Lib.hid M
        have HL := Lib.hid hl
        clear M T hfa hl
        have tail : ∀ (j : Nat), k + 1 + j < xs.length → ∃ y, w.cell? ⟨b, off + (k + 1 + j), none⟩ = some (.int .i64 y) ∧ Hid (y = xs.getD (k + 1 + j) 0) := fun j hj => by
          obtain ⟨b', off', y, hab, c2, hy⟩ := h1.at (k + 1 + j) (by omega)
          simp at hab
          obtain ⟨rfl, rfl⟩ := hab
          exact ⟨y, c2, hy⟩
        have TL := Lib.hid tail
        clear tail h1
        go_wp2
        go_loopw [5, 6] (fun v i wr => ∃ (j : Nat) (c : Int) (q : Nat), k + 1 + j ≤ xs.length ∧ i = .int .i64 ((k : Int) + 1 + j) ∧ v = .int .i64 c ∧ 0 ≤ c ∧ c ≤ j ∧ Hid (c = Perm.lessP xs k j) ∧ wr = w.drewN q) (fun _ i _ => xs.length - (intOf i).toNat)
        case atStart => exact ⟨0, 0, q, by omega, by simp, rfl, by omega, by omega, rfl, rfl⟩
        case round =>
          obtain ⟨j, c, q, hj, rfl, rfl, hc0, hc1, hcc, rfl⟩ := hrel
          by_cases hjl : k + 1 + j < xs.length
          · obtain ⟨y, c2, hy⟩ := TL.out j hjl
            have ST := less_step xs k j x y hx.out hy.out
            have HS : Hid ((y < x → Perm.lessP xs k (j + 1) = Perm.lessP xs k j + 1) ∧ (¬ y < x → Perm.lessP xs k (j + 1) = Perm.lessP xs k j)) := ST
            clear ST
            have e1 : ((k : Int) + 1 + j).toNat = k + 1 + j := by omega
            by_cases hyx : y < x
            · go_wp2
              go_quiet (fail)
              go_wp2
              go_roundw
              case rel => exact ⟨j + 1, _, _, by omega, by go_num, rfl, by omega, by omega, by show _ = _; rw [HS.out.1 hyx, hcc.out], rfl⟩
              case measure => simp [intOf]; omega
            · have hyx2 : decide (y < x) = false := by simpa using hyx
              go_wp2
              go_quiet (fail)
              go_wp2
              go_roundw
              case rel => exact ⟨j + 1, _, _, by omega, by go_num, rfl, by omega, by omega, by show _ = _; rw [HS.out.2 hyx, hcc.out], rfl⟩
              case measure => simp [intOf]; omega
          · have hjj : j = xs.length - 1 - k := by omega
            have hcl : Hid (c = l) := by show _ = _; rw [hcc.out, HL.out, hjj]
            obtain rfl := hcl.out
            clear hcl hjj
            go_wp2_with (go_at_call 33; refine (MM.out _).mono ?_; rintro e w9 ⟨rfl, rfl⟩)
            go_roundw
            case rel => exact ⟨k + 1, _, _, by omega, by go_num, rfl, by omega, by omega, T3, rfl⟩
            case measure => simp [intOf]; omega
      · obtain rfl : k = xs.length := by omega
        go_wp2
        go_ret
        exact ⟨ret_int (by rw [hr.out, hf.out]), Quiet.one _ _⟩
  · have hx' : Perm.okB xs = false := by simpa using hx
    have hf := Lib.hid (Perm.rank_no hx')
    rw [hx'] at C1
    clear hx hx'
    go_enter Try.func24, Try.ntmps24
    go_wp2_with fail
    refine (C1.out _ h1).mono ?_
    rintro e w1 ⟨rfl, rfl⟩
    go_wp2
    go_ret
    exact ⟨ret_int hf.out.symm, Quiet.refl _⟩

theorem moves_any (w : World) (a1 : Option Addr) (n1 c1 : Nat) (xs : List Int) (h1 : NumsAt .i64 w a1 xs) (hn1 : n1 = xs.length) (b1 : n1 ≤ 9223372036854775807) :
    Calls Try.prog 30 #[.slice a1 n1 c1] w fun e w' => e = .returned (.bool (!decide (xs = Perm.idl xs.length))) ∧ w = w' := by
  subst hn1
  go_enter Try.func30, Try.ntmps30
  go_wp2
  go_loop [3] (fun i => ∃ k : Nat, k ≤ xs.length ∧ i = .int .i64 k ∧ Hid (∀ j : Nat, j < k → xs.getD j 0 = j)) (fun i => xs.length - (intOf i).toNat)
  case atStart => exact ⟨0, Nat.zero_le _, rfl, fun j hj => by omega⟩
  case round =>
    obtain ⟨k, hk, rfl, hall⟩ := hrel
    by_cases hlt : k < xs.length
    · obtain ⟨b, off, y, rfl, c1, hy⟩ := h1.at k hlt
      by_cases hxy : y = k
      · have he : (y != (k : Int)) = false := by simp [hxy]
        have hxy2 := Lib.hid hxy
        clear hxy
        go_wp2
        go_round
        case rel =>
          refine ⟨k + 1, by omega, by go_num, fun j hj => ?_⟩
          by_cases hjk : j = k
          · subst hjk; rw [← hy.out]; exact hxy2.out
          · exact hall.out j (by omega)
        case measure => simp [intOf]; omega
      · have he : (y != (k : Int)) = true := by simpa using hxy
        go_wp2
        go_ret
        refine ⟨ret_bool ?_, rfl⟩
        rw [decide_eq_false (fun h => hxy (by rw [hy.out]; exact Perm.moves_iff.2 h k hlt))]
        rfl
    · go_wp2
      go_ret
      refine ⟨ret_bool ?_, rfl⟩
      rw [decide_eq_true (Perm.moves_iff.1 (fun i hi => hall.out i (by omega)))]
      rfl
end Go.Proofs.Ytdjneckgckagdaa
