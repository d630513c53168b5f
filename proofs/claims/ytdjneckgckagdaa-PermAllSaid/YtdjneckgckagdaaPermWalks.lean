/- The walks of layer perm's calls, first part. Conditions: lengths within int. -/
import Derived.Test.YtdjneckgckagdaaEqInts
import Derived.Test.YtdjneckgckagdaaPermPlain
namespace Go.Proofs.Ytdjneckgckagdaa
open Go.RowKit

/-- the cells of 'seen' behind k rounds -/
def seenL (p : List Int) (k : Nat) : List Value := (List.range 8).map fun (j : Nat) => .bool ((List.range k).any fun i => p.getD i 0 == (j : Int))
theorem seen_len (p : List Int) (k : Nat) : (seenL p k).length = 8 := by simp [seenL]
theorem seen_at (p : List Int) (k j : Nat) (h : j < 8) : (seenL p k)[j]? = some (.bool ((List.range k).any fun i => p.getD i 0 == (j : Int))) := by
  unfold seenL
  rw [List.getElem?_map, List.getElem?_range h]
  rfl
theorem seen_set (p : List Int) (k j : Nat) (h : p.getD k 0 = (j : Int)) : (seenL p k).set j (.bool true) = seenL p (k + 1) := by
  apply List.ext_getElem?
  intro i
  rw [List.getElem?_set]
  by_cases hi : i < 8
  · rw [seen_at p k i hi, seen_at p (k + 1) i hi, seen_len]
    by_cases hji : j = i
    · subst hji
      rw [if_pos rfl, if_pos hi, List.range_succ, List.any_append]
      have : ([k].any fun i => p.getD i 0 == (j : Int)) = true := by rw [List.any_cons, h]; simp
      rw [this, Bool.or_true]
    · rw [if_neg hji, List.range_succ, List.any_append]
      have : ([k].any fun m => p.getD m 0 == (i : Int)) = false := by rw [List.any_cons, h]; simp; omega
      rw [this, Bool.or_false]
  · rw [List.getElem?_eq_none (by rw [seen_len]; omega), List.getElem?_eq_none (by rw [seen_len]; omega)]
    split
    · split
      · rename_i h2; rw [seen_len] at h2; omega
      · rfl
    · rfl

theorem rplace_any (w : World) (a1 : Option Addr) (n1 c1 : Nat) (xs : List Int) (x : Int) (h1 : NumsAt .i64 w a1 xs) (hn1 : n1 = xs.length) (b1 : n1 ≤ 9223372036854775807) :
    Calls Try.prog 28 #[.slice a1 n1 c1, .int .i64 x] w fun e w' => e = .returned (.int .i64 (Perm.place xs x)) ∧ w = w' := by
  subst hn1
  go_enter Try.func28, Try.ntmps28
  go_wp2
  go_loop [5] (fun i => ∃ k : Nat, k ≤ xs.length ∧ i = .int .i64 k ∧ Hid (∀ j, j < k → xs.getD j 0 ≠ x)) (fun i => xs.length - (intOf i).toNat)
  case atStart => exact ⟨0, Nat.zero_le _, rfl, fun j hj => by omega⟩
  case round =>
    obtain ⟨k, hk, rfl, hall⟩ := hrel
    by_cases hlt : k < xs.length
    · obtain ⟨b, off, y, rfl, c1, hy⟩ := h1.at k hlt
      by_cases hxy : y = x
      · have he : (y == x) = true := by simpa using hxy
        have hxy2 := Lib.hid hxy
        clear hxy
        go_wp2
        go_ret
        exact ⟨ret_int (Perm.place_at k hlt (by rw [← hy.out, hxy2.out]) hall.out).symm, rfl⟩
      · have he : (y == x) = false := by simpa using hxy
        go_wp2
        go_round
        case rel =>
          refine ⟨k + 1, by omega, by go_num, fun j hj => ?_⟩
          by_cases hjk : j = k
          · subst hjk; rw [← hy.out]; exact hxy
          · exact hall.out j (by omega)
        case measure => simp [intOf]; omega
    · go_wp2
      go_ret
      exact ⟨ret_int (Perm.place_none (fun j hj => hall.out j (by omega))).symm, rfl⟩

theorem rcheck_any (w : World) (a1 : Option Addr) (n1 c1 : Nat) (xs : List Int) (h1 : NumsAt .i64 w a1 xs) (hn1 : n1 = xs.length) (b1 : n1 ≤ 9223372036854775807) :
    Calls Try.prog 15 #[.slice a1 n1 c1] w fun e w' => e = .returned (.bool (Perm.okB xs)) ∧ w = w' := by
  subst hn1
  by_cases h8 : 8 < xs.length
  · have hf : Hid (Perm.okB xs = false) := by
      show _ = _
      rw [Bool.eq_false_iff]
      intro h
      have := ((Perm.okB_iff xs).1 h).small
      omega
    have h8' : (8 : Int) < (xs.length : Int) := by omega
    go_enter Try.func15, Try.ntmps15
    go_wp2
    go_ret
    exact ⟨ret_bool hf.out.symm, rfl⟩
  · have h8' : ¬ (8 : Int) < (xs.length : Int) := by omega
    go_enter Try.func15, Try.ntmps15
    go_wp2
    go_loop [3] (fun i => ∃ k : Nat, k ≤ xs.length ∧ i = .int .i64 k ∧ Hid (∀ j : Nat, j < k → 0 ≤ Perm.place xs j)) (fun i => xs.length - (intOf i).toNat)
    case atStart => exact ⟨0, Nat.zero_le _, rfl, fun j hj => by omega⟩
    case round =>
      obtain ⟨k, hk, rfl, hall⟩ := hrel
      by_cases hlt : k < xs.length
      · obtain ⟨y, hy⟩ : ∃ y, y = Perm.place xs k := ⟨_, rfl⟩
        have C := fun w h => rplace_any w a1 xs.length c1 xs k h rfl b1
        rw [← hy] at C
        have CC := Lib.hid C
        have HY := Lib.hid hy
        clear C hy
        by_cases h0 : y < 0
        · go_wp2_with (go_at_call 28; refine (CC.out _ h1).mono ?_; rintro e w' ⟨rfl, rfl⟩)
          go_ret
          refine ⟨ret_bool ?_, rfl⟩
          rw [← Perm.rokB_eq, eq_comm, Bool.eq_false_iff]
          intro h
          simp only [Perm.rokB, Bool.and_eq_true, decide_eq_true_eq, List.all_eq_true, List.mem_range] at h
          have := h.2 k hlt
          rw [← HY.out] at this
          omega
        · go_wp2_with (go_at_call 28; refine (CC.out _ h1).mono ?_; rintro e w' ⟨rfl, rfl⟩)
          go_round
          case rel =>
            refine ⟨k + 1, by omega, by go_num, fun j hj => ?_⟩
            by_cases hjk : j = k
            · subst hjk; rw [← HY.out]; omega
            · exact hall.out j (by omega)
          case measure => simp [intOf]; omega
      · go_wp2
        go_ret
        refine ⟨ret_bool ?_, rfl⟩
        rw [← Perm.rokB_eq, eq_comm]
        simp only [Perm.rokB, Bool.and_eq_true, decide_eq_true_eq, List.all_eq_true, List.mem_range]
        exact ⟨by omega, fun i hi => hall.out i (by omega)⟩

theorem check_any (w : World) (a1 : Option Addr) (n1 c1 : Nat) (xs : List Int) (h1 : NumsAt .i64 w a1 xs) (hn1 : n1 = xs.length) (b1 : n1 ≤ 9223372036854775807) :
    Calls Try.prog 14 #[.slice a1 n1 c1] w fun e w' => e = .returned (.bool (Perm.okB xs)) ∧ Below w.heap.size w w' := by
  subst hn1
  by_cases h8 : 8 < xs.length
  · have hf : Hid (Perm.okB xs = false) := by
      show _ = _
      rw [Bool.eq_false_iff]
      intro h
      have := ((Perm.okB_iff xs).1 h).small
      omega
    have h8' : (8 : Int) < (xs.length : Int) := by omega
    go_enter Try.func14, Try.ntmps14
    go_wp2
    go_ret
    exact ⟨ret_bool hf.out.symm, Below.refl _ _⟩
  · have h8' : ¬ (8 : Int) < (xs.length : Int) := by omega
    go_enter Try.func14, Try.ntmps14
    go_wp2
    go_loopw [11] (fun i wr => ∃ k : Nat, k ≤ xs.length ∧ i = .int .i64 k ∧ RowAt wr w.heap.size 41 (seenL xs k) ∧ Below w.heap.size w wr ∧
        Hid (∀ j, j < k → 0 ≤ xs.getD j 0 ∧ xs.getD j 0 < xs.length) ∧ Hid (∀ i j, i < j → j < k → xs.getD i 0 ≠ xs.getD j 0)) (fun i _ => xs.length - (intOf i).toNat)
    case atStart => exact ⟨0, Nat.zero_le _, rfl, RowAt.new _ rfl, balloc (Below.refl _ _) _, fun j hj => by omega, fun i j _ hj => by omega⟩
    case round =>
      obtain ⟨k, hk, rfl, hrow, hb, hrange, hapart⟩ := hrel
      by_cases hlt : k < xs.length
      · obtain ⟨b, off, y, rfl, hbB, c1, hy⟩ := h1.atb hb k hlt
        by_cases h0 : y < 0
        · go_wp2
          go_ret
          refine ⟨ret_bool ?_, hb⟩
          rw [eq_comm, Bool.eq_false_iff]
          intro h
          have := ((Perm.okB_iff xs).1 h).range k hlt
          rw [← hy.out] at this
          omega
        · have h0' : decide (y < 0) = false := by simpa using h0
          by_cases hn : xs.length ≤ y
          · go_wp2
            go_ret
            refine ⟨ret_bool ?_, hb⟩
            rw [eq_comm, Bool.eq_false_iff]
            intro h
            have := ((Perm.okB_iff xs).1 h).range k hlt
            rw [← hy.out] at this
            omega
          · have hn' : decide ((xs.length : Int) ≤ y) = false := by simpa using hn
            obtain ⟨j, rfl⟩ := Int.eq_ofNat_of_zero_le (show 0 ≤ y by omega)
            have hc := hrow.cell j
            rw [seen_at xs k j (by omega)] at hc
            have hfz := hrow.free j
            obtain ⟨s, hs⟩ : ∃ s, s = ((List.range k).any fun i => xs.getD i 0 == (j : Int)) := ⟨_, rfl⟩
            rw [← hs] at hc
            have HS := Lib.hid hs
            clear hs
            cases s with
            | true =>
              go_wp2
              go_ret
              refine ⟨ret_bool ?_, hb⟩
              rw [eq_comm, Bool.eq_false_iff]
              intro h
              obtain ⟨i, hi, e⟩ := List.any_eq_true.1 HS.out.symm
              have := ((Perm.okB_iff xs).1 h).apart i k (List.mem_range.1 hi) hlt
              rw [← hy.out] at this
              exact this (by simpa using e)
            | false =>
              have hset := Lib.hid (seen_set xs k j hy.out.symm)
              have hrow2 := hrow.set j (.bool true)
              rw [hset.out] at hrow2
              have hb2 := hb.setCell (p := ⟨w.heap.size, j, none⟩) (Nat.le_refl _) (.bool true)
              go_wp2
              go_roundw
              case rel =>
                refine ⟨k + 1, by omega, by go_num, hrow2, hb2, fun i hi => ?_, fun i m him hm => ?_⟩
                · by_cases hik : i = k
                  · subst hik; rw [← hy.out]; omega
                  · exact hrange.out i (by omega)
                · by_cases hmk : m = k
                  · subst hmk
                    intro e
                    have := HS.out
                    rw [eq_comm, List.any_eq_false] at this
                    exact this i (List.mem_range.2 him) (by rw [e, ← hy.out]; simp)
                  · exact hapart.out i m him (by omega)
              case measure => simp [intOf]; omega
      · go_wp2
        go_ret
        refine ⟨ret_bool ?_, hb⟩
        rw [eq_comm, Perm.okB_iff]
        exact ⟨by omega, fun i hi => hrange.out i (by omega), fun i j hij hj => hapart.out i j hij (by omega)⟩
end Go.Proofs.Ytdjneckgckagdaa
