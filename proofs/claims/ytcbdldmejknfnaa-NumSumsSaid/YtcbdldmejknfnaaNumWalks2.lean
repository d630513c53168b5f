/- The walks of layer num's Unrank, Mod and of the first example. Conditions: as the first walks. -/
import Derived.Test.YtcbdldmejknfnaaNumWalks
namespace Go.Proofs.Ytcbdldmejknfnaa
open Go.RowKit

def inB (xs : List Int) : Bool := decide (∀ i, i < xs.length → -1048576 ≤ xs.getD i 0 ∧ xs.getD i 0 ≤ 1048576)

theorem within_any (w : World) (a1 : Option Addr) (n1 c1 : Nat) (xs : List Int) (h1 : IntsAt w a1 xs) (hn1 : n1 = xs.length) (b1 : n1 ≤ 9223372036854775807) :
    Calls Try.prog 28 #[.slice a1 n1 c1] w fun e w' => e = .returned (.bool (inB xs)) ∧ w = w' := by
  subst hn1
  go_enter Try.func28, Try.ntmps28
  go_wp2
  go_loop [7] (fun i => ∃ k : Nat, k ≤ xs.length ∧ i = .int .i64 k ∧ Hid (∀ j, j < k → -1048576 ≤ xs.getD j 0 ∧ xs.getD j 0 ≤ 1048576)) (fun i => xs.length - (intOf i).toNat)
  case atStart => exact ⟨0, Nat.zero_le _, rfl, fun j hj => by omega⟩
  case round =>
    obtain ⟨k, hk, rfl, hall⟩ := hrel
    by_cases hlt : k < xs.length
    · obtain ⟨b, off, x, rfl, c1, hx⟩ := h1.at k hlt
      go_wp2
      all_goals first
        | (go_ret; exact ⟨ret_bool (decide_eq_false (fun h => by have := h k hlt; have := hx.out; omega)).symm, rfl⟩)
        | (go_round
           case rel =>
             refine ⟨k + 1, by omega, by go_num, fun j hj => ?_⟩
             by_cases hjk : j = k
             · subst hjk; rw [← hx.out]; omega
             · exact hall.out j (by omega)
           case measure => simp [intOf]; omega)
    · go_wp2
      go_ret
      exact ⟨ret_bool (decide_eq_true (fun i hi => hall.out i (by omega))).symm, rfl⟩

theorem unrank_any (w : World) (a2 : Option Addr) (n2 c2 : Nat) (n : Int) (bs : List Int) (h2 : IntsAt w a2 bs) (hn2 : n2 = bs.length) (b2 : n2 * 8 ≤ 140737488351232) :
    Calls Try.prog 15 #[.int .i64 n, .slice a2 n2 c2] w (UnrankPost n bs w) := by
  subst hn2
  by_cases hn : n < 0 ∨ 1048576 < n
  · rcases hn with hn | hn
    · go_enter Try.func15, Try.ntmps15
      go_wp2
      go_ret2
      exact unrank_post_no (Num.unrank_no (.inl hn)) (Below.refl _ _)
    · have hn0 : ¬ n < 0 := by omega
      have hin : inB [n] = false := decide_eq_false (fun h => by have := h 0 (by simp); simp at this; omega)
      go_enter Try.func15, Try.ntmps15
      go_wp2_with (go_at_call 28; refine (within_any _ _ _ _ [n] (ints_new1 rfl n) rfl (by simp)).mono ?_; rintro e w' ⟨rfl, rfl⟩)
      go_ret2
      exact unrank_post_no (Num.unrank_no (.inr hn)) ((Below.refl _ _).alloc (Nat.le_refl _) _)
  · have hn0 : ¬ n < 0 := by omega
    have hn1 : ¬ 1048576 < n := by omega
    clear hn
    obtain ⟨i0, hi, hz0, hz1, hz2⟩ := info_parts Try.info3
    go_enter Try.func15, Try.ntmps15
    have hin : inB [n] = true := decide_eq_true (fun i hi => by match i, hi with | 0, _ => simp; omega)
    go_wp2_with (first | (go_at_call 28; refine (within_any _ _ _ _ [n] (ints_new1 rfl n) rfl (by simp)).mono ?_; rintro e w' ⟨rfl, rfl⟩) | (at_make; refine wpList_make_full _ rfl _ _ 25 rfl (w.heap.size + 1) 3 i0 (.int .i64 0) 1 Try.underlying25 hi hz0 hz1 .i64 .i64 bs.length bs.length bs.length rfl rfl rfl rfl (by rw [hz2]; omega) (by unfold maxLen; omega) (by simp) ?_))
    intro w1 hown hgrow
    have hb1 : Below w.heap.size w w1 := ((Below.refl _ _).alloc (Nat.le_refl _) _).grown hgrow (by simp) (by simp)
    have ho : w1.ownsRow (w.heap.size + 1) 3 1 (.slice (some ⟨w.heap.size + 1, 0, none⟩) bs.length bs.length) bs.length ((part n bs 0).map (Value.int .i64)) := by
      rw [part_zero, List.map_replicate]
      simpa [toList_madeCells_one] using hown
    clear hown hgrow
    have hlen := Lib.hid (show bs.length ≤ 17592186044000 by omega)
    go_wp2
    go_loopw [0, 7] (fun v i wr => ∃ d : Nat, ∃ q : Int, d ≤ bs.length ∧ i = .int .i64 ((bs.length : Int) - 1 - (d : Int)) ∧ v = .int .i64 q ∧ 0 ≤ q ∧ q ≤ 1048576 ∧ Hid (q = Num.qd n bs d) ∧ Hid (∀ k, k < d → 1 ≤ bs.getD (bs.length - 1 - k) 0) ∧
        wr.ownsRow (w.heap.size + 1) 3 1 (.slice (some ⟨w.heap.size + 1, 0, none⟩) bs.length bs.length) bs.length ((part n bs d).map (Value.int .i64)) ∧ Below w.heap.size w wr) (fun _ i _ => (intOf i + 1).toNat)
    case atStart => exact ⟨0, n, Nat.zero_le _, by simp, rfl, by omega, by omega, rfl, fun k hk => by omega, ho, hb1⟩
    case round =>
      obtain ⟨d, q, hd, rfl, rfl, hq0, hq1, hq, hall, ho, hb⟩ := hrel
      by_cases hlt : d < bs.length
      · obtain ⟨b, off, x, rfl, hbb, c2, hx⟩ := h2.atb hb (bs.length - 1 - d) (by omega)
        have e1 : ((bs.length : Int) - 1 - (d : Int)).toNat = bs.length - 1 - d := by omega
        obtain ⟨y, e2, _⟩ := ownsInt_at ho (bs.length - 1 - d) (by rw [part_length]; omega)
        have e3 := ho.frozenAt (bs.length - 1 - d)
        by_cases hx1 : x < 1
        · go_wp2
          go_ret2
          exact unrank_post_no (Num.unrank_no_base (bs.length - 1 - d) (by omega) (by rw [← hx.out]; exact hx1)) hb
        · have ho2 := ownsInt_set ho (bs.length - 1 - d) (q % x)
          have hs : Hid ((part n bs d).set (bs.length - 1 - d) (q % x) = part n bs (d + 1)) := by
            rw [hq.out, hx.out]; exact part_step n bs d hlt
          have hq3 : 0 ≤ q / x := Int.ediv_nonneg hq0 (by omega)
          have hq4 : q / x ≤ q := Int.ediv_le_self _ hq0
          rw [hs.out] at ho2
          have hb2 := hb.setCell (p := ⟨w.heap.size + 1, bs.length - 1 - d, none⟩) (by simp) (.int .i64 (q % x))
          go_wp2
          go_roundw
          case rel =>
            refine ⟨d + 1, _, by omega, by go_num, rfl, by omega, by omega, ?_, ?_, ho2, hb2⟩
            · show _ = _; rw [hq.out, hx.out]; rfl
            · intro k hk
              by_cases hkd : k = d
              · subst hkd; rw [← hx.out]; omega
              · exact hall.out k (by omega)
          case measure => simp [intOf]; omega
      · obtain rfl : d = bs.length := by omega
        have hp : Num.Pos bs := fun i hi => by
          have := hall.out (bs.length - 1 - i) (by omega)
          rwa [show bs.length - 1 - (bs.length - 1 - i) = i by omega] at this
        have hp := Lib.hid hp
        by_cases hq2 : 0 < q
        · go_wp2
          go_ret2
          exact unrank_post_no (Num.unrank_no_left (by rw [← hq.out]; exact hq2)) hb
        · go_wp2
          go_ret2
          have hu : Num.unrank n bs = (Num.digits n bs, true) := Num.unrank_yes (by omega) (by omega) hp.out (by rw [← hq.out]; omega)
          rw [part_all] at ho
          refine ⟨some ⟨w.heap.size + 1, 0, none⟩, bs.length, ?_, ?_, hb⟩
          · rw [hu]; simp only [Num.digits_length]; rfl
          · rw [hu]; exact IntsAt.of_owns ho

end Go.Proofs.Ytcbdldmejknfnaa
