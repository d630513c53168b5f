/- The walks of layer perm's calls, second part: those that make lists. Conditions: lengths within int. -/
import Derived.Test.YtdjneckgckagdaaPermWalks
namespace Go.Proofs.Ytdjneckgckagdaa
open Go.RowKit

theorem idl_snoc (k : Nat) : Perm.idl k ++ [(k : Int)] = Perm.idl (k + 1) := by simp [Perm.idl, List.range_succ]
theorem idS_yes {n : Nat} (h : n ≤ 8) : Perm.idS n = Perm.idl n := by
  unfold Perm.idS
  rw [if_pos ⟨by omega, by omega⟩, Int.toNat_natCast]
theorem idS_no {n : Int} (h : n < 0 ∨ 8 < n) : Perm.idS n = [] := by
  unfold Perm.idS
  rw [if_neg (by omega)]

theorem id_any (w : World) (n : Int) : Calls Try.prog 20 #[.int .i64 n] w (GivesInts (Perm.idS n) w) := by
  by_cases h0 : n < 0
  · have hf := Lib.hid (idS_no (n := n) (.inl h0))
    go_enter Try.func20, Try.ntmps20
    go_wp2
    go_ret
    exact gives_nil hf.out (Below.refl _ _)
  · have h0' : decide (n < 0) = false := by simpa using h0
    by_cases h8 : 8 < n
    · have hf := Lib.hid (idS_no (n := n) (.inr h8))
      go_enter Try.func20, Try.ntmps20
      go_wp2
      go_ret
      exact gives_nil hf.out (Below.refl _ _)
    · have h8' : decide (8 < n) = false := by simpa using h8
      obtain ⟨m, rfl⟩ := Int.eq_ofNat_of_zero_le (show 0 ≤ n by omega)
      have hm : m ≤ 8 := by omega
      have hf := Lib.hid (idS_yes hm)
      go_enter Try.func20, Try.ntmps20
      go_wp2_with (at_make; refine wp_make rfl _ _ 22 3 .i64 8 rfl Try.underlying22 Try.infoInt w.heap.size m rfl rfl (by omega) (by omega) (Nat.le_refl _) ?_)
      intro w1 hown hg
      have hb1 : Below w.heap.size w w1 := bgrown (Below.refl _ _) hg (by simp)
      rw [← fill_zero m (fun i => (i : Int))] at hown
      clear hg
      go_wp2
      go_loopw [15] (fun i wr => ∃ k : Nat, k ≤ m ∧ i = .int .i64 k ∧ OwnN .i64 wr w.heap.size 3 (some ⟨w.heap.size, 0, none⟩) m m (fillL m (fun i => (i : Int)) k) ∧ Below w.heap.size w wr) (fun i _ => m - (intOf i).toNat)
      case atStart => exact ⟨0, Nat.zero_le _, rfl, hown, hb1⟩
      case round =>
        obtain ⟨k, hk, rfl, ho, hb⟩ := hrel
        by_cases hlt : k < m
        · obtain ⟨y, e2, _⟩ := own_at ho k (by rw [fill_len]; omega)
          have e3 := ho.free k
          have ho2 := own_set ho k (k : Int)
          have hs := Lib.hid (fill_set m (fun i => (i : Int)) k)
          rw [hs.out] at ho2
          have hb2 := hb.setCell (p := ⟨w.heap.size, k, none⟩) (Nat.le_refl _) (.int .i64 (k : Int))
          go_wp2
          go_roundw
          case rel => exact ⟨k + 1, by omega, by go_num, ho2, hb2⟩
          case measure => simp [intOf]; omega
        · obtain rfl : k = m := by omega
          go_wp2
          go_ret
          exact gives_own ho (by rw [fill_all, hf.out]; rfl) hb

theorem rid_any (w : World) (n : Int) (hn : -9223372036854775808 ≤ n ∧ n ≤ 9223372036854775807) : Calls Try.prog 21 #[.int .i64 n] w (GivesInts (Perm.idS n) w) := by
  by_cases h0 : 0 < n ∧ n ≤ 8
  · obtain ⟨m, rfl⟩ := Int.eq_ofNat_of_zero_le (show 0 ≤ n by omega)
    have hm : m ≤ 8 := by omega
    have hf := Lib.hid (idS_yes hm)
    clear h0
    go_enter Try.func21, Try.ntmps21
    go_wp2
    go_loopw [3, 4] (fun v i wr => ∃ (k : Nat) (a : Option Addr) (cap : Nat), k ≤ m ∧ i = .int .i64 k ∧ v = .slice a k cap ∧ OwnN .i64 wr w.heap.size 3 a k cap (Perm.idl k) ∧ Below w.heap.size w wr) (fun _ i _ => m - (intOf i).toNat)
    case atStart => exact ⟨0, none, 0, Nat.zero_le _, rfl, rfl, OwnN.nil _ _ _ _, Below.refl _ _⟩
    case round =>
      obtain ⟨k, a, cap, hk, rfl, rfl, ho, hb⟩ := hrel
      have h8 : decide ((m : Int) ≤ 8) = true := by simp; omega
      have hz := hb.size
      by_cases hlt : k < m
      · go_wp2_with (at_builtin; refine wp_app1 rfl _ _ 22 3 .i64 8 rfl Try.underlying22 Try.infoInt w.heap.size a k cap (Perm.idl k) rfl (ho.alloc _) wr.heap.size 1 k rfl (new_cell1 _ _ _) (by omega) (by omega) (by simp; omega) ?_)
        intro a' cap' w' ho' hg
        have hb' := bgrown (balloc hb _) hg ho.block
        have hs := Lib.hid (idl_snoc k)
        rw [hs.out] at ho'
        clear hg ho
        go_wp2
        go_roundw
        case rel => exact ⟨k + 1, a', cap', by omega, by go_num, rfl, ho', hb'⟩
        case measure => simp [intOf]; omega
      · obtain rfl : k = m := by omega
        go_wp2
        go_ret
        exact gives_own ho (by rw [hf.out]) hb
  · have hf : Hid (Perm.idS n = []) := by
      by_cases hn0 : n = 0
      · subst hn0; rfl
      · exact idS_no (by omega)
    by_cases hp : 0 < n
    · have h8 : decide (n ≤ 8) = false := by simp; omega
      go_enter Try.func21, Try.ntmps21
      go_wp2
      go_loopw [3, 4] (fun v i wr => i = .int .i64 0 ∧ v = .slice none 0 0 ∧ wr = w) (fun _ _ _ => 0)
      case atStart => exact ⟨rfl, rfl, rfl⟩
      case round =>
        obtain ⟨rfl, rfl, rfl⟩ := hrel
        go_wp2
        go_ret
        exact gives_nil hf.out (Below.refl _ _)
    · have hp' : decide (0 < n) = false := by simpa using hp
      go_enter Try.func21, Try.ntmps21
      go_wp2
      go_loopw [3, 4] (fun v i wr => i = .int .i64 0 ∧ v = .slice none 0 0 ∧ wr = w) (fun _ _ _ => 0)
      case atStart => exact ⟨rfl, rfl, rfl⟩
      case round =>
        obtain ⟨rfl, rfl, rfl⟩ := hrel
        go_wp2
        go_ret
        exact gives_nil hf.out (Below.refl _ _)
end Go.Proofs.Ytdjneckgckagdaa
