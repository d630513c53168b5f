/- The walks of layer perm's Unrank. Conditions: numbers of Go's int. -/
import Derived.Test.YtdjneckgckagdaaPermDel
import Derived.Test.YtdjneckgckagdaaApp
namespace Go.Proofs.Ytdjneckgckagdaa
open Go.RowKit

theorem id_own (w : World) (m : Nat) (hm : m ≤ 8) : Calls Try.prog 20 #[.int .i64 m] w fun e w' => e = .returned (.slice (some ⟨w.heap.size, 0, none⟩) m m) ∧ OwnN .i64 w' w.heap.size 3 (some ⟨w.heap.size, 0, none⟩) m m (Perm.idl m) ∧ Below w.heap.size w w' := by
  have h0 : ¬ (m : Int) < 0 := by omega
  have h0' : decide ((m : Int) < 0) = false := by simp
  have h8 : ¬ 8 < (m : Int) := by omega
  have h8' : decide (8 < (m : Int)) = false := by simpa using h8
  go_enter Try.func20, Try.ntmps20
  go_wp2_with (at_make; refine wp_make rfl _ _ 22 3 .i64 8 rfl Try.underlying22 Try.infoInt w.heap.size m rfl rfl (by omega) (by omega) (Nat.le_refl _) ?_)
  intro w1 hown hg
  have hb1 : Below w.heap.size w w1 := bgrown (Below.refl _ _) hg (by simp)
  rw [← fill_zero m (fun i => (i : Int))] at hown
  clear hg
  go_wp2
  go_loopw [15] (fun i wr => ∃ k : Nat, k ≤ m ∧ i = .int .i64 k ∧ OwnN .i64 wr w.heap.size 3 (some ⟨w.heap.size, 0, none⟩) m m (fillL m (fun i => (i : Int)) k) ∧ Below w.heap.size w wr) (fun i _ => m - (intOf i).toNat)
  case atStart => exact ⟨0, Nat.zero_le _, rfl, hown, hb1⟩
  case round =>
    obtain ⟨k, hk, rfl, ho, hb⟩ := hrel
    by_cases hlt : k < m
    · obtain ⟨y, e2, _⟩ := own_at ho k (by rw [fill_len]; omega)
      have e3 := ho.free k
      have ho2 := own_set ho k (k : Int)
      have hs := Lib.hid (fill_set m (fun i => (i : Int)) k)
      rw [hs.out] at ho2
      have hb2 := hb.setCell (p := ⟨w.heap.size, k, none⟩) (Nat.le_refl _) (.int .i64 (k : Int))
      go_wp2
      go_roundw
      case rel => exact ⟨k + 1, by omega, by go_num, ho2, hb2⟩
      case measure => simp [intOf]; omega
    · obtain rfl : k = m := by omega
      go_wp2
      go_ret
      exact ⟨rfl, by rw [fill_all] at ho; exact ho, hb⟩


theorem unr_next {m : Nat} {L : List Int} {k : Int} {c : Nat} {x : Int} (hc : k / Perm.factN m = (c : Int)) (hx : x = L.getD c 0) : Perm.unrF (m + 1) L k = x :: Perm.unrF m (L.eraseIdx c) (k % Perm.factN m) := by
  simp only [Perm.unrF]
  rw [hc, Int.toNat_natCast, hx]

set_option maxHeartbeats 600000 in
theorem unrank_any (w : World) (n k : Int) (hk : -9223372036854775808 ≤ k ∧ k ≤ 9223372036854775807) :
    Calls Try.prog 22 #[.int .i64 n, .int .i64 k] w (GivesInts (Perm.unrank n k) w) := by
  by_cases h0 : n < 0
  · have hf := Lib.hid (Perm.unrank_no (n := n) (k := k) (.inl h0))
    go_enter Try.func22, Try.ntmps22
    go_wp2
    go_ret
    exact gives_nil hf.out (Below.refl _ _)
  have h0' : decide (n < 0) = false := by simpa using h0
  by_cases h8 : 8 < n
  · have hf := Lib.hid (Perm.unrank_no (n := n) (k := k) (.inr (.inl h8)))
    go_enter Try.func22, Try.ntmps22
    go_wp2
    go_ret
    exact gives_nil hf.out (Below.refl _ _)
  have h8' : decide (8 < n) = false := by simpa using h8
  by_cases hk0 : k < 0
  · have hf := Lib.hid (Perm.unrank_no (n := n) (k := k) (.inr (.inr (.inl hk0))))
    go_enter Try.func22, Try.ntmps22
    go_wp2
    go_ret
    exact gives_nil hf.out (Below.refl _ _)
  have hk0' : decide (k < 0) = false := by simpa using hk0
  obtain ⟨N, rfl⟩ := Int.eq_ofNat_of_zero_le (show 0 ≤ n by omega)
  have hN : N ≤ 8 := by omega
  obtain ⟨F, hF⟩ : ∃ F, F = Perm.factN N := ⟨_, rfl⟩
  have M := fun w => many_any w (N : Int) (by omega)
  rw [Int.toNat_natCast, ← hF] at M
  have MM := Lib.hid M
  have HF := Lib.hid hF
  clear M hF
  by_cases hkF : F ≤ k
  · have hf := Lib.hid (Perm.unrank_no (n := N) (k := k) (.inr (.inr (.inr (by rw [Int.toNat_natCast, ← HF.out]; exact hkF)))))
    go_enter Try.func22, Try.ntmps22
    go_wp2_with (go_at_call 31; refine (MM.out _).mono ?_; rintro e w9 ⟨rfl, rfl⟩)
    go_ret
    exact gives_nil hf.out (Below.refl _ _)
  have hkF' : decide (F ≤ k) = false := by simpa using hkF
  have hf := Lib.hid (Perm.unrank_yes (n := N) (k := k) hN (by omega) (by rw [← HF.out]; omega))
  have hkN : Hid (k < Perm.factN N) := by show _ < _; rw [← HF.out]; omega
  go_enter Try.func22, Try.ntmps22
  go_wp2_with fail
  refine (MM.out _).mono ?_
  rintro e w9 ⟨rfl, rfl⟩
  go_wp2_with fail
  refine (id_own _ N hN).mono ?_
  rintro e w1 ⟨rfl, ho, hb⟩
  clear hkF hkF' MM HF
  go_wp2
  go_loopw [1, 5, 6] (fun kv lv ov wr => ∃ (m : Nat) (kk : Int) (L out : List Int) (a : Option Addr) (cap : Nat), m ≤ N ∧ kv = .int .i64 kk ∧ lv = .slice (some ⟨w.heap.size, 0, none⟩) m N ∧ ov = .slice a (N - m) cap ∧ 0 ≤ kk ∧ kk ≤ k ∧ Hid (kk < Perm.factN m) ∧
      OwnN .i64 wr w.heap.size 3 (some ⟨w.heap.size, 0, none⟩) m N L ∧ OwnN .i64 wr w.heap.size 3 a (N - m) cap out ∧ Hid ((Value.slice a (N - m) cap).ownBlock ≠ some w.heap.size) ∧ Below w.heap.size w wr ∧ Hid (out ++ Perm.unrF m L kk = Perm.unrF N (Perm.idl N) k)) (fun _ lv _ _ => match lv with | .slice _ m _ => m | _ => 0)
  case atStart => exact ⟨N, k, _, [], none, 0, Nat.le_refl _, rfl, rfl, by simp, by omega, by omega, hkN.out, ho, by simpa using OwnN.nil _ _ _ _, by simp [Hid, Value.ownBlock], hb, rfl⟩
  case round =>
    obtain ⟨m, kk, L, out, a, cap, hm, rfl, rfl, rfl, hk0, hkk, hkm, hoL, hoO, hne, hb, hs⟩ := hrel
    by_cases hlt : 0 < m
    · obtain ⟨j, rfl⟩ : ∃ j, m = j + 1 := ⟨m - 1, by omega⟩
      obtain ⟨f, hfa⟩ : ∃ f, f = Perm.factN j := ⟨_, rfl⟩
      have f1 := Perm.fact_pos j
      rw [← hfa] at f1
      have M2 : ∀ w (x : Int), x = (j : Int) → Calls Try.prog 31 #[.int .i64 x] w fun e w' => e = .returned (.int .i64 f) ∧ w = w' := fun w x hx => by
        subst hx
        have := many_any w (j : Int) (by omega)
        rwa [Int.toNat_natCast, ← hfa] at this
      have MM := Lib.hid M2
      have kd0 : 0 ≤ kk / f := Int.ediv_nonneg hk0 (by omega)
      have kd1 : kk / f < (j : Int) + 1 := Int.ediv_lt_of_lt_mul (by omega) (by rw [Int.mul_comm]; have := hkm.out; simp only [Perm.factN] at this; rw [← hfa] at this; exact this)
      obtain ⟨c, hc⟩ := Int.eq_ofNat_of_zero_le kd0
      have hcj : c < j + 1 := by omega
      have km0 : 0 ≤ kk % f := Int.emod_nonneg _ (by omega)
      have km1 : kk % f < f := Int.emod_lt_of_pos _ (by omega)
      have km2 : kk % f ≤ kk := by have := Int.mul_ediv_add_emod kk f; have := Int.mul_nonneg (show 0 ≤ f by omega) kd0; omega
      have HF := Lib.hid hfa
      have HC := Lib.hid hc
      clear M2 hfa kd0 kd1
      have hlenL := owns_len hoL
      obtain ⟨x, hx, hxx⟩ := own_at hoL c (by omega)
      have HL := Lib.hid hlenL
      clear hlenL
      have hz := hb.size
      have hBz : w.heap.size < wr.heap.size := World.block_lt_of_cell? wr _ hx
      go_wp2_with (first
        | (go_at_call 31; refine (MM.out _ _ (by omega)).mono ?_; rintro e w9 ⟨rfl, rfl⟩)
        | (at_builtin; refine wp_app1x rfl _ _ 22 3 .i64 8 rfl Try.underlying22 Try.infoInt w.heap.size a (N - (j + 1)) cap out rfl (hoO.alloc _) wr.heap.size 1 x rfl (new_cell1 _ _ _) (by omega) (by omega) (by simp; omega) ?_))
      intro a' cap' w2 hoO2 hg hat
      have hb2 := bgrown (balloc hb _) hg hoO.block
      have hoL2 := (hoL.alloc _).kept hg (.inr (fun e => hne.out e.symm))
      have hne2 : Hid ((Value.slice a' (N - (j + 1) + 1) cap').ownBlock ≠ some w.heap.size) := by
        rcases hat with h | h
        · show _ ≠ _; rw [h]; exact hne.out
        · show _ ≠ _; rw [h]; intro e; simp at e; omega
      clear hg hat hoO hoL hx hb
      go_wp2
      have hw1 : IntKind.i64.wrap (kk.tdiv f) = (c : Int) := by rw [Int.tdiv_eq_ediv_of_nonneg hk0, hc]; exact IntWalk.i64_in _ (by omega)
      have hw2 : IntKind.i64.wrap ((c : Int) + 1) = (c : Int) + 1 := IntWalk.i64_in _ (by omega)
      have hf0 : ¬ f = 0 := by omega
      refine wp_region_still_tail 8 (by kernel_rfl) (by kernel_rfl) ?_
      simp only [List.take_succ_cons, List.take_zero, List.drop_succ_cons, List.drop_zero, World.drew_eq]
      repeat still_step
      refine wpStill_nil ?_
      clear hw1 hw2 hf0
      have hoL2d : OwnN .i64 w2.drew w.heap.size 3 (some ⟨w.heap.size, 0, none⟩) (j + 1) N L := hoL2
      have hoO2d : OwnN .i64 w2.drew w.heap.size 3 a' (N - (j + 1) + 1) cap' (out ++ [x]) := hoO2
      have hb2d := hb2.drew
      clear hoL2 hoO2 hb2
      go_wp2_with fail
      refine (del_any _ w.heap.size w.heap.size (j + 1) N c L hoL2d (by omega) _ _ (by first | rfl | omega) (by first | rfl | omega)).mono ?_
      rintro e w3 ⟨rfl, hoL3, hg3⟩
      have hoO3 := hoO2d.kept hg3 (.inr hne2.out)
      have hb3 := bgrown hb2d hg3 (by intro k hk; simp at hk; omega)
      clear hg3 hoL2d hoO2d hb2d
      go_wp2
      go_roundw
      case rel =>
        refine ⟨j, kk % f, L.eraseIdx c, out ++ [x], a', cap', by omega, rfl, by first | rfl | simp, by rw [show N - (j + 1) + 1 = N - j by omega], km0, by omega, ?_, hoL3, ?_, ?_, hb3, ?_⟩
        · show _ < _; rw [← HF.out]; exact km1
        · rw [show N - j = N - (j + 1) + 1 by omega]; exact hoO3
        · rw [show N - j = N - (j + 1) + 1 by omega]; exact hne2
        · show _ = _
          rw [← hs.out, unr_next (m := j) (L := L) (k := kk) (c := c) (x := x) (by rw [← HF.out]; exact HC.out) hxx.out, HF.out, List.append_assoc]
          rfl
      case measure => simp
    · obtain rfl : m = 0 := by omega
      go_wp2
      go_ret
      rw [show N - 0 = N by omega] at hoO
      refine gives_own hoO ?_ hb
      rw [hf.out, ← hs.out]
      simp [Perm.unrF]
end Go.Proofs.Ytdjneckgckagdaa
