/- The walk of 'PermAll': true for every input. No conditions. -/
import Derived.Test.YtdjneckgckagdaaPermAll
import Derived.Test.YtdjneckgckagdaaPermRanks
namespace Go.Proofs.Ytdjneckgckagdaa
open Go.RowKit

theorem rank_of_unrank (N k F : Nat) (h8 : N ≤ 8) (hF : Perm.factN N = (F : Int)) (hk : k < F) : Perm.rank (Perm.unrank N k) = k := by
  by_cases h0 : (Perm.unrank N k).length = 0
  · have hy := Perm.unrank_yes (n := N) (k := (k : Int)) h8 (by omega) (by rw [hF]; omega)
    rw [hy, Perm.unrF_length] at h0
    subst h0
    have : F = 1 := by simp [Perm.factN] at hF; omega
    have : k = 0 := by omega
    subst this
    decide
  · exact Perm.lead2 h0
theorem runrank_nil (w : World) (N F : Nat) (h8 : N ≤ 8) (hF : Perm.factN N = (F : Int)) :
    Calls Try.prog 25 #[.int .i64 N, .int .i64 F] w fun e w' => e = .returned (.slice none 0 0) ∧ w = w' := by
  have M := fact_any w (N : Int) (by omega)
  rw [Int.toNat_natCast, hF] at M
  replace M := Lib.hid M
  clear hF
  have h1 : decide ((8 : Int) < (N : Int)) = false := by simp; omega
  go_enter Try.func25, Try.ntmps25
  go_wp2_with fail
  refine M.out.mono ?_
  rintro e w9 ⟨rfl, rfl⟩
  go_wp2
  go_ret
  exact ⟨rfl, rfl⟩
theorem fact_nat (N : Nat) (h : N ≤ 6) : ∃ F : Nat, Perm.factN N = (F : Int) ∧ 0 < F ∧ F ≤ 720 := by
  match N, h with
  | 0, _ => exact ⟨1, by decide, by omega, by omega⟩
  | 1, _ => exact ⟨1, by decide, by omega, by omega⟩
  | 2, _ => exact ⟨2, by decide, by omega, by omega⟩
  | 3, _ => exact ⟨6, by decide, by omega, by omega⟩
  | 4, _ => exact ⟨24, by decide, by omega, by omega⟩
  | 5, _ => exact ⟨120, by decide, by omega, by omega⟩
  | 6, _ => exact ⟨720, by decide, by omega, by omega⟩
theorem encL_at {w : World} {base n c : Nat} {a : Option Addr} {xs : List AL} (h : OwnR w base 22 1 a n c (xs.map encL)) (k : Nat) (hk : k < xs.length) : ∃ g, a = some ⟨g, 0, none⟩ ∧ w.cell? ⟨g, k, none⟩ = some (encL xs[k]) := by
  have hl := OwnR.len h
  simp at hl
  obtain ⟨g, rfl, _, _⟩ := OwnR.addr h (by omega)
  exact ⟨g, rfl, by rw [OwnR.cell h k (by omega)]; simp [hk]⟩
set_option maxRecDepth 10000 in
set_option maxHeartbeats 4000000 in
theorem permAll_walk (W : World) (n : Int) (hn : -9223372036854775808 ≤ n ∧ n ≤ 9223372036854775807) :
    Calls Try.prog 7 #[.int .i64 n] W fun e w' => e = .returned (.bool true) ∧ Below W.heap.size W w' := by
  by_cases g0 : 6 < n ∧ n ≤ 8
  · have g1 : decide (6 < n) = true := by simpa using g0.1
    have g2 : decide (n ≤ 8) = true := by simpa using g0.2
    go_enter Try.func7, Try.ntmps7
    go_wp2_with (go_at_call 8; refine (works_true _).mono ?_; rintro e w' ⟨rfl, hb⟩)
    go_ret
    exact ⟨rfl, hb⟩
  have hb1 : Below W.heap.size W (W.alloc (.cells #[.int .i64 n] 3)) := balloc (Below.refl _ _) _
  have eq0 : ∀ W' : World, (binOp .eql 35 (.func (.func 34) #[] #[.pointer (some ⟨W.heap.size, 0, none⟩)]) .nilFunc).run Try.prog W' = .ok (.bool false) W' := fun W' => by kernel_rfl
  have eg := enters_of (P := Try.prog) Try.func34 (by kernel_rfl) rfl
  by_cases g3 : n < 0 ∨ 8 < n
  · have hs := all1_none _ W.heap.size n g3 (Boxed.new W 3 (.int .i64 n)).cell 0
    have C := Lib.hid (collectL _ 0 34 _ (AdP n) (fun ys => ys = []) _ 0 (Nat.zero_le _) (by omega) eg (fun W l o o' pre x h ho hx => ⟨hx.1, hx.2.noncells (grownBy_putObj' _ _ _) (fun r e => by cases e; exact ⟨o, h, ho⟩)⟩) hs (fun ys e => by rw [e]; exact Nat.le_refl _) (AllAt n) (fun B _ => AllAt.own n B) (fun i x h => by simp at h) (fun pre x W W' h1 h2 h3 => h1.snoc h2 h3))
    clear hs eg
    have hg : (decide (6 < n) = false) ∨ (decide (6 < n) = true ∧ decide (n ≤ 8) = false) := by
      by_cases h : 6 < n
      · exact .inr ⟨by simpa using h, by simp; omega⟩
      · exact .inl (by simpa using h)
    have hg2 : (decide (n < 0) = true) ∨ (decide (n < 0) = false ∧ decide (8 < n) = true) := by
      by_cases h : n < 0
      · exact .inl (by simpa using h)
      · exact .inr ⟨by simpa using h, by simp; omega⟩
    replace hg := Lib.hid hg
    replace hg2 := Lib.hid hg2
    clear g0 g3
    rcases hg.out with k1 | ⟨k1, k2⟩ <;> rcases hg2.out with k3 | ⟨k3, k4⟩
    all_goals
      go_enter Try.func7, Try.ntmps7
      go_wp2_with fail
      refine (all_any _ _).mono ?_
      rintro e w1 ⟨rfl, rfl⟩
      go_wp2_with fail
      refine C.out.mono ?_
      rintro e w2 ⟨a2, c2, ys, rfl, rfl, _, hb2, _⟩
      go_wp2_with fail
      go_loopw [2, 5] (fun r i wr => r = .bool false ∧ i = .int .i64 0 ∧ wr = w2) (fun _ _ _ => 0)
      case atStart => exact ⟨rfl, rfl, rfl⟩
      case round =>
        obtain ⟨rfl, rfl, rfl⟩ := hrel
        go_wp2_with fail
        refine (works_true _).mono ?_
        rintro e w3 ⟨rfl, hb3⟩
        go_wp2
        go_ret
        exact ⟨rfl, btrans (btrans hb1 hb2) hb3⟩
  obtain ⟨N, rfl⟩ := Int.eq_ofNat_of_zero_le (show 0 ≤ n by omega)
  have hN : N ≤ 6 := by omega
  obtain ⟨F, hF, hF0, hF7⟩ := fact_nat N hN
  have hs := all1_seq _ N F W.heap.size (by omega) hF (by omega) (Boxed.new W 3 (.int .i64 N)).cell
  have C := Lib.hid (collectL _ _ 34 _ (AdP N) (fun ys => ys.length = F) _ F (Nat.le_refl _) (by omega) eg (fun W l o o' pre x h ho hx => ⟨hx.1, hx.2.noncells (grownBy_putObj' _ _ _) (fun r e => by cases e; exact ⟨o, h, ho⟩)⟩) hs (fun ys e => by rw [e]; exact Nat.le_refl _) (AllAt N) (fun B _ => AllAt.own N B) (fun i x h => by simp at h) (fun pre x W W' h1 h2 h3 => h1.snoc h2 h3))
  have RN := Lib.hid (fun w => runrank_nil w N F (by omega) hF)
  have hrk := Lib.hid (fun k hk => rank_of_unrank N k F (by omega) hF hk)
  have g1 : decide ((6 : Int) < (N : Int)) = false := by simp; omega
  have g4 : decide ((8 : Int) < (N : Int)) = false := by simp; omega
  clear hs eg g0 g3 hF hn
  go_enter Try.func7, Try.ntmps7
  go_wp2_with fail
  refine (all_any _ _).mono ?_
  rintro e w1 ⟨rfl, rfl⟩
  go_wp2_with fail
  refine C.out.mono ?_
  rintro e w2 ⟨a2, c2, xs, rfl, hxl, ho2, hb2, hA2⟩
  rw [hxl] at ho2 ⊢
  replace ho2 : OwnR w2 _ 22 1 a2 F c2 (xs.map encL) := ho2
  have hb2' := btrans hb1 hb2
  replace hxl := Lib.hid (show xs.length = F from hxl)
  clear C eq0 hb1 hb2
  go_wp2_with fail
  go_loopw [2, 5] (fun r i wr => ∃ k : Nat, k ≤ F ∧ r = .bool false ∧ i = .int .i64 k ∧ Below w2.heap.size w2 wr) (fun _ i _ => F - (intOf i).toNat)
  case atStart => exact ⟨0, Nat.zero_le _, rfl, rfl, Below.refl _ _⟩
  case round =>
    obtain ⟨k, hk, rfl, rfl, hb⟩ := hrel
    by_cases hlt : k < F
    · have hkl : k < xs.length := by have := hxl.out; omega
      obtain ⟨g, rfl, ck⟩ := encL_at ho2 k hkl
      obtain ⟨hx1, hx2⟩ := hA2 k xs[k] (by simp [hkl])
      obtain ⟨⟨xa, xn, xc⟩, hx⟩ : ∃ x, x = xs[k] := ⟨_, rfl⟩
      rw [← hx] at ck hx1 hx2
      obtain ⟨u, hu⟩ : ∃ u, u = Perm.unrank N k := ⟨_, rfl⟩
      rw [← hu] at hx1 hx2
      have hx1 : xn = u.length := hx1
      subst hx1
      have hx2 : OwnN .i64 w2 0 3 xa u.length xc u := hx2
      have hcp := OwnN.caps hx2
      have hul : u.length ≤ 8 := by rw [hu]; exact Perm.unrank_len _ _
      have hrank := hrk.out k hlt
      rw [← hu] at hrank
      have RU := fun w => runrank_any w N k (by omega)
      rw [← hu] at RU
      replace RU := Lib.hid RU
      have RK := Lib.hid (fun w' h => prank_any w' xa u.length xc u h rfl (by omega) hcp.1)
      have ckr : wr.cell? ⟨g, k, none⟩ = some (.slice xa u.length xc) := bcell hb ck
      have hnr := (NumsAt.of_owns hx2).below hb
      have hkk : ((k : Int) != (k : Int)) = false := by simp
      replace hrank := Lib.hid hrank
      replace hu := Lib.hid hu
      replace hx := Lib.hid hx
      have hm : maxLen = 9223372036854775807 := rfl
      replace hcp := Lib.hid hcp
      clear ck hx1 hx2 hm
      go_wp2
      go_region_with (first
        | (go_at_call 23; refine (RK.out _ hn4).mono ?_; rintro e w5 ⟨rfl, hb5⟩; rw [hrank.out])
        | (go_at_call 9; refine (eq_same rfl hn3 hi3 (by omega)).mono ?_; rintro e w4 ⟨rfl, m4, rfl⟩; have hn4 := hn3.drewN m4; have ck4 : (w3.drewN m4).cell? ⟨g, k, none⟩ = some (.slice xa u.length xc) := ck3)
        | (go_at_call 25; refine (RU.out _).mono ?_; rintro e w3 ⟨a3, c3, rfl, hi3, hb3, _⟩; have hn3 := NumsAt.below (w := wr.drew) hnr hb3; have ck3 := bcell (W := wr.drew) hb3 ckr))
      all_goals
        go_wp2
        exact ⟨⟨k + 1, by omega, rfl, by go_num, btrans (bdrewN (btrans (w := w2) (w1 := wr.drew) ⟨hb.os, hb.tape, hb.output, hb.size, hb.block⟩ hb3) m4) hb5⟩, by simp [intOf]; omega⟩
    · obtain rfl : k = F := by omega
      have hnil := fun w (a : Option Addr) (n c : Nat) => Lib.run_eql_slice_nil (P := Try.prog) w 22 3 a n c 0 0 Try.underlying22
      go_wp2_with fail
      refine (RN.out _).mono ?_
      rintro e w3 ⟨rfl, rfl⟩
      go_wp2_with fail
      refine (works_true _).mono ?_
      rintro e w4 ⟨rfl, hb4⟩
      go_wp2
      go_ret
      exact ⟨rfl, btrans (btrans hb2' hb) hb4⟩
end Go.Proofs.Ytdjneckgckagdaa
