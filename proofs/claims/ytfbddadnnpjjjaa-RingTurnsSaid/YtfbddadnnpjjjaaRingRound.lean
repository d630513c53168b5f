/- The walk of 'RingRound': true for every input. No conditions. -/
import Derived.Test.YtfbddadnnpjjjaaRingWorks
import Derived.Test.YtfbddadnnpjjjaaCut
namespace Go.Proofs.Ytfbddadnnpjjjaa
open Go.RowKit

/-- what stands in a queue for M after k of the numbers were put, the first one taken whenever it was full -/
def win (ls : List Int) (M k : Nat) : List Int := (ls.take k).drop (k - M)
def nthI (ls : List Int) (i : Nat) : Int := ls.getD i 0
theorem win_len (ls : List Int) (M k : Nat) (hk : k ≤ ls.length) : (win ls M k).length = min k M := by unfold win; simp; omega
theorem win_zero (ls : List Int) (M : Nat) : win ls M 0 = [] := by simp [win]
theorem win_head (ls : List Int) (M k : Nat) (hM : M ≤ k) (h0 : 0 < M) (hk : k ≤ ls.length) : (win ls M k).getD 0 0 = nthI ls (k - M) := by
  unfold win nthI
  rw [List.getD_eq_getElem?_getD, List.getD_eq_getElem?_getD, List.getElem?_drop, List.getElem?_take_of_lt (by omega)]
  simp
theorem win_full (ls : List Int) (M k : Nat) (hM : M ≤ k) (h0 : 0 < M) (hk : k < ls.length) : (win ls M k).eraseIdx 0 ++ [nthI ls k] = win ls M (k + 1) := by
  unfold win nthI
  rw [List.eraseIdx_zero, List.tail_drop, List.take_succ_eq_append_getElem hk, List.drop_append_of_le_length (by simp; omega), show k + 1 - M = k - M + 1 by omega]
  simp [List.getD, hk]
theorem win_room (ls : List Int) (M k : Nat) (hM : k < M) (hk : k < ls.length) : win ls M k ++ [nthI ls k] = win ls M (k + 1) := by
  unfold win nthI
  rw [show k - M = 0 by omega, show k + 1 - M = 0 by omega, List.take_succ_eq_append_getElem hk]
  simp [List.getD, hk]
theorem win_all (ls : List Int) (M : Nat) : win ls M ls.length = ls.drop (ls.length - M) := by unfold win; rw [List.take_length]
theorem NumsAt.nth {k : IntKind} {w wr : World} {a : Option Addr} {ls : List Int} (h : NumsAt k w a ls) (hb : Below w.heap.size w wr) (j : Nat) (hk : j < ls.length) :
    ∃ b off, a = some ⟨b, off, none⟩ ∧ b < w.heap.size ∧ wr.cell? ⟨b, off + j, none⟩ = some (.int k (nthI ls j)) := by
  obtain ⟨b, off, x, ha, hl, hc, hx⟩ := h.atb hb j hk
  exact ⟨b, off, ha, hl, by rw [hc, hx.out]; rfl⟩

set_option maxHeartbeats 2000000 in
theorem ringRound_walk (W : World) (M0 : Int) (hM : 0 ≤ M0 ∧ M0 ≤ 255) (v1 : Value) (ls : List Int) (h1 : rSl 1 8 (rInt .i64) W [v1] ls) :
    Calls Try.prog 5 #[.int .u8 M0, v1] W fun e w' => e = .returned (.bool true) ∧ Below W.heap.size W w' := by
  obtain ⟨a0, k0, rfl, l0, lc, i0, r0⟩ := NumsAt.of_rSl h1
  clear h1 r0 l0
  obtain ⟨M, rfl⟩ : ∃ M : Nat, M0 = M := ⟨M0.toNat, by omega⟩
  obtain ⟨n, hn⟩ : ∃ n, n = ls.length := ⟨_, rfl⟩
  by_cases g0 : 200 < n ∨ M = 0
  · have hg : (decide ((200 : Int) < (ls.length : Int)) = true) ∨ (decide ((200 : Int) < (ls.length : Int)) = false ∧ ((M : Int) == 0) = true) := by
      rcases g0 with g | g
      · left; simp; omega
      · by_cases g' : 200 < n
        · left; simp; omega
        · right; subst g; simp; omega
    replace hg := Lib.hid hg
    replace hn := Lib.hid hn
    clear g0 hM
    rcases hg.out with hg | ⟨hg, hg'⟩
    all_goals
      go_enter Try.func5, Try.ntmps5
      go_wp2_with (go_at_call 8; refine (works_true _).mono ?_; rintro e w' ⟨rfl, hb⟩)
      go_ret
      exact ⟨rfl, hb⟩
  have h200 : decide ((200 : Int) < (ls.length : Int)) = false := by simp; omega
  have hM0 : ((M : Int) == 0) = false := by simp; omega
  have hn2 : n ≤ 200 := by omega
  have hMp : 0 < M := by omega
  have hmost : mostP M = (M : Int) := by unfold mostP; omega
  replace hmost := Lib.hid hmost
  rw [← hn] at lc h200 ⊢
  replace hn := Lib.hid hn
  clear g0
  go_enter Try.func5, Try.ntmps5
  go_wp2_with fail
  refine (new_any _ _).mono ?_
  rintro e w1 ⟨rfl, hq1, hb1⟩
  rw [hmost.out] at hq1
  go_wp2_with fail
  go_loopw [4, 6, 7] (fun r f i wr => ∃ (k : Nat) (a : Option Addr) (c : Nat), k ≤ n ∧ r = .bool false ∧ i = .int .i64 k ∧ f = .int .i64 ((k - M : Nat) : Int) ∧ QAt wr W.heap.size W.heap.size M a c (win ls M k) ∧ Below W.heap.size W wr) (fun _ _ i _ => n - (intOf i).toNat)
  case atStart => exact ⟨0, none, 0, Nat.zero_le _, rfl, rfl, by simp, by rw [win_zero]; exact hq1, hb1⟩
  case round =>
    obtain ⟨k, a, c, hk, rfl, rfl, rfl, hq, hb⟩ := hrel
    have hwl := win_len ls M k (by have := hn.out; omega)
    by_cases hlt : k < n
    · have hkl : k < ls.length := by have := hn.out; omega
      obtain ⟨b, off, ha0, hbl, ck⟩ := i0.nth hb k hkl
      obtain ⟨x, hx⟩ : ∃ x, x = nthI ls k := ⟨_, rfl⟩
      obtain ⟨xs, hxs⟩ : ∃ xs, xs = win ls M k := ⟨_, rfl⟩
      by_cases hMk : M ≤ k
      · have hh := win_head ls M k hMk hMp (by omega)
        have he := win_full ls M k hMk hMp hkl
        obtain ⟨f, hf⟩ : ∃ f, f = k - M := ⟨_, rfl⟩
        obtain ⟨z, hz⟩ : ∃ z, z = nthI ls f := ⟨_, rfl⟩
        have hfl : f < n := by omega
        have hwl' : (win ls M k).length = M := by omega
        have hel : ((win ls M k).eraseIdx 0).length = M - 1 := by rw [List.length_eraseIdx_of_lt (by omega), hwl']
        rw [← hxs] at hq hh he hwl' hel
        rw [← hf] at hh ⊢
        rw [← hz] at hh
        rw [← hx] at he ck
        have F1 := len_any wr _ _ _ _ _ _ hq
        rw [hwl'] at F1
        have T1 := take_yes wr _ _ _ _ _ _ hq (by omega) (by omega)
        rw [hh, hwl'] at T1
        replace F1 := Lib.hid F1
        replace T1 := Lib.hid T1
        replace hx := Lib.hid hx
        replace hxs := Lib.hid hxs
        replace hh := Lib.hid hh
        replace he := Lib.hid he
        have hfM := Lib.hid (show f + 1 = k + 1 - M by omega)
        clear hf
        replace hwl := Lib.hid hwl
        replace hwl' := Lib.hid hwl'
        replace hel := Lib.hid hel
        go_wp2_with fail
        refine F1.out.mono ?_
        rintro e w2 ⟨rfl, rfl⟩
        go_wp2_with fail
        refine T1.out.mono ?_
        rintro e w3 ⟨a3, c3, rfl, hq3, ht3⟩
        rw [← hwl'.out] at ht3
        have hb3 := ht3.below hq hb (Nat.le_refl _)
        have F3 := len_any w3 _ _ _ _ _ _ hq3
        rw [hel.out] at F3
        replace F3 := Lib.hid F3
        have P3 := put_t w3 _ _ _ _ _ _ hq3 (by have := hel.out; omega) (by have := hel.out; omega) x
        rw [he.out] at P3
        replace P3 := Lib.hid P3
        obtain ⟨b', off', ha', hbl', cz⟩ := i0.nth hb3 f (by have := hn.out; omega)
        rw [← hz] at cz
        obtain ⟨_, _, ha2, _, ck3⟩ := i0.nth hb3 k hkl
        rw [ha0] at ha' ha2
        cases ha'
        cases ha2
        rw [← hx.out] at ck3
        subst ha0
        replace hz := Lib.hid hz
        clear F1 T1 ck ht3
        have hM1 : (((M - 1 : Nat) : Int) != (M : Int) - 1) = false := by simp; omega
        go_wp2_with fail
        refine F3.out.mono ?_
        rintro e w4 ⟨rfl, rfl⟩
        go_wp2_with fail
        refine P3.out.mono ?_
        rintro e w5 ⟨a5, c5, rfl, hq5, ht5⟩
        have hb5 := ht5.below hq3 hb3 (Nat.le_refl _)
        clear hq3 hb3 ht5 F3 P3 cz ck3 hM1 hq hb
        replace hq5 := Lib.hid hq5
        go_wp2
        go_roundw
        case rel => exact ⟨k + 1, a5, c5, by omega, rfl, by go_num, by rw [← hfM.out]; go_num, hq5.out, hb5⟩
        case measure => simp [intOf]; omega
      · have he := win_room ls M k (by omega) hkl
        have hwl' : (win ls M k).length = k := by omega
        rw [← hxs] at hq he hwl'
        rw [← hx] at he ck
        have F1 := len_any wr _ _ _ _ _ _ hq
        rw [hwl'] at F1
        have P3 := put_t wr _ _ _ _ _ _ hq (by omega) (by omega) x
        rw [he] at P3
        replace F1 := Lib.hid F1
        replace P3 := Lib.hid P3
        replace hx := Lib.hid hx
        replace hxs := Lib.hid hxs
        replace he := Lib.hid he
        replace hwl := Lib.hid hwl
        replace hwl' := Lib.hid hwl'
        have hz1 : k - M = 0 := by omega
        have hz2 := Lib.hid (show k + 1 - M = 0 by omega)
        rw [hz1]
        clear hz1
        have hkM : ((k : Int) == (M : Int)) = false := by simp; omega
        obtain ⟨_, _, ha2, _, ck3⟩ := i0.nth hb k hkl
        rw [ha0] at ha2
        cases ha2
        rw [← hx.out] at ck3
        subst ha0
        go_wp2_with fail
        refine F1.out.mono ?_
        rintro e w2 ⟨rfl, rfl⟩
        go_wp2_with fail
        refine P3.out.mono ?_
        rintro e w5 ⟨a5, c5, rfl, hq5, ht5⟩
        have hb5 := ht5.below hq hb (Nat.le_refl _)
        clear hq hb ht5 F1 P3 ck ck3 hkM
        replace hq5 := Lib.hid hq5
        go_wp2
        go_roundw
        case rel => exact ⟨k + 1, a5, c5, by omega, rfl, by go_num, by rw [hz2.out]; rfl, hq5.out, hb5⟩
        case measure => simp [intOf]; omega
    · obtain rfl : k = n := by omega
      have hall : win ls M k = ls.drop (k - M) := by rw [hn.out]; exact win_all ls M
      obtain ⟨f, hf⟩ : ∃ f, f = k - M := ⟨_, rfl⟩
      rw [← hf] at hall ⊢
      have hfk : f ≤ k := by omega
      have hlk : (win ls M k).length = k - f := by have := hn.out; omega
      have hlk2 : (ls.drop f).length = k - f := by have := hn.out; simp; omega
      rw [hall] at hq hlk
      have L1 := Lib.hid (list_any wr _ _ _ _ _ _ hq (by omega))
      have cut : ∀ w, _ := fun w => run_cut_l Try.underlying26 Try.sizeInt a0 k k0 f (L := (f : Int)) (kl := .i64) rfl hfk w
      have hcn : NumsAt .i64 W (cutA a0 k0 f 1) (ls.drop f) := i0.cut (by have := hn.out; omega)
      clear hf hwl
      replace hall := Lib.hid hall
      replace hcn := Lib.hid hcn
      replace hlk := Lib.hid hlk
      replace hlk2 := Lib.hid hlk2
      go_wp2_with fail
      refine L1.out.mono ?_
      rintro e w2 ⟨a2, c2, rfl, ho2, hb2⟩
      rw [hlk2.out] at ho2 ⊢
      have hb2' := btrans hb hb2
      have E1 := eq_ints w2 a2 (cutA a0 k0 f 1) (k - f) c2 (k - f) (k0 - f) (ls.drop f) (ls.drop f) (NumsAt.of_owns ho2) (hcn.out.below hb2') hlk2.out.symm hlk2.out.symm (by omega) (by omega)
      rw [decide_eq_true rfl] at E1
      replace E1 := Lib.hid E1
      clear L1 ho2
      go_wp2_with fail
      refine E1.out.mono ?_
      rintro e w3 ⟨rfl, hk3⟩
      have hb3 := hb2'.trans (hk3.below _)
      clear E1
      go_wp2_with fail
      refine (works_true _).mono ?_
      rintro e w4 ⟨rfl, hb4⟩
      go_wp2
      go_ret
      exact ⟨rfl, btrans hb3 hb4⟩
end Go.Proofs.Ytfbddadnnpjjjaa
