/- The walk of 'RingTurns': true for every input. No conditions. -/
import Derived.Test.YtfbddadnnpjjjaaRingMany
import Derived.Test.YtfbddadnnpjjjaaRingRound
namespace Go.Proofs.Ytfbddadnnpjjjaa
open Go.RowKit

theorem take_nth (ls : List Int) (k : Nat) (h : k < ls.length) : ls.take k ++ [nthI ls k] = ls.take (k + 1) := by
  rw [List.take_succ_eq_append_getElem h]
  simp [nthI, List.getD, h]
theorem rev_nth (ls : List Int) (k : Nat) (h : k < ls.length) : nthI ls k :: (ls.take k).reverse = (ls.take (k + 1)).reverse := by
  rw [← take_nth ls k h, List.reverse_append]
  rfl
theorem drop_nth (ls : List Int) (k : Nat) (h : k < ls.length) : ls.drop k = nthI ls k :: ls.drop (k + 1) := by
  rw [List.drop_eq_getElem_cons h]
  simp [nthI, List.getD, h]
theorem last_snoc (l : List Int) (x : Int) : (l ++ [x]).getD ((l ++ [x]).length - 1) 0 = x ∧ (l ++ [x]).eraseIdx ((l ++ [x]).length - 1) = l := by
  constructor
  · simp [List.getD]
  · rw [List.length_append, List.length_singleton, Nat.add_sub_cancel, List.eraseIdx_append_of_length_le (Nat.le_refl _), Nat.sub_self]
    simp

set_option maxRecDepth 10000 in
set_option maxHeartbeats 4000000 in
theorem ringTurns_walk (W : World) (v1 : Value) (ls : List Int) (h1 : rSl 1 8 (rInt .i64) W [v1] ls) :
    Calls Try.prog 4 #[v1] W fun e w' => e = .returned (.bool true) ∧ Below W.heap.size W w' := by
  obtain ⟨a0, k0, rfl, l0, lc, i0, r0⟩ := NumsAt.of_rSl h1
  clear h1 r0 l0
  obtain ⟨n, hn⟩ : ∃ n, n = ls.length := ⟨_, rfl⟩
  rw [← hn] at lc ⊢
  by_cases g0 : 100 < n
  · have hg : decide ((100 : Int) < (n : Int)) = true := by simp; omega
    go_enter Try.func4, Try.ntmps4
    go_wp2_with (go_at_call 8; refine (works_true _).mono ?_; rintro e w' ⟨rfl, hb⟩)
    go_ret
    exact ⟨rfl, hb⟩
  have hg : decide ((100 : Int) < (n : Int)) = false := by simp; omega
  have hn2 : n ≤ 100 := by omega
  have hmost : mostP n = (n : Int) := by unfold mostP; omega
  replace hmost := Lib.hid hmost
  replace hn := Lib.hid hn
  clear g0
  go_enter Try.func4, Try.ntmps4
  have m0 : Many W W n [] := ⟨fun i r h => by simp at h, Below.refl _ _, fun i j r s _ h => by simp at h⟩
  go_wp2_with fail
  refine (new_any _ _).mono ?_
  rintro e w1 ⟨rfl, hq1, hb1⟩
  rw [hmost.out] at hq1
  have m1 := m0.add (r := ⟨W.heap.size, none, 0, []⟩) hb1 hq1
  go_wp2_with fail
  refine (new_any _ _).mono ?_
  rintro e w2 ⟨rfl, hq2, hb2⟩
  rw [hmost.out] at hq2
  have m2 := m1.add (r := ⟨w1.heap.size, none, 0, []⟩) hb2 hq2
  go_wp2_with fail
  refine (new_any _ _).mono ?_
  rintro e w3 ⟨rfl, hq3, hb3⟩
  rw [hmost.out] at hq3
  have m3 := m2.add (r := ⟨w2.heap.size, none, 0, []⟩) hb3 hq3
  go_wp2_with fail
  refine (new_any _ _).mono ?_
  rintro e w4 ⟨rfl, hq4, hb4⟩
  rw [hmost.out] at hq4
  have m4 := m3.add (r := ⟨w3.heap.size, none, 0, []⟩) hb4 hq4
  simp only [List.nil_append, List.cons_append] at m4
  clear m0 m1 m2 m3 hq1 hq2 hq3 hq4 hb1 hb2 hb3 hb4
  obtain ⟨q1, e1⟩ : ∃ q, q = W.heap.size := ⟨_, rfl⟩
  obtain ⟨q2, e2⟩ : ∃ q, q = w1.heap.size := ⟨_, rfl⟩
  obtain ⟨q3, e3⟩ : ∃ q, q = w2.heap.size := ⟨_, rfl⟩
  obtain ⟨q4, e4⟩ : ∃ q, q = w3.heap.size := ⟨_, rfl⟩
  rw [← e1, ← e2, ← e3, ← e4] at m4
  rw [← e2, ← e3, ← e4, ← e1]
  replace e1 := Lib.hid e1
  clear e2 e3 e4
  go_wp2_with fail
  go_loopw [2, 7] (fun r i wr => ∃ (k : Nat) (a1 a2 a3 a4 : Option Addr) (c1 c2 c3 c4 : Nat), k ≤ n ∧ r = .bool false ∧ i = .int .i64 k ∧
    Many wr W n [⟨q1, a1, c1, ls.take k⟩, ⟨q2, a2, c2, ls.take k⟩, ⟨q3, a3, c3, (ls.take k).reverse⟩, ⟨q4, a4, c4, (ls.take k).reverse⟩]) (fun _ i _ => n - (intOf i).toNat)
  case atStart => exact ⟨0, none, none, none, none, 0, 0, 0, 0, Nat.zero_le _, rfl, rfl, by simpa using m4⟩
  case round =>
    obtain ⟨k, a1, a2, a3, a4, c1, c2, c3, c4, hk, rfl, rfl, m5⟩ := hrel
    clear m4
    by_cases hlt : k < n
    · have hkl : k < ls.length := by have := hn.out; omega
      obtain ⟨x, hx⟩ : ∃ x, x = nthI ls k := ⟨_, rfl⟩
      have g1 := take_nth ls k hkl
      have g2 := rev_nth ls k hkl
      rw [← hx] at g1 g2
      have hlen : (ls.take k).length = k := by simp; omega
      obtain ⟨b, off, ha0, hbl, ck⟩ := i0.nth m5.below k hkl
      have hread := fun (w : World) (hb : Below W.heap.size W w) => i0.nth hb k hkl
      rw [ha0] at hread
      rw [← hx] at ck hread
      have hread2 : ∀ w, Below W.heap.size W w → w.cell? ⟨b, off + k, none⟩ = some (.int .i64 x) := fun w hb => by
        obtain ⟨_, _, h1, _, h2⟩ := hread w hb
        cases h1
        exact h2
      replace hread2 := Lib.hid hread2
      subst ha0
      replace hx := Lib.hid hx
      replace g1 := Lib.hid g1
      replace g2 := Lib.hid g2
      replace hlen := Lib.hid hlen
      clear hread
      have P := Lib.hid (many_put m5 (i := 0) (r := ⟨_, _, _, _⟩) rfl (by rw [hlen.out]; omega) (by rw [hlen.out]; omega) x _ g1.out)
      go_wp2_with fail
      refine P.out.mono ?_
      rintro e w6 ⟨a1', c1', rfl, m6⟩
      simp only [List.set] at m6
      clear P m5 ck
      have ck := hread2.out w6 m6.below
      have P := Lib.hid (many_put m6 (i := 1) (r := ⟨_, _, _, _⟩) rfl (by rw [hlen.out]; omega) (by rw [hlen.out]; omega) x _ g1.out)
      go_wp2_with fail
      refine P.out.mono ?_
      rintro e w7 ⟨a2', c2', rfl, m7⟩
      simp only [List.set] at m7
      clear P m6 ck
      have ck := hread2.out w7 m7.below
      have P := Lib.hid (many_push m7 (i := 2) (r := ⟨_, _, _, _⟩) rfl (by rw [List.length_reverse, hlen.out]; omega) (by rw [List.length_reverse, hlen.out]; omega) x _ g2.out)
      go_wp2_with fail
      refine P.out.mono ?_
      rintro e w8 ⟨a3', c3', rfl, m8⟩
      simp only [List.set] at m8
      clear P m7 ck
      have ck := hread2.out w8 m8.below
      have P := Lib.hid (many_push m8 (i := 3) (r := ⟨_, _, _, _⟩) rfl (by rw [List.length_reverse, hlen.out]; omega) (by rw [List.length_reverse, hlen.out]; omega) x _ g2.out)
      go_wp2_with fail
      refine P.out.mono ?_
      rintro e w9 ⟨a4', c4', rfl, m9⟩
      simp only [List.set] at m9
      clear P m8 ck
      replace m9 := Lib.hid m9
      go_wp2
      go_roundw
      case rel => exact ⟨k + 1, a1', a2', a3', a4', c1', c2', c3', c4', by omega, rfl, by go_num, m9.out⟩
      case measure => simp [intOf]; omega
    · obtain rfl : k = n := by omega
      have h1 : ls.take k = ls := List.take_of_length_le (by have := hn.out; omega)
      rw [h1] at m5
      clear h1
      go_wp2_with fail
      go_loopw [2, 8] (fun r i wr => ∃ (j : Nat) (a1 a2 a3 a4 : Option Addr) (c1 c2 c3 c4 : Nat), j ≤ k ∧ r = .bool false ∧ i = .int .i64 j ∧
        Many wr W k [⟨q1, a1, c1, ls.drop j⟩, ⟨q2, a2, c2, ls.take (k - j)⟩, ⟨q3, a3, c3, (ls.drop j).reverse⟩, ⟨q4, a4, c4, (ls.take (k - j)).reverse⟩]) (fun _ i _ => k - (intOf i).toNat)
      case atStart => exact ⟨0, a1, a2, a3, a4, c1, c2, c3, c4, Nat.zero_le _, rfl, rfl, by rw [Nat.sub_zero, List.drop_zero, List.take_of_length_le (by have := hn.out; omega)]; exact m5⟩
      case round =>
        clear m5 a1 a2 a3 a4 c1 c2 c3 c4 hk hlt
        obtain ⟨j, a1, a2, a3, a4, c1, c2, c3, c4, hj, rfl, rfl, m5⟩ := hrel
        by_cases hlt : j < k
        · have hkl : j < ls.length := by have := hn.out; omega
          obtain ⟨i, hi⟩ : ∃ i, i = k - (j + 1) := ⟨_, rfl⟩
          have hil : i < ls.length := by have := hn.out; omega
          obtain ⟨x, hx⟩ : ∃ x, x = nthI ls j := ⟨_, rfl⟩
          obtain ⟨y, hy⟩ : ∃ y, y = nthI ls i := ⟨_, rfl⟩
          have d1 := drop_nth ls j hkl
          have t1 := take_nth ls i hil
          rw [show i + 1 = k - j by omega] at t1
          rw [← hx] at d1
          rw [← hy] at t1
          have hread : ∀ w, Below W.heap.size W w → ∃ b off, a0 = some ⟨b, off, none⟩ ∧ w.cell? ⟨b, off + j, none⟩ = some (.int .i64 x) ∧ w.cell? ⟨b, off + i, none⟩ = some (.int .i64 y) := fun w hb => by
            obtain ⟨b, off, h1, _, h2⟩ := i0.nth hb j hkl
            obtain ⟨b', off', h3, _, h4⟩ := i0.nth hb i hil
            rw [h1] at h3
            cases h3
            exact ⟨b, off, h1, by rw [h2, hx], by rw [h4, hy]⟩
          have hI : (k : Int) - 1 - (j : Int) = (i : Int) := by omega
          have hdl : (ls.drop j).length = k - j := by have := hn.out; simp; omega
          have htl : (ls.take (k - j)).length = k - j := by have := hn.out; simp; omega
          have A1 : (ls.drop j).getD 0 0 = x ∧ (ls.drop j).eraseIdx 0 = ls.drop (j + 1) := by rw [d1]; exact ⟨rfl, rfl⟩
          have A2 : (ls.take (k - j)).getD ((ls.take (k - j)).length - 1) 0 = y ∧ (ls.take (k - j)).eraseIdx ((ls.take (k - j)).length - 1) = ls.take (k - (j + 1)) := by rw [← t1, ← hi]; exact last_snoc _ _
          have A3 : (ls.drop j).reverse.getD ((ls.drop j).reverse.length - 1) 0 = x ∧ (ls.drop j).reverse.eraseIdx ((ls.drop j).reverse.length - 1) = (ls.drop (j + 1)).reverse := by rw [d1, List.reverse_cons]; exact last_snoc _ _
          have A4 : (ls.take (k - j)).reverse.getD 0 0 = y ∧ (ls.take (k - j)).reverse.eraseIdx 0 = (ls.take (k - (j + 1))).reverse := by rw [← t1, ← hi, List.reverse_append]; exact ⟨rfl, rfl⟩
          replace hdl := Lib.hid hdl
          replace htl := Lib.hid htl
          replace A1 := Lib.hid A1
          replace A2 := Lib.hid A2
          replace A3 := Lib.hid A3
          replace A4 := Lib.hid A4
          replace hread := Lib.hid hread
          replace hx := Lib.hid hx
          replace hy := Lib.hid hy
          have hkj := Lib.hid (show 0 < k - j ∧ k - j ≤ 100 by omega)
          have hik : i < k := by omega
          replace hi := Lib.hid hi
          clear d1 t1 hil hkl
          have P := Lib.hid (many_take m5 (i := 0) (r := ⟨_, _, _, _⟩) rfl (by rw [hdl.out]; exact hkj.out.1) (by rw [hdl.out]; have := hkj.out; omega) x _ A1.out.1 A1.out.2)
          go_wp2_with fail
          refine P.out.mono ?_
          rintro e w6 ⟨a1', c1', rfl, m6⟩
          simp only [List.set] at m6
          clear P m5
          have P := Lib.hid (many_last m6 (i := 1) (r := ⟨_, _, _, _⟩) rfl (by rw [htl.out]; exact hkj.out.1) (by rw [htl.out]; have := hkj.out; omega) y _ A2.out.1 A2.out.2)
          go_wp2_with fail
          refine P.out.mono ?_
          rintro e w7 ⟨a2', c2', rfl, m7⟩
          simp only [List.set] at m7
          clear P m6
          have P := Lib.hid (many_last m7 (i := 2) (r := ⟨_, _, _, _⟩) rfl (by rw [List.length_reverse, hdl.out]; exact hkj.out.1) (by rw [List.length_reverse, hdl.out]; have := hkj.out; omega) x _ A3.out.1 A3.out.2)
          go_wp2_with fail
          refine P.out.mono ?_
          rintro e w8 ⟨a3', c3', rfl, m8⟩
          simp only [List.set] at m8
          clear P m7
          have P := Lib.hid (many_take m8 (i := 3) (r := ⟨_, _, _, _⟩) rfl (by rw [List.length_reverse, htl.out]; exact hkj.out.1) (by rw [List.length_reverse, htl.out]; have := hkj.out; omega) y _ A4.out.1 A4.out.2)
          go_wp2_with fail
          refine P.out.mono ?_
          rintro e w9 ⟨a4', c4', rfl, m9⟩
          simp only [List.set] at m9
          clear P m8
          obtain ⟨b, off, rfl, r1, r2⟩ := hread.out w9 m9.below
          replace m9 := Lib.hid m9
          go_wp2
          go_roundw
          case rel => exact ⟨j + 1, a1', a2', a3', a4', c1', c2', c3', c4', by omega, rfl, by go_num, m9.out⟩
          case measure => simp [intOf]; omega
        · obtain rfl : j = k := by omega
          have L1 := Lib.hid (len_any wr _ _ _ _ _ _ (m5.at_ 0 _ rfl))
          have L2 := Lib.hid (len_any wr _ _ _ _ _ _ (m5.at_ 1 _ rfl))
          have L3 := Lib.hid (len_any wr _ _ _ _ _ _ (m5.at_ 2 _ rfl))
          have L4 := Lib.hid (len_any wr _ _ _ _ _ _ (m5.at_ 3 _ rfl))
          have z1 := Lib.hid (show (ls.drop j).length = 0 by have := hn.out; simp; omega)
          have hb := m5.below
          clear m5
          go_wp2_with fail
          refine L1.out.mono ?_
          rintro e w6 ⟨rfl, rfl⟩
          rw [z1.out]
          go_wp2_with fail
          refine L2.out.mono ?_
          rintro e w6 ⟨rfl, rfl⟩
          rw [show (ls.take (j - j)).length = 0 by simp]
          go_wp2_with fail
          refine L3.out.mono ?_
          rintro e w6 ⟨rfl, rfl⟩
          rw [List.length_reverse, z1.out]
          go_wp2_with fail
          refine L4.out.mono ?_
          rintro e w6 ⟨rfl, rfl⟩
          rw [show (ls.take (j - j)).reverse.length = 0 by simp]
          clear L1 L2 L3 L4
          go_wp2_with fail
          refine (works_true _).mono ?_
          rintro e w7 ⟨rfl, hb7⟩
          go_wp2
          go_ret
          exact ⟨rfl, btrans hb hb7⟩
end Go.Proofs.Ytfbddadnnpjjjaa
