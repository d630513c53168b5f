/- The walk of 'RingBounds': true for every input. No conditions. -/
import Derived.Test.YtfbddadnnpjjjaaRingNone
import Derived.Deep.DeepCutAuto
namespace Go.Proofs.Ytfbddadnnpjjjaa
open Go.RowKit

def upI (k : Nat) : List Int := (List.range k).map Int.ofNat
theorem upI_len (k : Nat) : (upI k).length = k := by simp [upI]
theorem upI_succ (k : Nat) : upI k ++ [(k : Int)] = upI (k + 1) := by simp [upI, List.range_succ]
theorem put_told (w : World) (B q : Nat) (m : Int) (a : Option Addr) (c : Nat) (xs : List Int) (h : QAt w B q m a c xs) (hx : xs.length ≤ 70000) (x : Int) (b : Bool) (hb : b = decide ((xs.length : Int) < m)) :
    Calls Try.prog 11 #[.pointer (some ⟨q, 0, none⟩), .int .i64 x] w fun e w' => e = .returned (.bool b) ∧ Keeps w w' (fun j => j = q ∨ OI a xs.length c = some j) := by
  subst hb
  by_cases hm : (xs.length : Int) < m
  · rw [decide_eq_true hm]
    exact (put_t w B q m a c xs h hm hx x).mono fun e w' ⟨_, _, h1, _, h3⟩ => ⟨h1, h3.1⟩
  · rw [decide_eq_false hm]
    exact (put_no w B q m a c xs h (by omega) x).mono fun e w' ⟨h1, h3⟩ => ⟨h1, Keeps.of_below (h3.below _)⟩
set_option maxRecDepth 10000 in
set_option maxHeartbeats 4000000 in
theorem ringBounds_walk (W : World) (m0 : Int) (hm : -9223372036854775808 ≤ m0 ∧ m0 ≤ 9223372036854775807) :
    Calls Try.prog 6 #[.int .i64 m0] W fun e w' => e = .returned (.bool true) ∧ Below W.heap.size W w' := by
  obtain ⟨M, hM⟩ : ∃ M : Nat, mostP m0 = M := ⟨(mostP m0).toNat, by unfold mostP; omega⟩
  obtain ⟨n, hn⟩ : ∃ n, n = min M 300 := ⟨_, rfl⟩
  have hM65 : M ≤ 65536 := by unfold mostP at hM; omega
  have R := fun w => rmost_any w m0
  rw [hM] at R
  replace R := Lib.hid R
  have N := fun w => new_any w m0
  rw [hM] at N
  replace N := Lib.hid N
  clear hM hm
  have hn3 : n ≤ 300 := by omega
  have hnM : n ≤ M := by omega
  have hnx := Lib.hid hn
  go_enter Try.func6, Try.ntmps6
  go_wp2_with fail
  refine (N.out _).mono ?_
  rintro e w1 ⟨rfl, hq1, hb1⟩
  go_wp2_with fail
  refine (R.out _).mono ?_
  rintro e w2 ⟨rfl, rfl⟩
  go_upto_if 21 with (fail)
  go_cut [4] (fun t wx => t = .int .i64 n ∧ wx = w1)
  case first =>
    by_cases hbig : 300 < M
    · have hb' : decide ((300 : Int) < (M : Int)) = true := by simp; omega
      go_wp2
      go_meet
      exact ⟨by rw [hnx.out, Nat.min_eq_right (by omega)]; rfl, rfl⟩
    · have hb' : decide ((300 : Int) < (M : Int)) = false := by simp; omega
      go_wp2
      go_meet
      exact ⟨by rw [hnx.out, Nat.min_eq_left (by omega)], rfl⟩
  case rest =>
    obtain ⟨rfl, rfl⟩ := hcut
    obtain ⟨b, hb⟩ : ∃ b, b = decide ((n : Int) < (M : Int)) := ⟨_, rfl⟩
    replace hn := Lib.hid hn
    go_wp2_with fail
    go_loopw [2, 5] (fun r i wr => ∃ (k : Nat) (a : Option Addr) (c : Nat), k ≤ n ∧ r = .bool false ∧ i = .int .i64 k ∧ QAt wr W.heap.size W.heap.size M a c (upI k) ∧ Below W.heap.size W wr) (fun _ i _ => n - (intOf i).toNat)
    case atStart => exact ⟨0, none, 0, Nat.zero_le _, rfl, rfl, hq1, hb1⟩
    case round =>
      clear hq1 hb1
      obtain ⟨k, a, c, hk, rfl, rfl, hq, hbw⟩ := hrel
      have hul := Lib.hid (upI_len k)
      by_cases hlt : k < n
      · have P := put_t wr _ _ _ _ _ _ hq (by rw [hul.out]; omega) (by rw [hul.out]; omega) k
        rw [upI_succ] at P
        replace P := Lib.hid P
        clear hb
        go_wp2_with fail
        refine P.out.mono ?_
        rintro e w5 ⟨a5, c5, rfl, hq5, ht5⟩
        have hb5 := ht5.below hq hbw (Nat.le_refl _)
        clear hq hbw ht5 P
        replace hq5 := Lib.hid hq5
        go_wp2
        go_roundw
        case rel => exact ⟨k + 1, a5, c5, by omega, rfl, by go_num, hq5.out, hb5⟩
        case measure => simp [intOf]; omega
      · obtain rfl : k = n := by omega
        have hql := hq.box.lt
        have hol : ∀ j, OI a (upI k).length c = some j → j < wr.heap.size := fun j hj => (hq.own.lt2 hj).2
        obtain ⟨w2, hw2⟩ : ∃ w2, wr.alloc (.cells #[.bool false, .int .i64 0, .slice none 0 0] TQI) = w2 := ⟨_, rfl⟩
        have hB2 : Below wr.heap.size wr w2 := by rw [← hw2]; exact balloc (Below.refl _ _) _
        have rz : RowAt w2 wr.heap.size TQI [.bool false, .int .i64 0, .slice none 0 0] := by rw [← hw2]; exact RowAt.new #[.bool false, .int .i64 0, .slice none 0 0] rfl
        have z1 := noq_none w2
        have z2 := noq_zero w2 _ rz
        have T1 := Lib.hid (noq_take z1)
        have T2 := Lib.hid (noq_last z2)
        have T3 := Lib.hid (list_none w2 none z1)
        have T4 := Lib.hid (fun w (h : Below w2.heap.size w2 w) => list_none w (some ⟨wr.heap.size, 0, none⟩) (z2.below h))
        have F1 := Lib.hid (fun w (h : Below w2.heap.size w2 w) => by have := len_any w _ _ _ _ _ _ (hq.below (btrans hB2 h)); rw [hul.out] at this; exact this)
        have PT := Lib.hid (fun w (h : Below w2.heap.size w2 w) => put_told w _ _ _ _ _ _ (hq.below (btrans hB2 h)) (by rw [hul.out]; omega) 0 b (by rw [hul.out]; exact hb))
        have hzq := Lib.hid (show wr.heap.size ≠ W.heap.size by omega)
        have hzo : OI a (upI k).length c ≠ some wr.heap.size := fun e => by have := hol _ e; omega
        have hbB := hbw
        have hsq := hbw.size
        have hoB : ∀ j, OI a (upI k).length c = some j → W.heap.size ≤ j := fun j hj => (hq.own.lt2 hj).1
        replace hb : decide (k < M) = b := by rw [hb]; simp
        replace hzo := Lib.hid hzo
        replace hoB := Lib.hid hoB
        replace rz := Lib.hid rz
        clear hq z1 z2 hol hul hql hn3 hnM hM65
        go_wp2_with fail
        refine T1.out.mono ?_
        rintro e w3 ⟨rfl, rfl⟩
        go_wp2_with fail
        refine T2.out.mono ?_
        rintro e w3 ⟨rfl, rfl⟩
        go_wp2_with fail
        refine T3.out.mono ?_
        rintro e w3 ⟨a3, c3, rfl, _, hB3⟩
        clear T1 T2 T3
        have T5 := Lib.hid (T4.out w3 hB3)
        go_wp2_with fail
        refine T5.out.mono ?_
        rintro e w4 ⟨a4, c4, rfl, _, hB4⟩
        have hB4' := btrans hB3 hB4
        have F4 := Lib.hid (F1.out w4 hB4')
        have P4 := Lib.hid (PT.out w4 hB4')
        have rz4 := rz.out.below hB4'
        have hbl4 := btrans (btrans hbw hB2) hB4'
        clear T4 T5 F1 PT hB3 hB4 hB4' hB2 hw2 hbB hbw rz
        go_wp2_with fail
        refine F4.out.mono ?_
        rintro e w5 ⟨rfl, rfl⟩
        clear F4
        go_wp2_with fail
        refine P4.out.mono ?_
        rintro e w6 ⟨rfl, hk6⟩
        have rz6 := rz4.keeps hk6 (fun h => by
          rcases h with h | h
          · exact hzq.out h
          · exact hzo.out h)
        have hbl6 := hk6.below hbl4 (fun j hj => by
          rcases hj with rfl | hj
          · exact Nat.le_refl _
          · exact hoB.out j hj)
        have z1 := noq_none w6
        have z2 := noq_zero w6 _ rz6
        have G1 := Lib.hid (fun w (h : Below w6.heap.size w6 w) => noq_put (z1.below h) 1)
        have G2 := Lib.hid (fun w (h : Below w6.heap.size w6 w) => noq_put (z2.below h) 1)
        have G3 := Lib.hid (fun w (h : Below w6.heap.size w6 w) => noq_push (z1.below h) 1)
        have G4 := Lib.hid (fun w (h : Below w6.heap.size w6 w) => noq_push (z2.below h) 1)
        have G5 := Lib.hid (fun w (h : Below w6.heap.size w6 w) => z1.len w h)
        have G6 := Lib.hid (fun w (h : Below w6.heap.size w6 w) => z2.len w h)
        clear P4 hk6 rz4 rz6 z1 z2 hzq hzo hoB hbl4
        go_wp2_with fail
        refine (R.out _).mono ?_
        rintro e w7 ⟨rfl, rfl⟩
        have H1 := Lib.hid (G1.out w6 (Below.refl _ _))
        go_wp2_with fail
        refine H1.out.mono ?_
        rintro e w7 ⟨rfl, k7⟩
        have b7 := k7.below w6.heap.size
        have H2 := Lib.hid (G2.out w7 b7)
        go_wp2_with fail
        refine H2.out.mono ?_
        rintro e w8 ⟨rfl, k8⟩
        have b8 := b7.trans (k8.below w6.heap.size)
        have H3 := Lib.hid (G3.out w8 b8)
        go_wp2_with fail
        refine H3.out.mono ?_
        rintro e w9 ⟨rfl, k9⟩
        have b9 := b8.trans (k9.below w6.heap.size)
        have H4 := Lib.hid (G4.out w9 b9)
        go_wp2_with fail
        refine H4.out.mono ?_
        rintro e wa ⟨rfl, ka⟩
        have ba := b9.trans (ka.below w6.heap.size)
        have H5 := Lib.hid (G5.out wa ba)
        have H6 := Lib.hid (G6.out wa ba)
        clear H1 H2 H3 H4 G1 G2 G3 G4 G5 G6
        go_wp2_with fail
        refine H5.out.mono ?_
        rintro e wb ⟨rfl, rfl⟩
        go_wp2_with fail
        refine H6.out.mono ?_
        rintro e wb ⟨rfl, rfl⟩
        go_wp2_with fail
        refine (works_true _).mono ?_
        rintro e wc ⟨rfl, hbc⟩
        go_wp2
        go_ret
        exact ⟨rfl, btrans (btrans hbl6 ba) hbc⟩
end Go.Proofs.Ytfbddadnnpjjjaa
