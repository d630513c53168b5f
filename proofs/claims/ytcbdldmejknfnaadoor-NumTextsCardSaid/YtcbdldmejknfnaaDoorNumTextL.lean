/- The walk of 'NumTexts'. Conditions: what the listed variables hold. -/
import Derived.Test.YtcbdldmejknfnaaDoorNumTextS
import Derived.Test.YtcbdldmejknfnaaDoorOpen
namespace Go.Proofs.YtcbdldmejknfnaaDoor
open Go.RowKit
set_option linter.unusedVariables false

theorem itoa_len (n : Int) (h0 : -9223372036854775808 ≤ n) (h1 : n ≤ 9223372036854775807) : (⟨(Lib.itoa n).toArray⟩ : ByteArray).size ≤ 21 := by
  show (Lib.itoa n).toArray.size ≤ 21
  rw [List.size_toArray]
  unfold Lib.itoa
  split
  · rw [List.length_cons, Lib.decDigits_length]
    have := nDig_20 n.natAbs (by omega)
    omega
  · rw [Lib.decDigits_length]
    have := nDig_20 n.toNat (by omega)
    omega
set_option maxHeartbeats 4000000 in
theorem numTexts_walk (W : World) (hd : Door W) (n : Int) (hn : -9223372036854775808 ≤ n ∧ n ≤ 9223372036854775807) (s : ByteArray) :
    Calls Tryd.prog 3 #[.int .i64 n, .string s] W fun e w' => e = .returned (.bool true) ∧ Below W.heap.size W w' := by
  by_cases hl : (s.size : Int) ≤ 100
  · have hsz : s.size ≤ 281474976710656 := by omega
    obtain ⟨u, hu⟩ : ∃ u : ByteArray, u = ⟨(Lib.itoa n).toArray⟩ := ⟨_, rfl⟩
    have hul : u.size ≤ 281474976710656 := by rw [hu]; have := itoa_len n hn.1 hn.2; omega
    have hud : u.data.toList = Lib.itoa n := ((str_eq _ _).1 hu.symm).symm
    have D := Lib.hid (fun w (hb : Below W.heap.size W w) => decimal_any w (hd.below hb) n hn.1 hn.2)
    have R := Lib.hid (fun w => rdecimal_any w n hn.1 hn.2)
    have N1 := Lib.hid (fun w (hb : Below W.heap.size W w) => number_any w (hd.below hb) s hsz)
    have N2 := Lib.hid (fun w (hb : Below W.heap.size W w) => number_any w (hd.below hb) u hul)
    have RN := Lib.hid (fun w => rnumber_any w s hsz)
    rw [← hu] at D R
    rw [← num_same] at RN
    rw [hud] at N2
    have hT := fun h => numP_true (l := s.data.toList) h
    obtain ⟨hB1, hB2⟩ := num_back n hn.1 hn.2
    obtain ⟨⟨k, b⟩, hp⟩ : ∃ p, p = numP s.data.toList := ⟨_, rfl⟩
    rw [← hp] at N1 RN hT
    obtain ⟨⟨l, c⟩, hq⟩ : ∃ p, p = numP (Lib.itoa n) := ⟨_, rfl⟩
    rw [← hq] at N2 hB1 hB2
    dsimp only at N1 RN hT N2 hB1 hB2
    have K := Lib.hid (fun w (hb : Below W.heap.size W w) (hk : within6 k = true) => decimal_any w (hd.below hb) k (by have := of_decide_eq_true hk; omega) (by have := of_decide_eq_true hk; omega))
    have LV := Lib.hid (fun w => lives_true w)
    have hb0 := Lib.hid (Below.refl W.heap.size W)
    replace hT := Lib.hid hT
    clear hp hq hu hud hul hsz hd
    go_enter Tryd.func3, Tryd.ntmps3
    go_wp2_with fail
    refine (D.out W hb0.out).mono ?_
    rintro e w1 ⟨rfl, hb1⟩
    have g1 := Lib.hid hb1
    clear hb1
    go_wp2_with fail
    refine (N1.out w1 g1.out).mono ?_
    rintro e w2 ⟨rfl, hb2⟩
    have g2 := Lib.hid (btrans g1.out hb2)
    clear hb2
    go_wp2_with fail
    refine (RN.out w2).mono ?_
    rintro e w3 ⟨rfl, hb3⟩
    have g3 := Lib.hid (btrans g2.out hb3)
    clear hb3
    go_wp2_with fail
    refine (N2.out w3 g3.out).mono ?_
    rintro e w4 ⟨rfl, hb4⟩
    have g4 := Lib.hid (btrans g3.out hb4)
    clear hb4
    go_wp2_with fail
    refine (R.out w4).mono ?_
    rintro e w5 ⟨rfl, hb5⟩
    have g5 := Lib.hid (btrans g4.out hb5)
    clear hb5 g1 g2 g3 g4 D R N1 N2 RN
    cases b with
    | true =>
      obtain ⟨hk1, hk2⟩ := hT.out rfl
      have hks : (⟨(Lib.itoa k).toArray⟩ : ByteArray) = s := (str_eq _ _).2 hk2
      have K2 := K.out w5 g5.out hk1
      rw [hks] at K2
      replace K2 := Lib.hid K2
      clear K hT hks hk1 hk2
      go_wp2_with fail
      refine K2.out.mono ?_
      rintro e w6 ⟨rfl, hb6⟩
      have g6 := Lib.hid (btrans g5.out hb6)
      clear hb6 K2
      cases hc : within6 n with
      | true =>
        have hln := hB2 hc
        obtain ⟨h1, h2⟩ := (show -1048576 ≤ n ∧ n ≤ 1048576 from of_decide_eq_true hc)
        rw [hc] at hB1
        subst hB1
        subst hln
        clear hB2 hc hn
        go_wp2_with fail
        refine (LV.out _).mono ?_
        rintro e w9 ⟨rfl, hb9⟩
        go_wp2
        go_ret
        exact ⟨rfl, btrans g6.out hb9⟩
      | false =>
        have hno : ¬ (-1048576 ≤ n ∧ n ≤ 1048576) := of_decide_eq_false hc
        rw [hc] at hB1
        subst hB1
        clear hB2 hc hn
        by_cases h1 : n < -1048576
        · clear hno
          by_cases hln : l = n
          · subst hln
            go_wp2_with fail
            refine (LV.out _).mono ?_
            rintro e w9 ⟨rfl, hb9⟩
            go_wp2
            go_ret
            exact ⟨rfl, btrans g6.out hb9⟩
          · have hlb : (l == n) = false := by simpa using hln
            go_wp2_with fail
            refine (LV.out _).mono ?_
            rintro e w9 ⟨rfl, hb9⟩
            go_wp2
            go_ret
            exact ⟨rfl, btrans g6.out hb9⟩
        · have h2 : ¬ n ≤ 1048576 := by omega
          have h2b : decide (n ≤ 1048576) = false := decide_eq_false h2
          have h1 : -1048576 ≤ n := by omega
          clear hno
          by_cases hln : l = n
          · subst hln
            go_wp2_with fail
            refine (LV.out _).mono ?_
            rintro e w9 ⟨rfl, hb9⟩
            go_wp2
            go_ret
            exact ⟨rfl, btrans g6.out hb9⟩
          · have hlb : (l == n) = false := by simpa using hln
            go_wp2_with fail
            refine (LV.out _).mono ?_
            rintro e w9 ⟨rfl, hb9⟩
            go_wp2
            go_ret
            exact ⟨rfl, btrans g6.out hb9⟩
    | false =>
      clear hT K
      cases hc : within6 n with
      | true =>
        have hln := hB2 hc
        obtain ⟨h1, h2⟩ := (show -1048576 ≤ n ∧ n ≤ 1048576 from of_decide_eq_true hc)
        rw [hc] at hB1
        subst hB1
        subst hln
        clear hB2 hc hn
        go_wp2_with fail
        refine (LV.out _).mono ?_
        rintro e w9 ⟨rfl, hb9⟩
        go_wp2
        go_ret
        exact ⟨rfl, btrans g5.out hb9⟩
      | false =>
        have hno : ¬ (-1048576 ≤ n ∧ n ≤ 1048576) := of_decide_eq_false hc
        rw [hc] at hB1
        subst hB1
        clear hB2 hc hn
        by_cases h1 : n < -1048576
        · clear hno
          by_cases hln : l = n
          · subst hln
            go_wp2_with fail
            refine (LV.out _).mono ?_
            rintro e w9 ⟨rfl, hb9⟩
            go_wp2
            go_ret
            exact ⟨rfl, btrans g5.out hb9⟩
          · have hlb : (l == n) = false := by simpa using hln
            go_wp2_with fail
            refine (LV.out _).mono ?_
            rintro e w9 ⟨rfl, hb9⟩
            go_wp2
            go_ret
            exact ⟨rfl, btrans g5.out hb9⟩
        · have h2 : ¬ n ≤ 1048576 := by omega
          have h2b : decide (n ≤ 1048576) = false := decide_eq_false h2
          have h1 : -1048576 ≤ n := by omega
          clear hno
          by_cases hln : l = n
          · subst hln
            go_wp2_with fail
            refine (LV.out _).mono ?_
            rintro e w9 ⟨rfl, hb9⟩
            go_wp2
            go_ret
            exact ⟨rfl, btrans g5.out hb9⟩
          · have hlb : (l == n) = false := by simpa using hln
            go_wp2_with fail
            refine (LV.out _).mono ?_
            rintro e w9 ⟨rfl, hb9⟩
            go_wp2
            go_ret
            exact ⟨rfl, btrans g5.out hb9⟩
  · have LV := Lib.hid (fun w => lives_true w)
    clear hd hn
    go_enter Tryd.func3, Tryd.ntmps3
    go_wp2_with fail
    refine (LV.out W).mono ?_
    rintro e w1 ⟨rfl, hb1⟩
    go_wp2
    go_ret
    exact ⟨rfl, hb1⟩
theorem numTextsW (W : World) (hd : Door W) (n : Int) (hn : -9223372036854775808 ≤ n ∧ n ≤ 9223372036854775807) (s : ByteArray) (hs : s.size ≤ reachBytes) :
    Calls Tryd.prog 3 #[.int .i64 n, .string s] W fun e w' => e = .returned (.bool true) ∧ Below W.heap.size W w' := numTexts_walk W hd n hn s
end Go.Proofs.YtcbdldmejknfnaaDoor
