/- The walk of 'LexBack'. Conditions: what the listed variables hold. -/
import Derived.Test.YtahcgbaaimmkfaaDoorLexA
import Derived.Test.YtahcgbaaimmkfaaDoorLexE
namespace Go.Proofs.YtahcgbaaimmkfaaDoor
open Go.RowKit
set_option linter.unusedVariables false

theorem scanF_err (L : List UInt8) : ∀ (f a : Nat) (acc : List Tk), (scanF L f a acc).e ≠ 0 → (scanF L f a acc).toks = []
  | 0, a, acc, h => absurd rfl h
  | f + 1, a, acc, h => by
    rw [scanF] at h ⊢
    split at h
    · rename_i h1
      rw [if_pos h1]
      split at h
      · rename_i h2
        rw [if_pos h2]
      · rename_i h2
        rw [if_neg h2]
        split at h
        · rfl
        · exact scanF_err L f _ _ h
    · exact absurd rfl h
theorem scan_err (L : List UInt8) (h : (scanLex L).e ≠ 0) : (scanLex L).toks = [] := by
  unfold scanLex at h ⊢
  split at h
  · rename_i h1; rw [if_pos h1]
  · rename_i h1
    rw [if_neg h1]
    exact scanF_err L _ _ _ h
theorem good_tell {t : Tk} (h : GoodT t) : tellT t = t.text ∧ -9223372036854775808 ≤ t.n ∧ t.n ≤ 9223372036854775807 := by
  have h1 := h.2 [] (.inl rfl)
  rw [List.append_nil] at h1
  unfold oneP at h1
  unfold tellT
  split at h1
  · split at h1
    · cases h1
    · injection h1 with e1 e2 e3
      rw [if_neg (by omega), ← e2]
      exact ⟨rfl, by omega, by omega⟩
  · split at h1
    · split at h1
      · rename_i hn
        injection h1 with e1 e2 e3
        obtain ⟨a, b⟩ := numP_true hn
        have hb : -1048576 ≤ (numP (t.text.take (runB isDig t.text))).1 ∧ (numP (t.text.take (runB isDig t.text))).1 ≤ 1048576 := of_decide_eq_true a
        rw [if_pos e1.symm]
        rw [e2] at b hb
        rw [e3, List.take_length] at b
        exact ⟨b, by omega, by omega⟩
      · cases h1
    · split at h1
      · injection h1 with e1 e2 e3
        rw [if_neg (by omega), ← e2]
        exact ⟨rfl, by omega, by omega⟩
      · cases h1
theorem TokAt.of_ownR {w : World} {base e : Nat} {a : Option Addr} {c n : Nat} {T : List Tk} (hn : n = T.length) (h : OwnR w base e 4 a n c (tcells T)) : TokAt w a T := fun h0 => by
  subst hn
  obtain ⟨g, e, _, hl⟩ := OwnR.addr h h0
  subst e
  refine ⟨g, 0, rfl, hl, fun i hi j v hj => ?_⟩
  have hj4 : j < 4 := (List.getElem?_eq_some_iff.1 hj).1
  rw [Nat.zero_add, OwnR.cell h (i * 4 + j) (by omega)]
  exact tcells_at T i hi j v hj
set_option maxRecDepth 8000 in
set_option maxHeartbeats 8000000 in
theorem lexBack_walk (W : World) (hd : Door W) (s : ByteArray) (hsz : s.size ≤ reachBytes) : Calls Tryd.prog 5 #[.string s] W fun e w' => e = .returned (.bool true) ∧ Below W.heap.size W w' := by
  clear hsz
  have AW := Lib.hid (fun v (hb : Below W.heap.size W v) => awake_true v (hd.below hb))
  by_cases hl : s.size ≤ 3000
  · have hlI : ¬ (3000 : Int) < (s.size : Int) := by omega
    have S1 := Lib.hid (scan_any W hd s (by omega))
    have hLl : s.data.toList.length ≤ 3000 := by rw [Array.length_toList]; exact hl
    have LB := lex_back s.data.toList hLl
    have SE := scan_err s.data.toList
    have GT : ∀ t ∈ (scanLex s.data.toList).toks, GoodT t := by
      unfold scanLex
      split
      · intro t ht; cases ht
      · exact scan_good _ _ _ [] (fun t ht => by cases ht)
    have SS : sumT (scanLex s.data.toList).toks ≤ s.data.toList.length ∧ (scanLex s.data.toList).toks.length ≤ s.data.toList.length := by
      unfold scanLex
      split
      · exact ⟨Nat.zero_le _, Nat.zero_le _⟩
      · exact scan_sum _ _ _ [] (skipG_le _ _) (Nat.zero_le _) (Nat.zero_le _)
    generalize scanLex s.data.toList = r at S1 LB SE GT SS
    obtain ⟨T, at_, e⟩ := r
    dsimp only at LB SE GT SS
    have hjl := join_len T
    have hT3 : T.length ≤ 3000 := by omega
    have hJ : T.map tellT = T.map (fun t => t.text) := List.map_congr_left (fun t ht => (good_tell (GT t ht)).1)
    have TX := Lib.hid (fun v (hb : Below W.heap.size W v) a c (ht : TokAt v a T) => by
      have h := text_any v (hd.below hb) a c T ht (by omega) (fun t ht => (good_tell (GT t ht)).2) (by rw [hJ]; omega)
      rw [hJ] at h
      exact h)
    obtain ⟨u, hu⟩ : ∃ u : ByteArray, u = ⟨(joinT (T.map (fun t => t.text))).toArray⟩ := ⟨_, rfl⟩
    rw [← hu] at TX
    have hus : u.size ≤ 281474976710656 := by
      rw [hu]
      show (joinT (T.map (fun t => t.text))).toArray.size ≤ _
      rw [List.size_toArray]
      omega
    have S2 := Lib.hid (fun v (hb : Below W.heap.size W v) => scan_any v (hd.below hb) u hus)
    obtain ⟨U, hU1, hU2⟩ := LB
    have hud : u.data.toList = joinT (T.map (fun t => t.text)) := by rw [hu]
    rw [hud, hU1] at S2
    have hUl : U.length = T.length := by have := congrArg List.length hU2; simpa using this
    have BT := Lib.hid (fun v a c (ht : TokAt v a T) => back_any v a c T ht (by omega))
    have BU := Lib.hid (fun v a c (ht : TokAt v a U) => back_any v a c U ht (by omega))
    have SM := Lib.hid (fun v a1 a2 c1 c2 (h1 : TokAt v a1 T) (h2 : TokAt v a2 U) => same_any v a1 a2 c1 c2 T U h1 h2 hU2.symm (by omega))
    clear hud hus hu hJ hjl SS GT hLl hd hl hU1 hU2
    by_cases he : e = 0
    · subst he
      obtain ⟨n, hn⟩ : ∃ n, n = T.length := ⟨_, rfl⟩
      rw [hUl, ← hn] at SM
      rw [hUl, ← hn] at BU
      rw [← hn] at BT TX
      have hUn := Lib.hid (hUl.trans hn.symm)
      replace hn := Lib.hid hn
      clear SE hUl hT3
      go_enter Tryd.func5, Tryd.ntmps5
      go_wp2_with fail
      refine S1.out.mono ?_
      rintro e9 w1 ⟨⟨oa, oc, rfl, own⟩, hb1⟩
      have z1 := Lib.hid hb1
      have T1 := Lib.hid (TokAt.of_own own)
      clear hb1 S1 own
      dsimp only
      rw [← hn.out, show ((0 : Nat) : Int) = 0 from rfl]
      go_wp2_with fail
      refine (TX.out w1 z1.out oa oc T1.out).mono ?_
      rintro e9 w2 ⟨rfl, hb2⟩
      have z2 := Lib.hid (btrans z1.out hb2)
      have T2 := Lib.hid (T1.out.below hb2)
      clear hb2 T1 TX
      go_wp2_with fail
      refine (S2.out w2 z2.out).mono ?_
      rintro e9 w3 ⟨⟨ob, od, rfl, own⟩, hb3⟩
      have z3 := Lib.hid (btrans z2.out hb3)
      have T3 := Lib.hid (T2.out.below hb3)
      have U3 := Lib.hid (TokAt.of_own own)
      clear hb3 T2 S2 own
      dsimp only
      rw [hUn.out, show ((0 : Nat) : Int) = 0 from rfl]
      go_wp2_with fail
      refine (BT.out w3 oa oc T3.out).mono ?_
      rintro e9 w4 ⟨⟨o4, c4, rfl, own4⟩, hb4⟩
      have z4 := Lib.hid (btrans z3.out hb4)
      have A4 := Lib.hid (TokAt.of_ownR hn.out own4)
      have U4 := Lib.hid (U3.out.below hb4)
      clear hb4 own4 T3 U3 BT
      go_wp2_with fail
      refine (BU.out w4 ob od U4.out).mono ?_
      rintro e9 w5 ⟨⟨o5, c5, rfl, own5⟩, hb5⟩
      have z5 := Lib.hid (btrans z4.out hb5)
      have A5 := Lib.hid (A4.out.below hb5)
      have B5 := Lib.hid (TokAt.of_ownR hUn.out.symm own5)
      clear hb5 own5 A4 U4 BU
      go_wp2_with fail
      refine (SM.out w5 o4 o5 c4 c5 A5.out B5.out).mono ?_
      rintro e9 w6 ⟨rfl, hq6⟩
      have z6 := Lib.hid (btrans z5.out (hq6.below w5.heap.size))
      clear hq6 SM A5 B5
      go_wp2_with fail
      refine (AW.out w6 z6.out).mono ?_
      rintro e9 w7 ⟨rfl, hb7⟩
      go_wp2
      go_ret
      exact ⟨rfl, btrans z6.out hb7⟩
    · have heb : ((e : Int) == 0) = false := by rw [beq_eq_false_iff_ne]; omega
      have hT0 := SE he
      subst hT0
      clear SE he
      go_enter Tryd.func5, Tryd.ntmps5
      go_wp2_with fail
      refine S1.out.mono ?_
      rintro e9 w1 ⟨⟨oa, oc, rfl, own⟩, hb1⟩
      have z1 := Lib.hid hb1
      clear hb1 S1 own
      dsimp only
      go_wp2_with fail
      refine (AW.out w1 z1.out).mono ?_
      rintro e9 w9 ⟨rfl, hb9⟩
      go_wp2
      go_ret
      exact ⟨rfl, btrans z1.out hb9⟩
  · have hlI : (3000 : Int) < (s.size : Int) := by omega
    clear hd hl
    go_enter Tryd.func5, Tryd.ntmps5
    go_wp2_with fail
    refine (AW.out W (Below.refl _ _)).mono ?_
    rintro e w1 ⟨rfl, hb1⟩
    go_wp2
    go_ret
    exact ⟨rfl, hb1⟩
end Go.Proofs.YtahcgbaaimmkfaaDoor
